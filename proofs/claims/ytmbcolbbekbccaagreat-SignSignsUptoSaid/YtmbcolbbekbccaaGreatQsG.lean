/- What some functions compute, and that they do. What more calls of packages field, curve and strings compute, over numbers in words. strings.Builder: what its methods do to a builder of the call's own. Conditions: as each theorem says. -/
import Derived.Test.YtmbcolbbekbccaaGreatRows
import Derived.Lib.Builder
import Derived.Lib.UnsafeStr
import Derived.LaidEql
import Derived.Laws.Externs
import Derived.Test.YtmbcolbbekbccaaGreatQsF
namespace Go.Proofs.YtmbcolbbekbccaaGreat
open Go Go.RowKit
section
attribute [local irreducible] wpList wpT Code.wp Calls Code.rounds
variable {S : Mem} {w : World}
theorem is34 : IsFn Tryz.prog 34 := isFn Tryz.func34
theorem is35 : IsFn Tryz.prog 35 := isFn Tryz.func35
theorem is41 : IsFn Tryz.prog 41 := isFn Tryz.func41
theorem is48 : IsFn Tryz.prog 48 := isFn Tryz.func48
theorem is61 : IsFn Tryz.prog 61 := isFn Tryz.func61
theorem eqt24 (x y : Qw) : EqR Tryz.prog 2 24 (.agg (cl24 x).toArray) (.agg (cl24 y).toArray) (x == y) :=
  EqR.arr (k := 4) (E := 22) (sz := 1) (by kernel_rfl) (fun w => sz22 w) (l := [(22, 0), (22, 1), (22, 2), (22, 3)]) rfl (EqL.cons (part1 (v := Value.int .u64 ((x.1.toNat : Int))) to22 rfl) (part1 (v := Value.int .u64 ((y.1.toNat : Int))) to22 rfl) (eqU64 u22) (EqL.cons (part1 (v := Value.int .u64 ((x.2.1.toNat : Int))) to22 rfl) (part1 (v := Value.int .u64 ((y.2.1.toNat : Int))) to22 rfl) (eqU64 u22) (EqL.cons (part1 (v := Value.int .u64 ((x.2.2.1.toNat : Int))) to22 rfl) (part1 (v := Value.int .u64 ((y.2.2.1.toNat : Int))) to22 rfl) (eqU64 u22) (EqL.last (part1 (v := Value.int .u64 ((x.2.2.2.toNat : Int))) to22 rfl) (part1 (v := Value.int .u64 ((y.2.2.2.toNat : Int))) to22 rfl) (eqU64 u22)))))
theorem tsz24 : TSz Tryz.prog 24 4 := fun _ => by kernel_rfl
theorem tsz26 : TSz Tryz.prog 26 9 := fun _ => by kernel_rfl
def zcY  : Option (Qw) :=
  some (((0, 0, 0, 0) : Qw))
theorem zfA (hS : Sub S w)  {r : Qw} (hF : zcY = some r) :
    Calls Tryz.prog 48 #[] w fun e w' => e = .returned (.agg ((cl24 r)).toArray) ∧ Ext w w' := by
 refine enter (n := 2) Tryz.func48 rfl rfl rfl ?_
 have H := HS.start hS
 refine sr fun K1 hK1 => zdI (zcP (l := (cl24 ((0, 0, 0, 0) : Qw))) H tz24 rfl) fun w1 b1 H => xk hK1 <| sr fun K2 hK2 => zaA (zbC (vals := []) (l := (cl24 ((0, 0, 0, 0) : Qw))) tb24 rfl rfl) <| zdB (zbE (k := 0) (l := (cl24 ((0, 0, 0, 0) : Qw))) tsz24 H rfl rfl rfl (zaV _) rfl (onz rfl) rfl) fun w2 H => xk hK2 <| wp_ret ?_
 obtain rfl := osi hF
 refine e_1 rfl (zeD (l := (cl24 ((0, 0, 0, 0) : Qw))) tg24 H rfl (k := 0) rfl rfl rfl) ?_
 exact ⟨rfl, H.toExt⟩
def zfY (x0 : Qw) : Option (Bool) :=
  Option.bind (zcY) fun y1 => bif ((x0 : Qw) != (y1 : Qw)) then (Option.bind (zcY) fun y2 => Option.bind (zgA 1 x0 y2) fun y3 => some (((y3 : Qw) == (x0 : Qw)))) else (some (false))
theorem sign_fine_c (hS : Sub S w) {x0 : Qw} {r : Bool} (hF : zfY x0 = some r) :
    Calls Tryz.prog 34 #[.agg ((cl24 x0)).toArray] w fun e w' => e = .returned (.bool (r)) ∧ Ext w w' := by
 refine enter (n := 13) Tryz.func34 rfl rfl rfl ?_
 have H := HS.start hS
 refine sr fun K1 hK1 => zdI (zkN (l := (cl24 x0)) H rfl) fun w1 b1 H => asB rfl <| xk hK1 <| wp_seq_k fun K2 hK2 => bn hF fun y1 e1 hF => ?_
 rcases Bool.eq_false_or_eq_true (((x0 : Qw) != (y1 : Qw))) with hb1 | hb1
 ·replace hF := zfK hF hb1
  refine bn hF fun y2 e2 hF => bn hF fun y3 e3 hF => wrS H 10 [(1, .inl (.agg ((cl24 y1)).toArray)), (5, .inl (.agg ((cl24 y2)).toArray)), (6, .inl (.agg ((cl24 y3)).toArray))] fun vs1 H => ?_
  refine t_v (fun w hx => zbL (l := (cl24 x0)) tg24 (H.ext hx) rfl (k := 0) rfl rfl rfl) <| tcx is48 (fun w hx => zfA (H.ext hx).sub e1) <| tp (r_neR eg24 (by decide) (eqt24 x0 y1) rfl rfl) <| tp (zaC (v := .bool (((x0 : Qw) != (y1 : Qw)))) rfl) <| zbX rfl hb1 (fun w hx => zbL (l := (cl24 x0)) tg24 (H.ext hx) rfl (k := 0) rfl rfl rfl) rfl rfl ?_
  refine zjK rfl hb1 (l := []) rfl rfl is48 rfl (fun w hx hF => (zfA (H.ext hx).sub e2).mono (fun _ _ h => h)) <| zjK rfl hb1 (l := [.int .i64 (1), .agg ((cl24 x0)).toArray, .agg ((cl24 y2)).toArray]) rfl rfl is49 rfl (fun w hx hF => (field_Add_c (H.ext hx).sub e3).mono (fun _ _ h => h)) <| zbX rfl hb1 (fun w hx => zbL (l := (cl24 x0)) tg24 (H.ext hx) rfl (k := 0) rfl rfl rfl) rfl rfl ?_
  refine zbX rfl hb1 (fun w hx => r_eqR eg24 (by decide) (eqt24 y3 x0) rfl rfl) rfl rfl <| tp (zbQ (v := .bool (((y3 : Qw) == (x0 : Qw)))) rfl hb1 rfl) <| zbP <| H.tn fun w2 H => asB rfl <| wpList_nil <| zaP <| xn hK2 <| wp_ret ?_
  obtain rfl := osi hF
  refine e_1 rfl (zbD rfl) ?_
  exact ⟨rfl, H.toExt⟩
 ·replace hF := zfR hF hb1
  refine wrS H 10 [(1, .inl (.agg ((cl24 y1)).toArray))] fun vs1 H => ?_
  refine t_v (fun w hx => zbL (l := (cl24 x0)) tg24 (H.ext hx) rfl (k := 0) rfl rfl rfl) <| tcx is48 (fun w hx => zfA (H.ext hx).sub e1) <| tp (r_neR eg24 (by decide) (eqt24 x0 y1) rfl rfl) <| tp (zaC (v := .bool (((x0 : Qw) != (y1 : Qw)))) rfl) <| zbB rfl hb1 rfl ?_
  rw [zaH]
  refine zbB rfl hb1 rfl ?_
  rw [zaH]
  refine zbB rfl hb1 rfl ?_
  rw [zaH]
  refine zbB rfl hb1 rfl ?_
  rw [zaH]
  refine zbB rfl hb1 rfl ?_
  rw [zaH]
  refine tp (zaX (v := .bool (false)) rfl hb1 rfl) <| zbP <| H.tn fun w3 H => asB rfl <| wpList_nil <| zaP <| xn hK2 <| wp_ret ?_
  obtain rfl := osi hF
  refine e_1 rfl (zbD rfl) ?_
  exact ⟨rfl, H.toExt⟩
def zfW (x0 : Qw) : Option (Qp) :=
  Option.bind (ziN) fun y1 => Option.bind (curve_Mul_p x0 y1) fun y2 => some (y2.1)
theorem sign_times_c (hS : Sub S w) {x0 : Qw} {r : Qp} (hF : zfW x0 = some r) :
    Calls Tryz.prog 35 #[.agg ((cl24 x0)).toArray] w fun e w' => e = .returned (.agg ((cl26 r)).toArray) ∧ Ext w w' := by
 refine enter (n := 12) Tryz.func35 rfl rfl rfl ?_
 have H := HS.start hS
 refine sr fun K1 hK1 => zdI (zkN (l := (cl24 x0)) H rfl) fun w1 b1 H => zdI (zcP (l := (cl26 (((0, 0, 0, 0) : Qw), ((0, 0, 0, 0) : Qw), false))) H tz26 rfl) fun w2 b2 H => xk hK1 <| wp_seq_k fun K2 hK2 => bn hF fun y1 e1 hF => bn hF fun y2 e2 hF => ?_
 refine wrS H 7 [(1, .inl (.agg ((cl26 y1)).toArray)), (2, .inl (.tuple #[.agg ((cl26 y2.1)).toArray, .int .i64 (y2.2)])), (6, .inr (lowR (NewAt w2.drew ((cl26 (((0, 0, 0, 0) : Qw), ((0, 0, 0, 0) : Qw), false))) 26)))] fun vs1 H => ?_
 refine t_v (fun w hx => zbL (l := (cl24 x0)) tg24 (H.ext hx) rfl (k := 1) rfl rfl rfl) <| tcx is41 (fun w hx => zfX (H.ext hx).sub e1) <| tcx is61 (fun w hx => curve_Mul_c (H.ext hx).sub e2) <| tp (zaC (v := .tuple #[.agg ((cl26 y2.1)).toArray, .int .i64 (y2.2)]) rfl) <| tp (zaM (v := .agg ((cl26 y2.1)).toArray) rfl rfl) ?_
 refine zlH (fun w => zaM (v := .int .i64 (y2.2)) rfl rfl) rfl rfl <| zeA rfl rfl tz26 rfl ?_
 refine zbP (fun w3 hx hF hA => ?_)
 obtain ⟨F1, hd1, h01⟩ := depE hF
 obtain ⟨⟨b3, eq1, hb1, hh1⟩, hn1⟩ := zbH hF 6 rfl rfl
 have hle1 := zcZ (F := F1) (w := w3) H.sub; replace H := (HS.adopt (H.callF (F := F1) hx) (Nat.le_trans H.fr.size hb1) (gf_none hb1 (by rw [h01]; exact noF hA (by decide) rfl eq1 hn1)) hh1 (HS.keys_lt H hb1)); clear hx hF hA hd1 h01; generalize gf S w2.drew F1 w3 = S1 at hle1 H
 refine zdB (zbE (k := 0) (l := (cl26 y2.1)) tsz26 H eq1 rfl rfl (zaV _) rfl (onz rfl) rfl) fun w4 H => asI rfl <| wpList_nil <| zaP <| xn hK2 <| sr fun K3 hK3 => zaA (zbL (l := (cl26 y2.1)) tg26 H eq1 (k := 0) rfl rfl rfl) <| zdB (zbE (k := 1) (l := (cl26 y2.1)) tsz26 H rfl rfl rfl (zaV _) rfl (onz rfl) rfl) fun w5 H => xk hK3 <| wp_ret ?_
 obtain rfl := osi hF
 refine e_1 rfl (zeD (l := (cl26 y2.1)) tg26 H rfl (k := 1) rfl rfl rfl) ?_
 exact ⟨rfl, H.toExt⟩
def zhK (x0 : Qw) : Option (Qp × Int) :=
  Option.bind (zfY x0) fun y1 => bif (!y1) then (some (((((0, 0, 0, 0) : Qw), ((0, 0, 0, 0) : Qw), false), 80))) else (Option.bind (zfW x0) fun y2 => some ((y2, 0)))
theorem sign_Public_c (hS : Sub S w) {x0 : Qw} {r : Qp × Int} (hF : zhK x0 = some r) :
    Calls Tryz.prog 9 #[.agg ((cl24 x0)).toArray] w fun e w' => e = .returned (.tuple #[.agg ((cl26 r.1)).toArray, .int .i64 (r.2)]) ∧ Ext w w' := by
 refine enter (n := 10) Tryz.func9 rfl rfl rfl ?_
 have H := HS.start hS
 refine sr fun K1 hK1 => zdI (zkN (l := (cl24 x0)) H rfl) fun w1 b1 H => zdI (zcP (l := (cl26 (((0, 0, 0, 0) : Qw), ((0, 0, 0, 0) : Qw), false))) H tz26 rfl) fun w2 b2 H => asI rfl <| xk hK1 <| wp_seq_k fun K2 hK2 => sr fun K3 hK3 => zaA (zbL (l := (cl24 x0)) tg24 H rfl (k := 1) rfl rfl rfl) <| bn hF fun y1 e1 hF => ?_
 refine zaF is34 rfl <| (sign_fine_c H.sub e1).mono <| H.xe fun w3 H => zaA (zlK (t := (!y1)) rfl rfl) <| xk hK3 ?_
 refine zbR hF rfl (fun hF hc1 => ?_) fun hF hc1 => ?_
 ·refine sr fun K4 hK4 => ?_
  refine zaA (zbC (vals := []) (l := (cl26 (((0, 0, 0, 0) : Qw), ((0, 0, 0, 0) : Qw), false))) tb26 rfl rfl) <| zdB (zbE (k := 0) (l := (cl26 (((0, 0, 0, 0) : Qw), ((0, 0, 0, 0) : Qw), false))) tsz26 H rfl rfl rfl (zaV _) rfl (onz rfl) rfl) fun w4 H => asI rfl <| xk hK4 <| wp_ret <| zdC ?_
  obtain rfl := osi hF
  refine e_2 rfl (zeD (l := (cl26 (((0, 0, 0, 0) : Qw), ((0, 0, 0, 0) : Qw), false))) tg26 H rfl (k := 0) rfl rfl rfl) (zbD rfl) ?_
  exact ⟨rfl, H.toExt⟩
 ·refine wp_skip ?_
  refine xn hK2 <| sr fun K5 hK5 => zaA (zbL (l := (cl24 x0)) tg24 H rfl (k := 1) rfl rfl rfl) <| bn hF fun y2 e2 hF => zaF is35 rfl <| (sign_times_c H.sub e2).mono <| H.xe fun w5 H => zdB (zbE (k := 0) (l := (cl26 y2)) tsz26 H rfl rfl rfl (zaV _) rfl (onz rfl) rfl) fun w6 H => asI rfl <| xk hK5 ?_
  refine wp_ret ?_
  obtain rfl := osi hF
  refine e_2 rfl (zeD (l := (cl26 y2)) tg26 H rfl (k := 0) rfl rfl rfl) (zbD rfl) ?_
  exact ⟨rfl, H.toExt⟩
end
section
variable {S : Mem} {w : World}
def zgH (m : Int) (a b : W4) : Option W4 := some (tv (nv a * nv b % modN m))
theorem field_Mul_c (_ : Sub S w) {x0 : Int} {x1 x2 r : W4} (hF : zgH x0 x1 x2 = some r) : Calls Tryz.prog 51 #[.int .i64 x0, .agg (cl24 x1).toArray, .agg (cl24 x2).toArray] w fun e w' => e = .returned (.agg (cl24 r).toArray) ∧ Ext w w' := by
 obtain rfl := osi hF; rw [clN_v, clN_w, clN_w]; exact mul_c x0 _ _ (nv_lt _) (nv_lt _) w
def zjI (m : Int) (a : W4) : Option (W4 × Int) := some (tv (invV m (nv a)), invE m (nv a))
theorem field_Inv_c (_ : Sub S w) {x0 : Int} {x1 : W4} {r : W4 × Int} (hF : zjI x0 x1 = some r) : Calls Tryz.prog 50 #[.int .i64 x0, .agg (cl24 x1).toArray] w fun e w' => e = .returned (.tuple #[.agg (cl24 r.1).toArray, .int .i64 r.2]) ∧ Ext w w' := by
 obtain rfl := osi hF; rw [clN_v, clN_w]; exact inv_c x0 _ (nv_lt _) w
def ziM (m : Int) (l : List UInt8) : Option (W4 × Int) := Option.bind (chk (decide (l.length ≤ LIM))) fun _ => some (tv (ofV m l), ofE m l)
theorem field_Of_c (_ : Sub S w) {x0 : Int} {x1 : List UInt8} {r : W4 × Int} (hF : ziM x0 x1 = some r) : Calls Tryz.prog 47 #[.int .i64 x0, str x1] w fun e w' => e = .returned (.tuple #[.agg (cl24 r.1).toArray, .int .i64 r.2]) ∧ Ext w w' := by
 unfold ziM at hF
 obtain ⟨y, e, hF⟩ := bnd hF
 have hl := of_decide_eq_true (zdT e)
 obtain rfl := osi hF; rw [clN_v]; exact of_c x0 x1 (by unfold LIM at hl; omega) w
def zbZ (a : W4) : Option (List UInt8) := some (be 32 (nv a))
theorem zkT (_ : Sub S w) {x0 : W4} {r : List UInt8} (hF : zbZ x0 = some r) : Calls Tryz.prog 43 #[.agg (cl24 x0).toArray] w fun e w' => e = .returned (str r) ∧ Ext w w' := by
 obtain rfl := osi hF; rw [clN_w]; exact bytes_c _ w
def curve_Add_p (x0 x1 : Pw) : Option (Pw × Int) := some (ptW (cadd (apT x0) (apT x1)), cadde (apT x0) (apT x1))
theorem curve_Add_c (_ : Sub S w) {x0 x1 : Pw} {r : Pw × Int} (hF : curve_Add_p x0 x1 = some r) : Calls Tryz.prog 62 #[.agg (cl26 x0).toArray, .agg (cl26 x1).toArray] w fun e w' => e = .returned (.tuple #[.agg (cl26 r.1).toArray, .int .i64 r.2]) ∧ Ext w w' := by
 obtain rfl := osi hF; rw [clP_ap, clP_ap, clP_W]
 exact cadd_c (nv x0.1) (nv x0.2.1) x0.2.2 (nv_lt _) (nv_lt _) (nv x1.1) (nv x1.2.1) x1.2.2 (nv_lt _) (nv_lt _) w
def zcU (l : List UInt8) (n : Int) : Option (List UInt8) := Option.bind (chk (decide (l.length ≤ 1000000) && (decide (0 ≤ n) && decide (n ≤ 1000000)))) fun _ => some (Lib.repeatL l n.toNat)
theorem strings_Repeat_c (_ : Sub S w) {x0 : List UInt8} {x1 : Int} {r : List UInt8} (hF : zcU x0 x1 = some r) : Calls Tryz.prog 44 #[str x0, .int .i64 x1] w fun e w' => e = .returned (str r) ∧ Ext w w' := by
 unfold zcU at hF
 obtain ⟨y, e, hF⟩ := bnd hF
 have hc := zdT e
 have hl := of_decide_eq_true (and_l hc)
 have h0 := of_decide_eq_true (and_l (and_r hc))
 have h1 := of_decide_eq_true (and_r (and_r hc))
 obtain rfl := osi hF
 have hn : x1 = ((x1.toNat : Nat) : Int) := by omega
 have hm : x0.length * x1.toNat ≤ 1000000 * 1000000 := Nat.mul_le_mul hl (by omega)
 have := Tryz.strings_Repeat ⟨x0.toArray⟩ x1.toNat w (by omega) (by show x0.toArray.size * _ ≤ _; rw [List.size_toArray]; omega)
 rw [hn]
 refine this.mono fun e' w' ⟨h1, h2⟩ => ⟨?_, ?_⟩
 ·rw [h1]; rfl
 ·exact h2
end
section
attribute [local irreducible] wpList wpT Code.wp Calls Code.rounds
variable {S : Mem} {w : World}
theorem is42 : IsFn Tryz.prog 42 := isFn Tryz.func42
theorem is47 : IsFn Tryz.prog 47 := isFn Tryz.func47
theorem is62 : IsFn Tryz.prog 62 := isFn Tryz.func62
theorem is86 : IsFn Tryz.prog 86 := isFn Tryz.func86
def zlE (x0 : List UInt8) : Option (Qw) :=
  Option.bind (ziF x0) fun y1 => Option.bind (zeZ 1 y1) fun y2 => some (y2)
theorem sign_sum_c (hS : Sub S w) {x0 : List UInt8} {r : Qw} (hF : zlE x0 = some r) :
    Calls Tryz.prog 42 #[str (x0)] w fun e w' => e = .returned (.agg ((cl24 r)).toArray) ∧ Ext w w' := by
 refine enter (n := 6) Tryz.func42 rfl rfl rfl ?_
 have H := HS.start hS
 refine sr fun K1 hK1 => zdI (zcP (l := (cl24 ((0, 0, 0, 0) : Qw))) H tz24 rfl) fun w1 b1 H => xk hK1 <| sr fun K2 hK2 => mvT rfl <| bn hF fun y1 e1 hF => zaF is87 rfl <| (hash_Sum_c H.sub e1).mono <| H.xe fun w2 H => bn hF fun y2 e2 hF => ?_
 refine zaF is86 rfl <| (field_Reduce_c H.sub e2).mono <| H.xe fun w3 H => zdB (zbE (k := 0) (l := (cl24 y2)) tsz24 H rfl rfl rfl (zaV _) rfl (onz rfl) rfl) fun w4 H => xk hK2 <| wp_ret ?_
 obtain rfl := osi hF
 refine e_1 rfl (zeD (l := (cl24 y2)) tg24 H rfl (k := 0) rfl rfl rfl) ?_
 exact ⟨rfl, H.toExt⟩
def sign_Verify_p (x0 : Qp) (x1 : List UInt8) (x2 : List UInt8) : Option (Bool) :=
  Option.bind (bif (((x2).length : Int) != 64) then (some (true)) else (some (x0.2.2))) (fun t1 => Option.bind (bif t1 then (some (true)) else (Option.bind (curve_On_p x0) fun y1 => some ((!y1)))) (fun t2 => bif t2 then (some (false)) else (Option.bind (subH x2 32) fun y2 => Option.bind (ziM 1 y2) fun y3 => Option.bind (subL x2 32) fun y4 => Option.bind (ziM 1 y4) fun y5 => Option.bind (bif (bif (y3.2 != 0) then true else (y5.2 != 0)) then (some (true)) else (Option.bind (zfY y3.1) fun y6 => some ((!y6)))) (fun t3 => Option.bind (bif t3 then (some (true)) else (Option.bind (zfY y5.1) fun y7 => some ((!y7)))) (fun t4 => bif t4 then (some (false)) else (Option.bind (zjI 1 y5.1) fun y8 => Option.bind (zlE x1) fun y9 => Option.bind (zgH 1 y9 y8.1) fun y10 => Option.bind (zfW y10) fun y11 => Option.bind (zgH 1 y3.1 y8.1) fun y12 => Option.bind (curve_Mul_p y12 x0) fun y13 => Option.bind (curve_Add_p y11 y13.1) fun y14 => bif (!y14.1.2.2) then (Option.bind (zcY) fun y15 => Option.bind (zgA 1 y14.1.1 y15) fun y16 => some (((y16 : Qw) == (y3.1 : Qw)))) else (some (false))))))))
theorem sign_Verify_c (hS : Sub S w) {x0 : Qp} {x1 : List UInt8} {x2 : List UInt8} {r : Bool} (hF : sign_Verify_p x0 x1 x2 = some r) :
    Calls Tryz.prog 14 #[.agg ((cl26 x0)).toArray, str (x1), str (x2)] w fun e w' => e = .returned (.bool (r)) ∧ Ext w w' := by
 refine enter (n := 93) Tryz.func14 rfl rfl rfl ?_
 have H := HS.start hS
 refine sr fun K1 hK1 => zdI (zkN (l := (cl26 x0)) H rfl) fun w1 b1 H => asB rfl <| xk hK1 <| wp_seq_k fun K2 hK2 => sr fun K3 hK3 => mvT rfl <| zaA (zkQ (N := (x2).length) u9 rfl rfl) <| zaA (r_neqI rfl rfl) ?_
 refine mvB rfl <| zkU fun m1 k1 => zkX 3 fun K4 hK4 R2 hR2 => bn hF fun t1 hE1 hF1 => ?_
 have J5 : ∀ (m2 : FM) (w2 : World), Kp [22, 23, 24] m2 m1 → look m2 24 = .bool (t1) → HS ⟨S, [], w⟩ S w2 [.blk b1 ((cl26 x0)) 26] → K4 m2 w2 := by
  clear H; intro m2 w2 k2 q1 H
  have q2 : look m2 1 = str (x1) := (k2 1 rfl).trans (k1 1)
  have q3 : look m2 2 = str (x2) := (k2 2 rfl).trans (k1 2)
  have q4 : look m2 3 = .pointer (some ⟨b1, 0, none⟩) := (k2 3 rfl).trans (k1 3)
  refine hK4 _ _ <| p_mv q1 <| zkU fun m3 k3 => zkX 4 fun K5 hK5 R3 hR3 => bn hF1 fun t2 hE2 hF2 => ?_
  have J4 : ∀ (m4 : FM) (w4 : World), Kp [26, 27, 28, 29] m4 m3 → look m4 29 = .bool (t2) → HS ⟨S, [], w⟩ S w4 [.blk b1 ((cl26 x0)) 26] → K5 m4 w4 := by
   clear H; intro m4 w4 k4 q5 H
   have q6 := (k4 1 rfl).trans ((k3 1).trans q2)
   have q7 := (k4 2 rfl).trans ((k3 2).trans q3)
   have q8 := (k4 3 rfl).trans ((k3 3).trans q4)
   refine hK5 _ _ <| xk hK3 ?_
   refine zcG q5 (fun hc1 => ?_) (fun hc1 => ?_)
   ·replace hF2 := zfK hF2 hc1
    refine sr fun K6 hK6 => asB rfl <| xk hK6 <| wp_ret <| zdC ?_
    obtain rfl := osi hF2
    refine e_1 rfl (zbD rfl) ?_
    exact ⟨rfl, H.toExt⟩
   ·replace hF2 := zfR hF2 hc1
    refine wp_skip <| xn hK2 <| sr fun K7 hK7 => p_mv q7 <| bn hF2 fun y2 e2 hF2 => zaA (r_sliceTH (h := (32 : Int).toNat) (r := y2) u9 rfl rfl (zeI e2).1 (zeI e2).2.1 (zeI e2).2.2) <| bn hF2 fun y3 e3 hF2 => zaF is47 rfl <| (field_Of_c H.sub e3).mono <| H.xe fun w5 H => ?_
    refine mvU rfl <| zaA (zaM (v := .agg ((cl24 y3.1)).toArray) rfl rfl) <| zaA (zaM (v := .int .i64 (y3.2)) rfl rfl) <| zdI (zcP (l := (cl24 ((0, 0, 0, 0) : Qw))) H tz24 rfl) fun w6 b2 H => zdB (zbE (k := 0) (l := (cl24 y3.1)) tsz24 H rfl rfl rfl (zaV _) rfl (onz rfl) rfl) fun w7 H => asI rfl <| xk hK7 <| sr fun K8 hK8 => p_mv q7 ?_
    refine bn hF2 fun y4 e4 hF2 => zaA (r_sliceTL (p := (32 : Int).toNat) (r := y4) u9 rfl rfl (zjE e4).1 (zjE e4).2.1 (zjE e4).2.2) <| bn hF2 fun y5 e5 hF2 => zaF is47 rfl <| (field_Of_c H.sub e5).mono <| H.xe fun w8 H => mvU rfl <| zaA (zaM (v := .agg ((cl24 y5.1)).toArray) rfl rfl) <| zaA (zaM (v := .int .i64 (y5.2)) rfl rfl) ?_
    refine zdI (zcP (l := (cl24 ((0, 0, 0, 0) : Qw))) H tz24 rfl) fun w9 b3 H => zdB (zbE (k := 0) (l := (cl24 y5.1)) tsz24 H rfl rfl rfl (zaV _) rfl (onz rfl) rfl) fun w10 H => asI rfl <| xk hK8 <| wp_seq_k fun K9 hK9 => sr fun K10 hK10 => mvI rfl <| zaA (r_neqI rfl rfl) <| mvB rfl ?_
    refine zkU fun m5 k5 => zkX 3 fun K11 hK11 R6 hR6 => ?_
    have J1 : ∀ (m6 : FM), Kp [45, 46, 47] m6 m5 → look m6 47 = .bool ((bif (y3.2 != 0) then true else (y5.2 != 0))) → K11 m6 w10 := by
     intro m6 k6 q9
     have q10 := (k6 1 rfl).trans ((k5 1).trans q6)
     have q11 := (k6 3 rfl).trans ((k5 3).trans q8)
     have q12 : look m6 7 = .pointer (some ⟨b2, 0, none⟩) := (k6 7 rfl).trans (k5 7)
     have q13 : look m6 9 = .pointer (some ⟨b3, 0, none⟩) := (k6 9 rfl).trans (k5 9)
     refine hK11 _ _ ?_; clear hK11 hR6
     refine p_mv q9 <| zkU fun m7 k7 => zkX 4 fun K12 hK12 R7 hR7 => bn hF2 fun t3 hE3 hF3 => ?_
     have J3 : ∀ (m8 : FM) (w12 : World), Kp [49, 50, 51, 52] m8 m7 → look m8 52 = .bool (t3) → HS ⟨S, [], w⟩ S w12 [.blk b3 ((cl24 y5.1)) 24, .blk b2 ((cl24 y3.1)) 24, .blk b1 ((cl26 x0)) 26] → K12 m8 w12 := by
      clear H; intro m8 w12 k8 q14 H
      have q15 := (k8 1 rfl).trans ((k7 1).trans q10)
      have q16 := (k8 3 rfl).trans ((k7 3).trans q11)
      have q17 := (k8 7 rfl).trans ((k7 7).trans q12)
      have q18 := (k8 9 rfl).trans ((k7 9).trans q13)
      refine hK12 _ _ <| p_mv q14 <| zkU fun m9 k9 => zkX 4 fun K13 hK13 R8 hR8 => bn hF3 fun t4 hE4 hF4 => ?_
      have J2 : ∀ (m10 : FM) (w14 : World), Kp [54, 55, 56, 57] m10 m9 → look m10 57 = .bool (t4) → HS ⟨S, [], w⟩ S w14 [.blk b3 ((cl24 y5.1)) 24, .blk b2 ((cl24 y3.1)) 24, .blk b1 ((cl26 x0)) 26] → K13 m10 w14 := by
       clear H; intro m10 w14 k10 q19 H
       have q20 := (k10 1 rfl).trans ((k9 1).trans q15)
       have q21 := (k10 3 rfl).trans ((k9 3).trans q16)
       have q22 := (k10 7 rfl).trans ((k9 7).trans q17)
       have q23 := (k10 9 rfl).trans ((k9 9).trans q18)
       refine hK13 _ _ <| xk hK10 ?_
       refine zcG q19 (fun hc2 => ?_) (fun hc2 => ?_)
       ·replace hF4 := zfK hF4 hc2
        refine sr fun K14 hK14 => asB rfl <| xk hK14 <| wp_ret <| zdC ?_
        obtain rfl := osi hF4
        refine e_1 rfl (zbD rfl) ?_
        exact ⟨rfl, H.toExt⟩
       ·replace hF4 := zfR hF4 hc2
        refine wp_skip <| xn hK9 <| sr fun K15 hK15 => zaA (zbL (l := (cl24 y5.1)) tg24 H q23 (k := 0) rfl rfl rfl) <| bn hF4 fun y8 e8 hF4 => zaF is50 rfl <| (field_Inv_c H.sub e8).mono <| H.xe fun w15 H => mvU rfl <| zaA (zaM (v := .agg ((cl24 y8.1)).toArray) rfl rfl) ?_
        refine zaA (zaM (v := .int .i64 (y8.2)) rfl rfl) <| zdI (zcP (l := (cl24 ((0, 0, 0, 0) : Qw))) H tz24 rfl) fun w16 b4 H => zdB (zbE (k := 0) (l := (cl24 y8.1)) tsz24 H rfl rfl rfl (zaV _) rfl (onz rfl) rfl) fun w17 H => asI rfl <| xk hK15 <| wp_seq_k fun K16 hK16 => bn hF4 fun y9 e9 hF4 => bn hF4 fun y10 e10 hF4 => bn hF4 fun y11 e11 hF4 => ?_
        refine wrS H 6 [(1, .inl (.agg ((cl24 y9)).toArray)), (3, .inl (.agg ((cl24 y10)).toArray)), (4, .inl (.agg ((cl26 y11)).toArray)), (5, .inr (lowR (NewAt w17.drew ((cl26 (((0, 0, 0, 0) : Qw), ((0, 0, 0, 0) : Qw), false))) 26)))] fun vs1 H => ?_
        refine tp (zaC q20) <| tcx is42 (fun w hx => sign_sum_c (H.ext hx).sub e9) <| t_v (fun w hx => zbL (l := (cl24 y8.1)) tg24 (H.ext hx) rfl (k := 0) rfl rfl rfl) <| tcx is51 (fun w hx => field_Mul_c (H.ext hx).sub e10) <| tcx is35 (fun w hx => sign_times_c (H.ext hx).sub e11) <| zeA rfl rfl tz26 rfl ?_
        refine zbP (fun w18 hx hF hA => ?_)
        obtain ⟨F1, hd1, h01⟩ := depE hF
        obtain ⟨⟨b5, eq1, hb5, hh1⟩, hn1⟩ := zbH hF 5 rfl rfl
        have hle1 := zcZ (F := F1) (w := w18) H.sub; replace H := (HS.adopt (H.callF (F := F1) hx) (Nat.le_trans H.fr.size hb5) (gf_none hb5 (by rw [h01]; exact noF hA (by decide) rfl eq1 hn1)) hh1 (HS.keys_lt H hb5)); clear hx hF hA hd1 h01; generalize gf S w17.drew F1 w18 = S1 at hle1 H
        refine zdB (zbE (k := 0) (l := (cl26 y11)) tsz26 H eq1 rfl rfl (zaV _) rfl (onz rfl) rfl) fun w19 H => wpList_nil <| zaP <| xn hK16 <| wp_seq_k fun K17 hK17 => bn hF4 fun y12 e12 hF4 => bn hF4 fun y13 e13 hF4 => ?_
        refine wrS H 9 [(2, .inl (.agg ((cl24 y12)).toArray)), (4, .inl (.tuple #[.agg ((cl26 y13.1)).toArray, .int .i64 (y13.2)])), (8, .inr (lowR (NewAt w19.drew ((cl26 (((0, 0, 0, 0) : Qw), ((0, 0, 0, 0) : Qw), false))) 26)))] fun vs2 H => ?_
        refine t_v (fun w hx => zbL (l := (cl24 y3.1)) tg24 (H.ext hx) q22 (k := 3) rfl rfl rfl) <| t_v (fun w hx => zbL (l := (cl24 y8.1)) tg24 (H.ext hx) rfl (k := 1) rfl rfl rfl) <| tcx is51 (fun w hx => field_Mul_c (H.ext hx).sub e12) <| t_v (fun w hx => zbL (l := (cl26 x0)) tg26 (H.ext hx) q21 (k := 4) rfl rfl rfl) <| tcx is61 (fun w hx => curve_Mul_c (H.ext hx).sub e13) ?_
        refine tp (zaC (v := .tuple #[.agg ((cl26 y13.1)).toArray, .int .i64 (y13.2)]) rfl) <| tp (zaM (v := .agg ((cl26 y13.1)).toArray) rfl rfl) <| zlH (fun w => zaM (v := .int .i64 (y13.2)) rfl rfl) rfl rfl <| zeA rfl rfl tz26 rfl ?_
        refine zbP (fun w20 hx hF hA => ?_)
        obtain ⟨F2, hd2, h02⟩ := depE hF
        obtain ⟨⟨b6, eq2, hb6, hh2⟩, hn2⟩ := zbH hF 8 rfl rfl
        have hle2 := zcZ (F := F2) (w := w20) H.sub; replace H := (HS.adopt (H.callF (F := F2) hx) (Nat.le_trans H.fr.size hb6) (gf_none hb6 (by rw [h02]; exact noF hA (by decide) rfl eq2 hn2)) hh2 (HS.keys_lt H hb6)); clear hx hF hA hd2 h02; generalize gf S1 w19.drew F2 w20 = S2 at hle2 H
        refine zdB (zbE (k := 0) (l := (cl26 y13.1)) tsz26 H eq2 rfl rfl (zaV _) rfl (onz rfl) rfl) fun w21 H => asI rfl <| wpList_nil <| zaP <| xn hK17 <| sr fun K18 hK18 => zaA (zbL (l := (cl26 y11)) tg26 H eq1 (k := 1) rfl rfl rfl) <| zaA (zbL (l := (cl26 y13.1)) tg26 H eq2 (k := 0) rfl rfl rfl) <| bn hF4 fun y14 e14 hF4 => zaF is62 rfl ?_
        refine (curve_Add_c H.sub e14).mono <| H.xe fun w22 H => mvU rfl <| zaA (zaM (v := .agg ((cl26 y14.1)).toArray) rfl rfl) <| zaA (zaM (v := .int .i64 (y14.2)) rfl rfl) <| zdI (zcP (l := (cl26 (((0, 0, 0, 0) : Qw), ((0, 0, 0, 0) : Qw), false))) H tz26 rfl) fun w23 b7 H => zdB (zbE (k := 0) (l := (cl26 y14.1)) tsz26 H rfl rfl rfl (zaV _) rfl (onz rfl) rfl) fun w24 H => ?_
        refine asI rfl <| xk hK18 <| wp_seq_k fun K19 hK19 => ?_
        rcases Bool.eq_false_or_eq_true ((!y14.1.2.2)) with hb7 | hb7
        ·replace hF4 := zfK hF4 hb7
         refine bn hF4 fun y15 e15 hF4 => bn hF4 fun y16 e16 hF4 => wrS H 11 [(6, .inl (.agg ((cl24 y15)).toArray)), (7, .inl (.agg ((cl24 y16)).toArray))] fun vs3 H => ?_
         refine tp (zaJ fa26_2 rfl) <| t_v (fun w hx => zaR (v := .bool (y14.1.2.2)) to4 (H.ext hx) rfl (k := 0) rfl rfl) <| tp (zlK (t := (!y14.1.2.2)) rfl rfl) <| tp (zaC (v := .bool ((!y14.1.2.2))) rfl) <| zbX rfl hb7 (fun w hx => zaJ fa26_0 rfl) rfl rfl <| zbX rfl hb7 (fun w hx => zbL (l := (cl24 y14.1.1)) tg24 (H.ext hx) rfl (k := 0) rfl rfl rfl) rfl rfl ?_
         refine zjK rfl hb7 (l := []) rfl rfl is48 rfl (fun w hx hF => (zfA (H.ext hx).sub e15).mono (fun _ _ h => h)) <| zjK rfl hb7 (l := [.int .i64 (1), .agg ((cl24 y14.1.1)).toArray, .agg ((cl24 y15)).toArray]) rfl rfl is49 rfl (fun w hx hF => (field_Add_c (H.ext hx).sub e16).mono (fun _ _ h => h)) ?_
         refine zbX rfl hb7 (fun w hx => zbL (l := (cl24 y3.1)) tg24 (H.ext hx) q22 (k := 5) rfl rfl rfl) rfl rfl <| zbX rfl hb7 (fun w hx => r_eqR eg24 (by decide) (eqt24 y16 y3.1) rfl rfl) rfl rfl <| tp (zbQ (v := .bool (((y16 : Qw) == (y3.1 : Qw)))) rfl hb7 rfl) <| zbP <| H.tn fun w25 H => asB rfl <| wpList_nil <| zaP <| xn hK19 <| wp_ret ?_
         obtain rfl := osi hF4
         refine e_1 rfl (zbD rfl) ?_
         exact ⟨rfl, H.toExt⟩
        ·replace hF4 := zfR hF4 hb7
         refine wrS H 11 [] fun vs3 H => ?_
         refine tp (zaJ fa26_2 rfl) <| t_v (fun w hx => zaR (v := .bool (y14.1.2.2)) to4 (H.ext hx) rfl (k := 0) rfl rfl) <| tp (zlK (t := (!y14.1.2.2)) rfl rfl) <| tp (zaC (v := .bool ((!y14.1.2.2))) rfl) <| zbB rfl hb7 rfl ?_
         rw [zaH]
         refine zbB rfl hb7 rfl ?_
         rw [zaH]
         refine zbB rfl hb7 rfl ?_
         rw [zaH]
         refine zbB rfl hb7 rfl ?_
         rw [zaH]
         refine zbB rfl hb7 rfl ?_
         rw [zaH]
         refine zbB rfl hb7 rfl ?_
         rw [zaH]
         refine tp (zaX (v := .bool (false)) rfl hb7 rfl) <| zbP <| H.tn fun w26 H => asB rfl <| wpList_nil <| zaP <| xn hK19 <| wp_ret ?_
         obtain rfl := osi hF4
         refine e_1 rfl (zbD rfl) ?_
         exact ⟨rfl, H.toExt⟩
      refine p_gs (j := 11) (zaI rfl rfl (k9 53)) (fun hb4 => ?_) (fun hb4 => ?_)
      ·replace hE4 := zfK hE4 hb4
       refine zaW (zaI rfl rfl (k9 53)) hb4 ?_
       rw [zaH]
       refine zaW (zaI rfl rfl (k9 53)) hb4 ?_
       rw [zaH]
       refine zaW (zaI rfl rfl (k9 53)) hb4 ?_
       rw [zaH]
       refine zaA (zbQ (v := .bool (true)) (k9 53) hb4 rfl) <| hR8 _ _ ?_
       obtain rfl := osi hE4
       exact J2 _ _ kcx rfl H
      ·replace hE4 := zfR hE4 hb4
       refine zaT (zaI rfl rfl (k9 53)) hb4 <| zaA (zbL (l := (cl24 y5.1)) tg24 H ((k9 9).trans q18) (k := 0) rfl rfl rfl) <| zaT (zaI rfl rfl (k9 53)) hb4 <| bn hE4 fun y7 e7 hE4 => zaF is34 rfl <| (sign_fine_c H.sub e7).mono <| H.xe fun w13 H => zaT (zaI rfl rfl (k9 53)) hb4 <| zaA (zlK (t := (!y7)) rfl rfl) <| zaA (zaX (v := .bool ((!y7))) (k9 53) hb4 rfl) ?_
       refine hR8 _ _ ?_
       obtain rfl := osi hE4
       exact J2 _ _ kcx rfl H
     refine p_gs (j := 6) (zaI rfl rfl (k7 48)) (fun hb3 => ?_) (fun hb3 => ?_)
     ·replace hE3 := zfK hE3 hb3
      refine zaW (zaI rfl rfl (k7 48)) hb3 ?_
      rw [zaH]
      refine zaW (zaI rfl rfl (k7 48)) hb3 ?_
      rw [zaH]
      refine zaW (zaI rfl rfl (k7 48)) hb3 ?_
      rw [zaH]
      refine zaA (zbQ (v := .bool (true)) (k7 48) hb3 rfl) <| hR7 _ _ ?_
      obtain rfl := osi hE3
      exact J3 _ _ kcx rfl H
     ·replace hE3 := zfR hE3 hb3
      refine zaT (zaI rfl rfl (k7 48)) hb3 <| zaA (zbL (l := (cl24 y3.1)) tg24 H ((k7 7).trans q12) (k := 1) rfl rfl rfl) <| zaT (zaI rfl rfl (k7 48)) hb3 <| bn hE3 fun y6 e6 hE3 => zaF is34 rfl <| (sign_fine_c H.sub e6).mono <| H.xe fun w11 H => zaT (zaI rfl rfl (k7 48)) hb3 <| zaA (zlK (t := (!y6)) rfl rfl) <| zaA (zaX (v := .bool ((!y6))) (k7 48) hb3 rfl) ?_
      refine hR7 _ _ ?_
      obtain rfl := osi hE3
      exact J3 _ _ kcx rfl H
    refine p_gs (j := 2) (zaI rfl rfl (k5 44)) (fun hb8 => ?_) (fun hb8 => ?_)
    ·refine zaW (zaI rfl rfl (k5 44)) hb8 ?_
     rw [zaH]
     refine zaW (zaI rfl rfl (k5 44)) hb8 ?_
     rw [zaH]
     refine zaA (zbQ (v := .bool (true)) (k5 44) hb8 rfl) <| hR6 _ _ ?_
     exact J1 _ kcx (show (.bool (true) : Value) = .bool ((bif (y3.2 != 0) then true else (y5.2 != 0))) from congrArg Value.bool (by simp only [hb8, cond_true, cond_false]))
    ·refine zaT (zaI rfl rfl (k5 44)) hb8 ?_
     refine p_mv (k5 10) <| zaT (zaI rfl rfl (k5 44)) hb8 <| zaA (r_neqI rfl rfl) <| zaA (zaX (v := .bool ((y5.2 != 0))) (k5 44) hb8 rfl) <| hR6 _ _ ?_
     exact J1 _ kcx (show (.bool ((y5.2 != 0)) : Value) = .bool ((bif (y3.2 != 0) then true else (y5.2 != 0))) from congrArg Value.bool (by simp only [hb8, cond_true, cond_false]))
  refine p_gs (j := 7) (zaI rfl rfl (k3 25)) (fun hb2 => ?_) (fun hb2 => ?_)
  ·replace hE2 := zfK hE2 hb2
   refine zaW (zaI rfl rfl (k3 25)) hb2 ?_
   rw [zaH]
   refine zaW (zaI rfl rfl (k3 25)) hb2 ?_
   rw [zaH]
   refine zaW (zaI rfl rfl (k3 25)) hb2 ?_
   rw [zaH]
   refine zaA (zbQ (v := .bool (true)) (k3 25) hb2 rfl) <| hR3 _ _ ?_
   obtain rfl := osi hE2
   exact J4 _ _ kcx rfl H
  ·replace hE2 := zfR hE2 hb2
   refine zaT (zaI rfl rfl (k3 25)) hb2 <| zaA (zbL (l := (cl26 x0)) tg26 H ((k3 3).trans q4) (k := 0) rfl rfl rfl) <| zaT (zaI rfl rfl (k3 25)) hb2 <| bn hE2 fun y1 e1 hE2 => zaF is60 rfl <| (curve_On_c H.sub e1).mono <| H.xe fun w3 H => zaT (zaI rfl rfl (k3 25)) hb2 <| zaA (zlK (t := (!y1)) rfl rfl) <| zaA (zaX (v := .bool ((!y1))) (k3 25) hb2 rfl) ?_
   refine hR3 _ _ ?_
   obtain rfl := osi hE2
   exact J4 _ _ kcx rfl H
 refine p_gs (j := 3) (zaI rfl rfl (k1 21)) (fun hb1 => ?_) (fun hb1 => ?_)
 ·replace hE1 := zfK hE1 hb1
  refine zaW (zaI rfl rfl (k1 21)) hb1 ?_
  rw [zaH]
  refine zaW (zaI rfl rfl (k1 21)) hb1 ?_
  rw [zaH]
  refine zaA (zbQ (v := .bool (true)) (k1 21) hb1 rfl) <| hR2 _ _ ?_
  obtain rfl := osi hE1
  exact J5 _ _ kcx rfl H
 ·replace hE1 := zfR hE1 hb1
  refine zaT (zaI rfl rfl (k1 21)) hb1 <| zaA (zaJ fa26_2 (k1 3)) <| zaT (zaI rfl rfl (k1 21)) hb1 <| zaA (zaR (v := .bool (x0.2.2)) to4 H rfl (k := 0) rfl rfl) <| zaA (zaX (v := .bool (x0.2.2)) (k1 21) hb1 rfl) <| hR2 _ _ ?_
  obtain rfl := osi hE1
  exact J5 _ _ kcx rfl H
theorem to9 : TOne Tryz.prog 9 := ⟨fun _ => by kernel_rfl, fun _ => by kernel_rfl⟩
theorem tz75 : TZero Tryz.prog 75 (.agg #[str [], str []]) := fun _ => by kernel_rfl
theorem is43 : IsFn Tryz.prog 43 := isFn Tryz.func43
theorem is44 : IsFn Tryz.prog 44 := isFn Tryz.func44
theorem is45 : IsFn Tryz.prog 45 := isFn Tryz.func45
theorem is46 : IsFn Tryz.prog 46 := isFn Tryz.func46
theorem tb75 : TBuild Tryz.prog 75 (.agg #[str [], str []]) [(0, 1), (1, 1)] := tbuildS (fs := fieldsOf Tryz.prog 75) (by kernel_rfl) tz75 (fun _ => by kernel_rfl)
theorem fa75_0 : zgZ Tryz.prog 75 0 0 := fun _ _ _ => by kernel_rfl
theorem fa75_1 : zgZ Tryz.prog 75 1 1 := fun _ _ _ => by kernel_rfl
def cl75 (x : (List UInt8) × (List UInt8)) : List Value := [str (x.1)] ++ ([str (x.2)])
theorem tsz9 : TSz Tryz.prog 9 1 := fun _ => by kernel_rfl
noncomputable def zcD (x0 : (List UInt8) × (List UInt8)) (x1 : List UInt8) : Option (((List UInt8) × (List UInt8))) :=
  Option.bind (app x0.1 x1) fun y1 => Option.bind (zeF x0.2 y1) fun y2 => Option.bind (zeF y2 x0.1) fun y3 => some ((y3, y2))
theorem zkJ {b0_ : Nat} {x0 : (List UInt8) × (List UInt8)} (H : HS ⟨S, zeO [.blk b0_ ((cl75 x0)) 75], w⟩ S w [.blk b0_ ((cl75 x0)) 75]) {x1 : List UInt8} {r : ((List UInt8) × (List UInt8))} (hF : zcD x0 x1 = some r) :
    Calls Tryz.prog 45 #[.pointer (some ⟨b0_, 0, none⟩), str (x1)] w fun e w' => ∃ (S2 : Mem) , e = .returned (.tuple #[]) ∧ HS ⟨S, zeO [.blk b0_ ((cl75 x0)) 75], w⟩ S2 w' [.blk b0_ ((cl75 r)) 75] := by
 refine enter (n := 30) Tryz.func45 rfl rfl rfl <| wp_seq_k fun K1 hK1 => bn hF fun y1 e1 hF => bn hF fun y2 e2 hF => wrS H 14 [(11, .inl (str (y2)))] fun vs1 H => ?_
 refine tp (zaC (v := .pointer (some ⟨b0_, 0, none⟩)) rfl) <| tp (zaC (v := .pointer (some ⟨b0_, 0, none⟩)) rfl) <| tp (zcO rfl) <| tp (zaJ fa75_1 rfl) <| t_v (fun w hx => zaR (v := str (x0.2)) to9 (H.ext hx) rfl (k := 0) rfl rfl) <| tp (zaC (v := .pointer (some ⟨b0_, 0, none⟩)) rfl) <| tp (zcO rfl) <| tp (zaJ fa75_0 rfl) ?_
 refine t_v (fun w hx => zaR (v := str (x0.1)) to9 (H.ext hx) rfl (k := 0) rfl rfl) <| tp (zaC (v := str (x1)) rfl) <| tp (r_cat (r := y1) rfl rfl (by have := (zcC e1).1; omega) (zcC e1).2) ?_
 refine tcx is46 (fun w hx => ziL (H.ext hx).sub e2) <| tp (zcO rfl) <| tp (zaJ fa75_1 rfl) <| zbP <| H.tn fun w1 H => zdB (zbE (k := 0) (l := [str (y2)]) tsz9 H rfl rfl rfl (cells_one rfl) rfl (onz rfl) rfl) fun w2 H => wpList_nil <| zaP <| xn hK1 <| bn hF fun y3 e3 hF => wrS H 12 [(9, .inl (str (y3)))] fun vs2 H => ?_
 refine tp (zaC (v := .pointer (some ⟨b0_, 0, none⟩)) rfl) <| tp (zaC (v := .pointer (some ⟨b0_, 0, none⟩)) rfl) <| tp (zcO rfl) <| tp (zaJ fa75_1 rfl) <| t_v (fun w hx => zaR (v := str (y2)) to9 (H.ext hx) rfl (k := 0) rfl rfl) <| tp (zaC (v := .pointer (some ⟨b0_, 0, none⟩)) rfl) <| tp (zcO rfl) <| tp (zaJ fa75_0 rfl) ?_
 refine t_v (fun w hx => zaR (v := str (x0.1)) to9 (H.ext hx) rfl (k := 0) rfl rfl) <| tcx is46 (fun w hx => ziL (H.ext hx).sub e3) <| tp (zcO rfl) <| tp (zaJ fa75_0 rfl) <| zbP <| H.tn fun w3 H => zdB (zbE (k := 0) (l := [str (y3)]) tsz9 H rfl rfl rfl (cells_one rfl) rfl (onz rfl) rfl) fun w4 H => wpList_nil <| zaP <| e_00 rfl ?_
 obtain rfl := osi hF
 exact ⟨_, rfl, H⟩
noncomputable def zgV (x0 : Qw) (y2 : Qw) (s1 : Int × (List UInt8) × (List UInt8)) : Option ((Int × (List UInt8) × (List UInt8)) ⊕ (((List UInt8) × Int) ⊕ ((List UInt8) × (List UInt8)))) :=
  bif decide (s1.1 < 16) then (Option.bind (zeF s1.2.2 s1.2.1) fun y12 => Option.bind (ziM 1 y12) fun y13 => jn (Option.bind (bif (y13.2 == 0) then (Option.bind (zcY) fun y14 => some (((y13.1 : Qw) != (y14 : Qw)))) else (some (false))) (fun t3 => bif t3 then (Option.bind (zfW y13.1) fun y15 => Option.bind (zcY) fun y16 => Option.bind (zgA 1 y15.1 y16) fun y17 => Option.bind (zjI 1 y13.1) fun y18 => Option.bind (zgH 1 y17 x0) fun y19 => Option.bind (zgA 1 y2 y19) fun y20 => Option.bind (zgH 1 y20 y18.1) fun y21 => Option.bind (Option.bind (zcY) fun y22 => bif ((y17 : Qw) != (y22 : Qw)) then (Option.bind (zcY) fun y23 => some (((y21 : Qw) != (y23 : Qw)))) else (some (false))) (fun t4 => bif t4 then (Option.bind (zbZ y17) fun y24 => Option.bind (zbZ y21) fun y25 => Option.bind (app y24 y25) fun y26 => some (.inr ((y26, 0)))) else (some (.inl (()))))) else (some (.inl (()))))) (fun t2 => Option.bind (zcD (y12, s1.2.2) ([0] : List UInt8)) fun y27 => some (.inl (((w64 (s1.1 + 1)), y27.1, y27.2)))) (fun e => some (.inr (.inl (e))))) else (some (.inr (.inr ((s1.2.1, s1.2.2)))))
noncomputable def ziB (x0 : Qw) (x1 : List UInt8) : Option ((List UInt8) × Int) :=
  Option.bind (zfY x0) fun y1 => bif (!y1) then (some ((([] : List UInt8), 80))) else (Option.bind (zlE x1) fun y2 => Option.bind (zbZ x0) fun y3 => Option.bind (zbZ y2) fun y4 => Option.bind (app y3 y4) fun y5 => Option.bind (zcU ([1] : List UInt8) 32) fun y6 => Option.bind (zcU ([0] : List UInt8) 32) fun y7 => Option.bind (app ([0] : List UInt8) y5) fun y8 => Option.bind (zcD (y6, y7) y8) fun y9 => Option.bind (app ([1] : List UInt8) y5) fun y10 => Option.bind (zcD (y9.1, y9.2) y10) fun y11 => jn (Option.bind (iter (zgV x0 y2) ((0, y11.1, y11.2))) (fun e => jnO e (fun e1 => some (.inr (e1))) (fun e2 => some (.inl (e2))))) (fun t1 => some ((([] : List UInt8), 81))) (fun e => some (e)))
set_option maxRecDepth 20000 in
set_option maxHeartbeats 2000000 in
theorem sign_Sign_c (hS : Sub S w) {x0 : Qw} {x1 : List UInt8} {r : (List UInt8) × Int} (hF : ziB x0 x1 = some r) :
    Calls Tryz.prog 12 #[.agg ((cl24 x0)).toArray, str (x1)] w fun e w' => e = .returned (.tuple #[str (r.1), .int .i64 (r.2)]) ∧ Ext w w' := by
 refine enter (n := 99) Tryz.func12 rfl rfl rfl ?_
 have H := HS.start hS
 refine sr fun K1 hK1 => zdI (zkN (l := (cl24 x0)) H rfl) fun w1 b1 H => asT rfl <| asI rfl <| xk hK1 <| wp_seq_k fun K2 hK2 => sr fun K3 hK3 => zaA (zbL (l := (cl24 x0)) tg24 H rfl (k := 0) rfl rfl rfl) <| bn hF fun y1 e1 hF => ?_
 refine zaF is34 rfl <| (sign_fine_c H.sub e1).mono <| H.xe fun w2 H => zaA (zlK (t := (!y1)) rfl rfl) <| xk hK3 ?_
 refine zbR hF rfl (fun hF hc1 => ?_) fun hF hc1 => ?_
 ·refine sr fun K4 hK4 => ?_
  refine asT rfl <| asI rfl <| xk hK4 <| wp_ret <| zdC ?_
  obtain rfl := osi hF
  refine e_2 rfl (zbD rfl) (zbD rfl) ?_
  exact ⟨rfl, H.toExt⟩
 ·refine wp_skip ?_
  refine xn hK2 <| sr fun K5 hK5 => mvT rfl <| bn hF fun y2 e2 hF => zaF is42 rfl <| (sign_sum_c H.sub e2).mono <| H.xe fun w3 H => zdI (zcP (l := (cl24 ((0, 0, 0, 0) : Qw))) H tz24 rfl) fun w4 b2 H => zdB (zbE (k := 0) (l := (cl24 y2)) tsz24 H rfl rfl rfl (zaV _) rfl (onz rfl) rfl) fun w5 H => xk hK5 ?_
  refine wp_seq_k fun K6 hK6 => bn hF fun y3 e3 hF => bn hF fun y4 e4 hF => bn hF fun y5 e5 hF => wrS H 5 [(1, .inl (str (y3))), (3, .inl (str (y4)))] fun vs1 H => ?_
  refine t_v (fun w hx => zbL (l := (cl24 x0)) tg24 (H.ext hx) rfl (k := 1) rfl rfl rfl) <| tcx is43 (fun w hx => zkT (H.ext hx).sub e3) <| t_v (fun w hx => zbL (l := (cl24 y2)) tg24 (H.ext hx) rfl (k := 0) rfl rfl rfl) <| tcx is43 (fun w hx => zkT (H.ext hx).sub e4) <| tp (r_cat (r := y5) rfl rfl (by have := (zcC e5).1; omega) (zcC e5).2) ?_
  refine zbP <| H.tn fun w6 H => asT rfl <| wpList_nil <| zaP <| xn hK6 <| sr fun K7 hK7 => bn hF fun y6 e6 hF => zaF is44 rfl <| (strings_Repeat_c H.sub e6).mono <| H.xe fun w7 H => bn hF fun y7 e7 hF => ?_
  refine zaF is44 rfl <| (strings_Repeat_c H.sub e7).mono <| H.xe fun w8 H => zaA (zbC (vals := [(0, str (y6)), (1, str (y7))]) (l := (cl75 (y6, y7))) tb75 rfl rfl) <| zdI (zkN (l := (cl75 (y6, y7))) H rfl) fun w9 b3 H => asP rfl <| xk hK7 <| sr fun K8 hK8 => mvP rfl <| mvT rfl ?_
  refine bn hF fun y8 e8 hF => zaA (r_cat (r := y8) rfl rfl (by have := (zcC e8).1; omega) (zcC e8).2) ?_
  refine bn hF fun y9 e9 hF => zaF is45 rfl <| (zkJ (H.hand [0] rfl) e9).mono ?_; rintro _ w10 ⟨S1, rfl, H2⟩
  obtain ⟨H1, hle1⟩ := H.frame [0] [1, 2] rfl H2; clear H H2; have H := H1; clear H1
  replace H := hsn H
  refine xk hK8 <| sr fun K9 hK9 => mvP rfl <| mvT rfl <| bn hF fun y10 e10 hF => zaA (r_cat (r := y10) rfl rfl (by have := (zcC e10).1; omega) (zcC e10).2) ?_
  refine bn hF fun y11 e11 hF => zaF is45 rfl <| (zkJ (H.hand [0] rfl) e11).mono ?_; rintro _ w11 ⟨S2, rfl, H2⟩
  obtain ⟨H1, hle2⟩ := H.frame [0] [1, 2] rfl H2; clear H H2; have H := H1; clear H1
  replace H := hsn H
  refine xk hK9 <| wp_seq_k fun K10 hK10 => zaY fun m1 k1 => ?_
  obtain ⟨o1, hE1, hF1⟩ := jn_some hF
  have J4 : ∀ (t1 : (List UInt8) × (List UInt8)) (S7 : Mem) (m10 : FM) (w37 : World), o1 = .inl t1 → Kp (4 :: 5 :: rg 9 6 (rg 37 62 [])) m10 m1 → Mem.le S2 S7 → HS ⟨S, [], w⟩ S7 w37 [.blk b3 ((cl75 t1)) 75, .blk b2 ((cl24 y2)) 24, .blk b1 ((cl24 x0)) 24] → K10 (fr 99 m10) w37 := by
   clear H; intro t1 S7 m10 w37 ho k11 hle7 H
   replace hF1 := jnO_l hF1 ho
   refine hK10 _ _ <| sr fun K24 hK24 => asT rfl <| asI rfl <| xk hK24 <| wp_ret ?_
   obtain rfl := osi hF1
   refine e_2 rfl (zbD rfl) (zbD rfl) ?_
   exact ⟨rfl, H.toExt⟩
  refine sr fun K11 hK11 => mvI rfl <| xk hK11 <| wp_block <| zaY fun m2 k2 => bn hE1 fun out1 hL1 hE2 => ?_
  refine zdL (4 :: 5 :: rg 9 6 (rg 37 62 [])) (fun (s1 : Int × (List UInt8) × (List UInt8)) (m3 : FM) (w12 : World) => ∃ (S3 : Mem), look m3 37 = .int .i64 (s1.1) ∧ Mem.le S2 S3 ∧ HS ⟨S, [], w⟩ S3 w12 [.blk b3 ((cl75 s1.2)) 75, .blk b2 ((cl24 y2)) 24, .blk b1 ((cl24 x0)) 24]) hL1 ⟨_, (k2 37), (Mem.le_refl _), H⟩ ?_
  clear H; intro k4 s1 m3 w12 k3 hI1 o2 hb1 hh1; obtain ⟨S3, q1, hle3, H⟩ := hI1
  have q2 : look m3 2 = .pointer (some ⟨b1, 0, none⟩) := (k3 2 rfl).trans ((k2 2).trans (k1 2))
  have q3 : look m3 6 = .pointer (some ⟨b2, 0, none⟩) := (k3 6 rfl).trans ((k2 6).trans (k1 6))
  have q4 : look m3 8 = .pointer (some ⟨b3, 0, none⟩) := (k3 8 rfl).trans ((k2 8).trans (k1 8))
  refine sr fun K12 hK12 => zaA (zcR q1 rfl) <| xk hK12 <| wp_seq_k fun K13 hK13 => ?_
  refine zbR hb1 rfl (fun hb1 hc2 => ?_) fun hb1 hc2 => ?_
  ·refine wp_skip ?_
   refine xn hK13 <| wp_seq_k fun K14 hK14 => wp_block <| wp_seq_k fun K15 hK15 => bn hb1 fun y12 e12 hb1 => wrS H 12 [(9, .inl (str (y12)))] fun vs2 H => ?_
   refine tp (zaC (v := .pointer (some ⟨b3, 0, none⟩)) q4) <| tp (zaC (v := .pointer (some ⟨b3, 0, none⟩)) q4) <| tp (zcO rfl) <| tp (zaJ fa75_1 rfl) <| t_v (fun w hx => zaR (v := str (s1.2.2)) to9 (H.ext hx) rfl (k := 0) rfl rfl) <| tp (zaC (v := .pointer (some ⟨b3, 0, none⟩)) q4) <| tp (zcO rfl) <| tp (zaJ fa75_0 rfl) ?_
   refine t_v (fun w hx => zaR (v := str (s1.2.1)) to9 (H.ext hx) rfl (k := 0) rfl rfl) <| tcx is46 (fun w hx => ziL (H.ext hx).sub e12) <| tp (zcO rfl) <| tp (zaJ fa75_0 rfl) <| zbP <| H.tn fun w13 H => zdB (zbE (k := 0) (l := [str (y12)]) tsz9 H rfl rfl rfl (cells_one rfl) rfl (onz rfl) rfl) fun w14 H => wpList_nil <| zaP <| xn hK15 <| sr fun K16 hK16 => ?_
   refine p_mv (v := .pointer (some ⟨b3, 0, none⟩)) q4 <| zaA (zcO rfl) <| zaA (zaJ fa75_0 rfl) <| zaA (zaR (v := str (y12)) to9 H rfl (k := 0) rfl rfl) <| bn hb1 fun y13 e13 hb1 => zaF is47 rfl <| (field_Of_c H.sub e13).mono <| H.xe fun w15 H => mvU rfl <| zaA (zaM (v := .agg ((cl24 y13.1)).toArray) rfl rfl) ?_
   refine zaA (zaM (v := .int .i64 (y13.2)) rfl rfl) <| zdI (zcP (l := (cl24 ((0, 0, 0, 0) : Qw))) H tz24 rfl) fun w16 b4 H => zdB (zbE (k := 0) (l := (cl24 y13.1)) tsz24 H rfl rfl rfl (zaV _) rfl (onz rfl) rfl) fun w17 H => asI rfl <| xk hK16 <| wp_seq_k fun K17 hK17 => zaY fun m4 k5 => ?_
   obtain ⟨o3, hE3, hF2⟩ := jn_some hb1
   have J3 : ∀ (t2 : Unit) (S5 : Mem) (m9 : FM) (w35 : World), o3 = .inl t2 → Kp (4 :: 5 :: 11 :: 12 :: 13 :: 14 :: rg 59 37 []) m9 m4 → Mem.le S3 S5 → HS ⟨S, [], w⟩ S5 w35 [.blk b4 ((cl24 y13.1)) 24, .blk b3 ((cl75 (y12, s1.2.2))) 75, .blk b2 ((cl24 y2)) 24, .blk b1 ((cl24 x0)) 24] → K17 (fr 99 m9) w35 := by
    clear H; intro t2 S5 m9 w35 ho k10 hle5 H
    replace hF2 := jnO_l hF2 ho
    have q18 := (k10 2 rfl).trans ((k5 2).trans q2)
    have q19 := (k10 6 rfl).trans ((k5 6).trans q3)
    have q20 := (k10 8 rfl).trans ((k5 8).trans q4)
    have q21 := (k10 37 rfl).trans ((k5 37).trans q1)
    refine hK17 _ _ <| wp_region_lit <| p_mv (v := .pointer (some ⟨b3, 0, none⟩)) q20 <| bn hF2 fun y27 e27 hF2 => zaF is45 rfl <| (zkJ (H.hand [1] rfl) e27).mono ?_; rintro _ w36 ⟨S6, rfl, H2⟩
    obtain ⟨H1, hle6⟩ := H.frame [1] [0, 2, 3] rfl H2; clear H H2; have H := H1; clear H1
    replace H := hsn H
    refine wpList_nil <| zaS <| xn hK14 <| wp_region_lit <| zaA (zcH q21 rfl) <| mvI rfl <| wpList_nil <| zaG ?_
    replace H := H.sel [0, 2, 3] rfl
    replace H := hsn H
    obtain rfl := osi hF2
    exact ⟨((w64 (s1.1 + 1)), y27.1, y27.2), _, rfl, (kS k10 rfl (kN k5 (kS k3 rfl kcx))), ⟨_, rfl, (Mem.le_trans hle3 (Mem.le_trans hle5 hle6)), H⟩, hh1⟩
   refine wp_seq_k fun K18 hK18 => zaY fun m5 k6 => bn hE3 fun t3 hE4 hF3 => ?_
   have J2 : ∀ (m6 : FM) (w20 : World), Kp (rg 59 7 []) m6 m5 → look m6 65 = .bool (t3) → HS ⟨S, [], w⟩ S3 w20 [.blk b4 ((cl24 y13.1)) 24, .blk b3 ((cl75 (y12, s1.2.2))) 75, .blk b2 ((cl24 y2)) 24, .blk b1 ((cl24 x0)) 24] → K18 (fr 99 m6) w20 := by
    clear H; intro m6 w20 k7 q5 H
    have q6 := (k7 2 rfl).trans ((k6 2).trans ((k5 2).trans q2))
    have q7 := (k7 6 rfl).trans ((k6 6).trans ((k5 6).trans q3))
    have q8 := (k7 8 rfl).trans ((k6 8).trans ((k5 8).trans q4))
    have q9 := (k7 37 rfl).trans ((k6 37).trans ((k5 37).trans q1))
    have q10 : look m6 9 = .pointer (some ⟨b4, 0, none⟩) := (k7 9 rfl).trans ((k6 9).trans (k5 9))
    refine hK18 _ _ ?_
    refine zcG q5 (fun hc3 => ?_) (fun hc3 => ?_)
    ·replace hF3 := zfK hF3 hc3
     refine sr fun K19 hK19 => zaA (zbL (l := (cl24 y13.1)) tg24 H q10 (k := 0) rfl rfl rfl) <| bn hF3 fun y15 e15 hF3 => zaF is35 rfl <| (sign_times_c H.sub e15).mono <| H.xe fun w21 H => zaA (r_fldA (fs := fieldsOf Tryz.prog 26) (i := 0) (o := 0) (by kernel_rfl) rfl rfl tg24 rfl (l' := (cl24 y15.1)) rfl) <| bn hF3 fun y16 e16 hF3 => zaF is48 rfl <| (zfA H.sub e16).mono <| H.xe fun w22 H => ?_
     refine bn hF3 fun y17 e17 hF3 => zaF is49 rfl <| (field_Add_c H.sub e17).mono <| H.xe fun w23 H => zdI (zcP (l := (cl24 ((0, 0, 0, 0) : Qw))) H tz24 rfl) fun w24 b5 H => zdB (zbE (k := 0) (l := (cl24 y17)) tsz24 H rfl rfl rfl (zaV _) rfl (onz rfl) rfl) fun w25 H => xk hK19 <| sr fun K20 hK20 => zaA (zbL (l := (cl24 y13.1)) tg24 H q10 (k := 1) rfl rfl rfl) ?_
     refine bn hF3 fun y18 e18 hF3 => zaF is50 rfl <| (field_Inv_c H.sub e18).mono <| H.xe fun w26 H => mvU rfl <| zaA (zaM (v := .agg ((cl24 y18.1)).toArray) rfl rfl) <| zaA (zaM (v := .int .i64 (y18.2)) rfl rfl) <| zdI (zcP (l := (cl24 ((0, 0, 0, 0) : Qw))) H tz24 rfl) fun w27 b6 H => ?_
     refine zdB (zbE (k := 0) (l := (cl24 y18.1)) tsz24 H rfl rfl rfl (zaV _) rfl (onz rfl) rfl) fun w28 H => asI rfl <| xk hK20 <| wp_seq_k fun K21 hK21 => bn hF3 fun y19 e19 hF3 => bn hF3 fun y20 e20 hF3 => bn hF3 fun y21 e21 hF3 => ?_
     refine wrS H 8 [(3, .inl (.agg ((cl24 y19)).toArray)), (4, .inl (.agg ((cl24 y20)).toArray)), (6, .inl (.agg ((cl24 y21)).toArray)), (7, .inr (lowR (NewAt w28.drew ((cl24 ((0, 0, 0, 0) : Qw))) 24)))] fun vs4 H => ?_
     refine t_v (fun w hx => zbL (l := (cl24 y2)) tg24 (H.ext hx) q7 (k := 4) rfl rfl rfl) <| t_v (fun w hx => zbL (l := (cl24 y17)) tg24 (H.ext hx) rfl (k := 1) rfl rfl rfl) <| t_v (fun w hx => zbL (l := (cl24 x0)) tg24 (H.ext hx) q6 (k := 5) rfl rfl rfl) <| tcx is51 (fun w hx => field_Mul_c (H.ext hx).sub e19) <| tcx is49 (fun w hx => field_Add_c (H.ext hx).sub e20) ?_
     refine t_v (fun w hx => zbL (l := (cl24 y18.1)) tg24 (H.ext hx) rfl (k := 0) rfl rfl rfl) <| tcx is51 (fun w hx => field_Mul_c (H.ext hx).sub e21) <| zeA rfl rfl tz24 rfl ?_
     refine zbP (fun w29 hx hF hA => ?_)
     obtain ⟨F1, hd1, h01⟩ := depE hF
     obtain ⟨⟨b7, eq1, hb3, hh2⟩, hn1⟩ := zbH hF 7 rfl rfl
     have hle4 := zcZ (F := F1) (w := w29) H.sub; replace H := (HS.adopt (H.callF (F := F1) hx) (Nat.le_trans H.fr.size hb3) (gf_none hb3 (by rw [h01]; exact noF hA (by decide) rfl eq1 hn1)) hh2 (HS.keys_lt H hb3)); clear hx hF hA hd1 h01; generalize gf S3 w28.drew F1 w29 = S4 at hle4 H
     refine zdB (zbE (k := 0) (l := (cl24 y21)) tsz24 H eq1 rfl rfl (zaV _) rfl (onz rfl) rfl) fun w30 H => wpList_nil <| zaP <| xn hK21 <| wp_seq_k fun K22 hK22 => zaY fun m7 k8 => bn hF3 fun t4 hE5 hF4 => ?_
     have J1 : ∀ (m8 : FM) (w33 : World), Kp (rg 83 8 []) m8 m7 → look m8 90 = .bool (t4) → HS ⟨S, [], w⟩ S4 w33 [.blk b7 ((cl24 y21)) 24, .blk b6 ((cl24 y18.1)) 24, .blk b5 ((cl24 y17)) 24, .blk b4 ((cl24 y13.1)) 24, .blk b3 ((cl75 (y12, s1.2.2))) 75, .blk b2 ((cl24 y2)) 24, .blk b1 ((cl24 x0)) 24] → K22 (fr 99 m8) w33 := by
      clear H; intro m8 w33 k9 q11 H
      have q12 := (k9 2 rfl).trans ((k8 2).trans q6)
      have q13 := (k9 6 rfl).trans ((k8 6).trans q7)
      have q14 := (k9 8 rfl).trans ((k8 8).trans q8)
      have q15 := (k9 37 rfl).trans ((k8 37).trans q9)
      have q16 : look m8 11 = .pointer (some ⟨b5, 0, none⟩) := (k9 11 rfl).trans (k8 11)
      have q17 : look m8 14 = .pointer (some ⟨b7, 0, none⟩) := (k9 14 rfl).trans ((k8 14).trans eq1)
      refine hK22 _ _ ?_
      refine zcG q11 (fun hc4 => ?_) (fun hc4 => ?_)
      ·replace hF4 := zfK hF4 hc4
       refine wp_seq_k fun K23 hK23 => bn hF4 fun y24 e24 hF4 => bn hF4 fun y25 e25 hF4 => bn hF4 fun y26 e26 hF4 => wrS H 5 [(1, .inl (str (y24))), (3, .inl (str (y25)))] fun vs6 H => ?_
       refine t_v (fun w hx => zbL (l := (cl24 y17)) tg24 (H.ext hx) q16 (k := 2) rfl rfl rfl) <| tcx is43 (fun w hx => zkT (H.ext hx).sub e24) <| t_v (fun w hx => zbL (l := (cl24 y21)) tg24 (H.ext hx) q17 (k := 0) rfl rfl rfl) <| tcx is43 (fun w hx => zkT (H.ext hx).sub e25) <| tp (r_cat (r := y26) rfl rfl (by have := (zcC e26).1; omega) (zcC e26).2) ?_
       refine zbP <| H.tn fun w34 H => asT rfl <| asI rfl <| wpList_nil <| zaP <| xn hK23 <| wp_ret <| zdC <| b_ret <| zdC ?_
       refine zdC <| b_ret <| zdC ?_
       obtain rfl := osi hF4
       obtain rfl := osi hF2
       obtain rfl := osi hh1
       obtain rfl := osi hE2
       obtain rfl := osi hF1
       refine e_2 rfl (zbD rfl) (zbD rfl) ?_
       exact ⟨rfl, H.toExt⟩
      ·replace hF4 := zfR hF4 hc4
       refine wp_skip <| zaG ?_
       replace H := H.sel [3, 4, 5, 6] rfl
       replace H := hsn H
       obtain rfl := osi hF4
       exact J3 _ _ _ _ rfl (kS k9 rfl (kN k8 (kS k7 rfl (kN k6 kcx)))) hle4 H
     refine bn hE5 fun y22 e22 hE5 => ?_
     rcases Bool.eq_false_or_eq_true (((y17 : Qw) != (y22 : Qw))) with hb4 | hb4
     ·replace hE5 := zfK hE5 hb4
      refine bn hE5 fun y23 e23 hE5 => wrS H 8 [(1, .inl (.agg ((cl24 y22)).toArray)), (5, .inl (.agg ((cl24 y23)).toArray))] fun vs5 H => ?_
      refine t_v (fun w hx => zbL (l := (cl24 y17)) tg24 (H.ext hx) (k8 11) (k := 2) rfl rfl rfl) <| tcx is48 (fun w hx => zfA (H.ext hx).sub e22) <| tp (r_neR eg24 (by decide) (eqt24 y17 y22) rfl rfl) <| tp (zaC (v := .bool (((y17 : Qw) != (y22 : Qw)))) rfl) <| zbX rfl hb4 (fun w hx => zbL (l := (cl24 y21)) tg24 (H.ext hx) ((k8 14).trans eq1) (k := 0) rfl rfl rfl) rfl rfl ?_
      refine zjK rfl hb4 (l := []) rfl rfl is48 rfl (fun w hx hF => (zfA (H.ext hx).sub e23).mono (fun _ _ h => h)) <| zbX rfl hb4 (fun w hx => r_neR eg24 (by decide) (eqt24 y21 y23) rfl rfl) rfl rfl <| tp (zbQ (v := .bool (((y21 : Qw) != (y23 : Qw)))) rfl hb4 rfl) <| zbP <| H.tn fun w31 H => wpList_nil <| zaP <| zaG ?_
      obtain rfl := osi hE5
      exact J1 _ _ kcx rfl H
     ·replace hE5 := zfR hE5 hb4
      refine wrS H 8 [(1, .inl (.agg ((cl24 y22)).toArray))] fun vs5 H => ?_
      refine t_v (fun w hx => zbL (l := (cl24 y17)) tg24 (H.ext hx) (k8 11) (k := 2) rfl rfl rfl) <| tcx is48 (fun w hx => zfA (H.ext hx).sub e22) <| tp (r_neR eg24 (by decide) (eqt24 y17 y22) rfl rfl) <| tp (zaC (v := .bool (((y17 : Qw) != (y22 : Qw)))) rfl) <| zbB rfl hb4 rfl ?_
      rw [zaH]
      refine zbB rfl hb4 rfl ?_
      rw [zaH]
      refine zbB rfl hb4 rfl ?_
      rw [zaH]
      refine tp (zaX (v := .bool (false)) rfl hb4 rfl) <| zbP <| H.tn fun w32 H => wpList_nil <| zaP <| zaG ?_
      obtain rfl := osi hE5
      exact J1 _ _ kcx rfl H
    ·replace hF3 := zfR hF3 hc3
     refine wp_skip <| zaG ?_
     obtain rfl := osi hF3
     exact J3 _ _ _ _ rfl (kS k7 rfl (kN k6 kcx)) (Mem.le_refl _) H
   rcases Bool.eq_false_or_eq_true ((y13.2 == 0)) with hb2 | hb2
   ·replace hE4 := zfK hE4 hb2
    refine bn hE4 fun y14 e14 hE4 => wrS H 7 [(4, .inl (.agg ((cl24 y14)).toArray))] fun vs3 H => ?_
    refine tp (zaC ((k6 10).trans (k5 10))) <| tp (zdS rfl rfl) <| tp (zaC (v := .bool ((y13.2 == 0))) rfl) <| zbX rfl hb2 (fun w hx => zbL (l := (cl24 y13.1)) tg24 (H.ext hx) ((k6 9).trans (k5 9)) (k := 0) rfl rfl rfl) rfl rfl <| zjK rfl hb2 (l := []) rfl rfl is48 rfl (fun w hx hF => (zfA (H.ext hx).sub e14).mono (fun _ _ h => h)) ?_
    refine zbX rfl hb2 (fun w hx => r_neR eg24 (by decide) (eqt24 y13.1 y14) rfl rfl) rfl rfl <| tp (zbQ (v := .bool (((y13.1 : Qw) != (y14 : Qw)))) rfl hb2 rfl) <| zbP <| H.tn fun w18 H => wpList_nil <| zaP <| zaG ?_
    obtain rfl := osi hE4
    exact J2 _ _ kcx rfl H
   ·replace hE4 := zfR hE4 hb2
    refine wrS H 7 [] fun vs3 H => ?_
    refine tp (zaC ((k6 10).trans (k5 10))) <| tp (zdS rfl rfl) <| tp (zaC (v := .bool ((y13.2 == 0))) rfl) <| zbB rfl hb2 rfl ?_
    rw [zaH]
    refine zbB rfl hb2 rfl ?_
    rw [zaH]
    refine zbB rfl hb2 rfl ?_
    rw [zaH]
    refine tp (zaX (v := .bool (false)) rfl hb2 rfl) <| zbP <| H.tn fun w19 H => wpList_nil <| zaP <| zaG ?_
    obtain rfl := osi hE4
    exact J2 _ _ kcx rfl H
  ·refine wp_exit ?_
   refine zaN <| zaN <| zcK <| zaG ?_
   obtain rfl := osi hb1
   obtain rfl := osi hh1
   obtain rfl := osi hE2
   exact J4 _ _ _ _ rfl (kS k3 rfl (kN k2 kcx)) hle3 H
theorem bu1 : Tryz.prog.underlying 132 = some (.pointer 134) := by kernel_rfl
theorem bu2 : Tryz.prog.underlying 190 = some .unsafePointer := by kernel_rfl
theorem bi1 : (Tryz.prog.info? 134).map (·.size) = some 2 := by kernel_rfl
theorem bl1 : liesAt Tryz.prog Tryz.prog.depth 134 (2 / Tryz.prog.cellsOf 134) 0 134 1 = true := by kernel_rfl
theorem bf0 : zgZ Tryz.prog 134 0 0 := fun _ _ _ => by kernel_rfl
theorem bf1 : zgZ Tryz.prog 134 1 1 := fun _ _ _ => by kernel_rfl
theorem bto : TOne Tryz.prog 132 := ⟨fun _ => by kernel_rfl, fun _ => by kernel_rfl⟩
theorem bto2 : TOne Tryz.prog 127 := ⟨fun _ => by kernel_rfl, fun _ => by kernel_rfl⟩
theorem btz : TSz Tryz.prog 132 1 := fun _ => by kernel_rfl
theorem bnoEsc (x : Value) (w : World) : (callFunc 160 [x].toArray).run Tryz.prog w = .ok (.value x) w := by
 have h := run_callFunc_extern (P := Tryz.prog) (w := w) (args := #[x]) Tryz.func160 (by kernel_rfl) (by kernel_rfl) (by kernel_rfl) (e := Extern.AbiNoEscape.same) (by kernel_rfl)
 show (callFunc 160 #[x]).run Tryz.prog w = _
 rw [h, Lib.run_noEscape]; rfl
def ziC (x0 : List UInt8) : Option (List UInt8) := some x0
section
variable {P : Program} {w : World} {B : Bas} {S : Mem} {L : List Res} {e : Operand → Value} {dst : Option Tmp} {g : Option (Nat × Bool)} {ty : TypeId} {pos : String} {aft : Array Edge} {x y : Operand} {T T1 T2 T' : TypeId} {a : Addr}
theorem r_eqPN (hu : P.underlying T = some (.pointer T1)) (hx : e x = .pointer none) (hy : e y = .pointer none) : (execOp e ⟨dst, .binOp .eql T x y T', ty, pos, aft, g⟩).run P w = .ok (.value (.bool true)) w := by
 have h : (Op.equal T (.pointer none) (.pointer none)).run P w = .ok true w := by
  have h : ∀ d, (Op.equalIn (d + 1) T (.pointer none) (.pointer none)).run P w = .ok true w := fun d => by simp [Op.equalIn, Go.underlying, hu]
  exact h 9999
 simp [execOp, eqGuard, binOp, hx, hy, h]
theorem r_eqPS (hu : P.underlying T = some (.pointer T1)) (hx : e x = .pointer (some a)) (hy : e y = .pointer none) : (execOp e ⟨dst, .binOp .eql T x y T', ty, pos, aft, g⟩).run P w = .ok (.value (.bool false)) w := by
 have h : (Op.equal T (.pointer (some a)) (.pointer none)).run P w = .ok false w := by
  have h : ∀ d, (Op.equalIn (d + 1) T (.pointer (some a)) (.pointer none)).run P w = .ok false w := fun d => by simp [Op.equalIn, Go.underlying, hu]
  exact h 9999
 simp [execOp, eqGuard, binOp, hx, hy, h]
theorem r_nePP {j : TypeInfo} (hu : P.underlying T = some (.pointer T1)) (hj : P.info? T1 = some j) (hx : e x = .pointer (some a)) (hy : e y = .pointer (some a)) : (execOp e ⟨dst, .binOp .neq T x y T', ty, pos, aft, g⟩).run P w = .ok (.value (.bool false)) w := by
 have h := Lib.run_neq_ptr_same (P := P) w a hu hj
 simp [execOp, eqGuard, hx, hy, h]
end
theorem Builder_copyCheck_c {b0_ : Nat} {x0 : List UInt8} {pv1 : Value} {pcs1 prs1 : List Value} {pa1 : Value} (H : HS ⟨S, zeO [.blk b0_ ([pa1] ++ ([pv1])) 134, .osl (pv1) (x0).length 1 pcs1 prs1 5], w⟩ S w [.blk b0_ ([pa1] ++ ([pv1])) 134, .osl (pv1) (x0).length 1 pcs1 prs1 5])
  (pg1 : RL S pcs1 x0) (pg2 : BA b0_ pa1) {r : List UInt8} (hF : ziC x0 = some r) :
  Calls Tryz.prog 141 #[.pointer (some ⟨b0_, 0, none⟩)] w fun e w' => ∃ (S2 : Mem) (pv2 : Value) (pcs2 prs2 : List Value) (pa2 : Value), e = .returned (.tuple #[]) ∧ HS ⟨S, zeO [.blk b0_ ([pa1] ++ ([pv1])) 134, .osl (pv1) (x0).length 1 pcs1 prs1 5], w⟩ S2 w' [.blk b0_ ([pa2] ++ ([pv2])) 134, .osl (pv2) (r).length 1 pcs2 prs2 5] ∧ RL S2 pcs2 r ∧ BA b0_ pa2 := by
 obtain rfl := osi hF
 obtain ⟨j, hj, hjs⟩ := Option.map_eq_some_iff.1 bi1
 have hblk : w.heap[b0_]? = some (.cells ([pa1] ++ ([pv1])).toArray 134 (0, 0)) := H.own 0 _ rfl
 have hsh : w.shape? (⟨b0_, 0, none⟩ : Addr).block = some (134, 2) := by simp [World.shape?, hblk]
 refine enter (n := 20) Tryz.func141 rfl rfl rfl ?_
 rcases pg2 with rfl | rfl
 ·refine wp_seq_k ?_; intro K1 hK1
  refine wp_region_lit ?_
  refine zaA (zaC (v := .pointer (some ⟨b0_, 0, none⟩)) rfl) ?_
  refine zaA (zcO rfl) ?_
  refine zaA (zaJ bf0 rfl) ?_
  refine zaA (zaR (v := .pointer none) bto H rfl (k := 0) rfl rfl) ?_
  refine zaA (r_eqPN bu1 rfl rfl) ?_
  refine wpList_nil ?_
  refine zaG ?_; refine hK1 _ _ ?_
  refine zcQ rfl rfl ?_
  refine wp_region_lit ?_
  refine zaA (zaC (v := .pointer (some ⟨b0_, 0, none⟩)) rfl) ?_
  refine zaA (zaC (v := .pointer (some ⟨b0_, 0, none⟩)) rfl) ?_
  refine zaA (c := .pointer (some ⟨b0_, 0, none⟩)) (by
   have h := Lib.run_to_unsafe (P := Tryz.prog) w ⟨b0_, 0, none⟩ bu1 bu2 hj (by rw [hjs]; decide) hsh (Nat.zero_lt_succ 1)
   simp only [execOp]
   exact (by rw [Sem.run_bind]; erw [h]; rfl)) ?_
  refine zlJ (l := [.pointer (some ⟨b0_, 0, none⟩)]) rfl (bnoEsc _ _) ?_
  refine zaA (c := .pointer (some ⟨b0_, 0, none⟩)) (by
   have h := Lib.run_from_unsafe (P := Tryz.prog) w ⟨b0_, 0, none⟩ bu2 bu1 hj hsh bl1
   simp only [execOp]
   exact (by rw [Sem.run_bind]; erw [h]; rfl)) ?_
  refine zaA (zcO rfl) ?_
  refine zaA (zaJ bf0 rfl) ?_
  refine zdB (zbE (k := 0) (v := .pointer (some ⟨b0_, 0, none⟩)) (l := [.pointer (some ⟨b0_, 0, none⟩)]) btz H rfl rfl rfl (cells_one rfl) rfl (fun u hu => List.all_eq_true.1 (rfl : ([Value.pointer (some ⟨b0_, 0, none⟩)]).all (·.oneCell') = true) u hu) rfl) ?_; clear H; intro w2 H
  refine wpList_nil ?_
  refine e_00 rfl ?_
  exact ⟨S, pv1, pcs1, prs1, .pointer (some ⟨b0_, 0, none⟩), rfl, H, pg1, .inr rfl⟩
 ·refine wp_seq_k ?_; intro K1 hK1
  refine wp_region_lit ?_
  refine zaA (zaC (v := .pointer (some ⟨b0_, 0, none⟩)) rfl) ?_
  refine zaA (zcO rfl) ?_
  refine zaA (zaJ bf0 rfl) ?_
  refine zaA (zaR (v := .pointer (some ⟨b0_, 0, none⟩)) bto H rfl (k := 0) rfl rfl) ?_
  refine zaA (r_eqPS bu1 rfl rfl) ?_
  refine wpList_nil ?_
  refine zaG ?_; refine hK1 _ _ ?_
  refine ziX rfl rfl ?_
  refine wp_seq_k ?_; intro K2 hK2
  refine wp_region_lit ?_
  refine zaA (zaC (v := .pointer (some ⟨b0_, 0, none⟩)) rfl) ?_
  refine zaA (zcO rfl) ?_
  refine zaA (zaJ bf0 rfl) ?_
  refine zaA (zaR (v := .pointer (some ⟨b0_, 0, none⟩)) bto H rfl (k := 0) rfl rfl) ?_
  refine zaA (zaC (v := .pointer (some ⟨b0_, 0, none⟩)) rfl) ?_
  refine zaA (r_nePP bu1 hj rfl rfl) ?_
  refine wpList_nil ?_
  refine zaG ?_; refine hK2 _ _ ?_
  refine ziX rfl rfl ?_
  refine wp_skip ?_
  refine e_00 rfl ?_
  exact ⟨S, pv1, pcs1, prs1, .pointer (some ⟨b0_, 0, none⟩), rfl, H, pg1, .inr rfl⟩
theorem bus : Tryz.prog.underlying 127 = some (.slice 5) := by kernel_rfl
theorem bup : Tryz.prog.underlying 177 = some (.pointer 5) := by kernel_rfl
theorem buc : Tryz.prog.cellsOf 5 = 1 := by kernel_rfl
section
variable {P : Program} {w : World} {e : Operand → Value} {dst : Option Tmp} {g : Option (Nat × Bool)} {ty : TypeId} {pos : String} {aft : Array Edge} {x y : Operand} {T T1 : TypeId}
theorem r_usd {r : Value} {v : Value} {w' : World} (hx : e x = v) (h : (Builtin.unsafeSliceData_ #[T] ty #[v]).run P w = .ok r w') : (execOp e ⟨dst, .call ⟨.builtin .unsafeSliceData, #[x], #[T]⟩, ty, pos, aft, g⟩).run P w = .ok (.value r) w' := by
 simp [execOp, resolve, invoke, builtin, hx, h]
theorem r_ust {r : Value} {v u : Value} {w' : World} (hx : e x = v) (hy : e y = u) (h : (Builtin.unsafeString_ #[T, T1] ty #[v, u]).run P w = .ok r w') : (execOp e ⟨dst, .call ⟨.builtin .unsafeString, #[x, y], #[T, T1]⟩, ty, pos, aft, g⟩).run P w = .ok (.value r) w' := by
 simp [execOp, resolve, invoke, builtin, hx, hy, h]
theorem stR_rm : ∀ {L : List Res} {k : Nat} {x : Res}, rmR (stR L k x) k = rmR L k
 | [], _, _ => rfl
 | _ :: _, 0, _ => rfl
 | y :: l, k + 1, x => by simp only [stR, rmR, stR_rm (L := l) (k := k)]
end
theorem Builder_String_c {B : Bas} {S : Mem} {w : World} {L : List Res} {k1 k2 b : Nat} {a v : Value} {cs rs : List Value} {xs : List UInt8} (H : HS B S w L) (h1 : lkR L k1 = some (.blk b ([a] ++ ([v])) 134)) (h2 : lkR L k2 = some (.osl v xs.length 1 cs rs 5)) (h0 : RL S cs xs) (hl : xs.length ≤ 9223372036854775807) :
  Calls Tryz.prog 94 #[.pointer (some ⟨b, 0, none⟩)] w fun e w' => e = .returned (str xs) ∧ HS B S w' (rmR L k2) := by
 have hown := H.own k2 _ h2
 refine enter (n := 14) Tryz.func94 rfl rfl rfl ?_
 rcases hown with ⟨rfl, hn, hcs, hrs⟩ | ⟨gb, c, fz, rfl, hnc, hlen, hcap, hblk, hfz⟩
 ·obtain rfl : xs = [] := List.eq_nil_of_length_eq_zero hn
  refine wp_seq_k ?_; intro K1 hK1
  refine wp_region_lit ?_
  refine zaA (zhY (v := str ([] : List UInt8)) rfl) ?_
  refine wpList_nil ?_
  refine zaG ?_; refine hK1 _ _ ?_
  refine wp_seq_k ?_; intro K2 hK2
  apply ziS 10 (kinds []) rfl rfl (by kernel_rfl); intro vs
  simp only [tkS, tkZ, drS, drZ]
  replace H := H.drew
  refine zhT (fun w hx => zaC (v := .pointer (some ⟨b, 0, none⟩)) rfl) rfl rfl ?_
  refine zhT (fun w hx => zcO rfl) rfl rfl ?_
  refine zhT (fun w hx => zaJ bf1 rfl) rfl rfl ?_
  refine zhT (fun w hx => zaR (v := .slice none 0 0) bto2 (H.ext hx) rfl h1 rfl) rfl rfl ?_
  refine zhT (fun w hx => r_usd (r := .pointer none) rfl (Lib.run_unsafeSliceData_nil _ _ _ _ _)) rfl rfl ?_
  refine zhT (fun w hx => zaC (v := .pointer (some ⟨b, 0, none⟩)) rfl) rfl rfl ?_
  refine zhT (fun w hx => zcO rfl) rfl rfl ?_
  refine zhT (fun w hx => zaJ bf1 rfl) rfl rfl ?_
  refine zhT (fun w hx => zaR (v := .slice none 0 0) bto2 (H.ext hx) rfl h1 rfl) rfl rfl ?_
  refine zhT (fun w hx => r_lenO bus rfl (H.ext hx) h2 rfl) rfl rfl ?_
  refine zbP (fun w2 hx hF hA => ?_)
  replace H := H.ext hx; clear hx hF hA
  refine zaA (c := str ([] : List UInt8)) (r_ust rfl rfl (Lib.run_unsafeString_none _ _ _ _ _)) ?_
  replace H := H.rm k2
  refine zaA (zhY (v := str ([] : List UInt8)) rfl) ?_
  refine wpList_nil ?_; refine zaP ?_
  refine zaG ?_; refine hK2 _ _ ?_
  refine wp_ret ?_
  refine e_1 rfl (zbD (v := str ([] : List UInt8)) rfl) ?_
  exact ⟨rfl, H⟩
 ·by_cases hc : c = 0
  ·subst hc
   obtain rfl : xs = [] := List.eq_nil_of_length_eq_zero (by omega)
   refine wp_seq_k ?_; intro K1 hK1
   refine wp_region_lit ?_
   refine zaA (zhY (v := str ([] : List UInt8)) rfl) ?_
   refine wpList_nil ?_
   refine zaG ?_; refine hK1 _ _ ?_
   refine wp_seq_k ?_; intro K2 hK2
   apply ziS 10 (kinds [(4, .inr (fun v _ => ∃ a, v = .pointer (some a)))]) rfl rfl (by kernel_rfl); intro vs
   simp only [tkS, tkZ, drS, drZ]
   replace H := H.drew
   refine zhT (fun w hx => zaC (v := .pointer (some ⟨b, 0, none⟩)) rfl) rfl rfl ?_
   refine zhT (fun w hx => zcO rfl) rfl rfl ?_
   refine zhT (fun w hx => zaJ bf1 rfl) rfl rfl ?_
   refine zhT (fun w hx => zaR (v := sl gb 0 0 0) bto2 (H.ext hx) rfl h1 rfl) rfl rfl ?_
   refine wpT_low (φ := fun v _ => ∃ a, v = .pointer (some a)) rfl rfl (fun _ _ _ h _ => h) rfl (fun h => by cases h) (fun w hx hF R hR => by
    have hsh : w.shape? (⟨gb, 0, none⟩ : Addr).block = some (5, (cs ++ rs).toArray.size) := by
     have hb2 : w.heap[gb]? = some (.cells (cs ++ rs).toArray 5 fz) := by rw [hx.block gb (lt_of_heap hblk)]; exact hblk
     simp [World.shape?, hb2]
    have hrun := Lib.run_unsafeSliceData_zero (P := Tryz.prog) w #[127] 177 5 bup ⟨gb, 0, none⟩ 0 _ hsh
    rw [zdX, r_usd rfl hrun, outcome_value]
    exact hR (.pointer (some ⟨w.heap.size, 0, none⟩)) (w.alloc (.view ⟨gb, 0, none⟩ 5)) (Ext.alloc w _) ⟨_, rfl⟩ (fun h => by cases h)) ?_
   rw [zaH]
   refine zhT (fun w hx => zaC (v := .pointer (some ⟨b, 0, none⟩)) rfl) rfl rfl ?_
   refine zhT (fun w hx => zcO rfl) rfl rfl ?_
   refine zhT (fun w hx => zaJ bf1 rfl) rfl rfl ?_
   refine zhT (fun w hx => zaR (v := sl gb 0 0 0) bto2 (H.ext hx) rfl h1 rfl) rfl rfl ?_
   refine zhT (fun w hx => r_lenO bus rfl (H.ext hx) h2 rfl) rfl rfl ?_
   refine zbP (fun w2 hx hF hA => ?_)
   obtain ⟨ad, had⟩ := zdV hF 4 rfl rfl
   replace H := H.ext hx; clear hx hF hA
   refine zaA (c := str ([] : List UInt8)) (r_ust (by exact had) rfl (Lib.run_unsafeString_none _ _ _ _ _)) ?_
   replace H := H.rm k2
   refine zaA (zhY (v := str ([] : List UInt8)) rfl) ?_
   refine wpList_nil ?_; refine zaP ?_
   refine zaG ?_; refine hK2 _ _ ?_
   refine wp_ret ?_
   refine e_1 rfl (zbD (v := str ([] : List UInt8)) rfl) ?_
   exact ⟨rfl, H⟩
  ·skip
   refine wp_seq_k ?_; intro K1 hK1
   refine wp_region_lit ?_
   refine zaA (zhY (v := str ([] : List UInt8)) rfl) ?_
   refine wpList_nil ?_
   refine zaG ?_; refine hK1 _ _ ?_
   refine wp_seq_k ?_; intro K2 hK2
   apply ziS 10 (kinds []) rfl rfl (by kernel_rfl); intro vs
   simp only [tkS, tkZ, drS, drZ]
   replace H := H.drew
   refine zhT (fun w hx => zaC (v := .pointer (some ⟨b, 0, none⟩)) rfl) rfl rfl ?_
   refine zhT (fun w hx => zcO rfl) rfl rfl ?_
   refine zhT (fun w hx => zaJ bf1 rfl) rfl rfl ?_
   refine zhT (fun w hx => zaR (v := sl gb 0 xs.length c) bto2 (H.ext hx) rfl h1 rfl) rfl rfl ?_
   refine zhT (fun w hx => r_usd (r := .pointer (some ⟨gb, 0, none⟩)) rfl (Lib.run_unsafeSliceData_row _ _ _ _ _ _ hc)) rfl rfl ?_
   refine zhT (fun w hx => zaC (v := .pointer (some ⟨b, 0, none⟩)) rfl) rfl rfl ?_
   refine zhT (fun w hx => zcO rfl) rfl rfl ?_
   refine zhT (fun w hx => zaJ bf1 rfl) rfl rfl ?_
   refine zhT (fun w hx => zaR (v := sl gb 0 xs.length c) bto2 (H.ext hx) rfl h1 rfl) rfl rfl ?_
   refine zhT (fun w hx => r_lenO bus rfl (H.ext hx) h2 rfl) rfl rfl ?_
   refine zbP (fun w2 hx hF hA => ?_)
   have hb2 : w2.heap[gb]? = some (.cells (cs ++ rs).toArray 5 fz) := by rw [hx.block gb (lt_of_heap hblk)]; exact hblk
   replace H := H.ext hx; clear hx hF hA
   refine p_ofc (c := str xs) (φ := fun w' => HS B S w' (rmR L k2)) ?_ ?_
   ·by_cases hx0 : xs = []
    ·subst hx0
     exact ⟨w2, r_ust rfl rfl (Lib.run_unsafeString_none _ _ _ _ _), H.rm k2⟩
    ·have hsh : w2.shape? gb = some (5, (cs ++ rs).toArray.size) := by simp [World.shape?, hb2]
     have hcs := RL.is_u8s h0
     have hxl : xs.length ≤ (cs ++ rs).length := by rw [List.length_append, hlen]; omega
     have hrun := Lib.run_unsafeString_row (P := Tryz.prog) w2 177 3 9 5 bup buc gb _ hsh xs hx0 (by simpa using hxl) hl (fun j x hj => by
      rw [zdW, zhB hb2, Nat.zero_add, List.getElem?_append_left (by have := (List.getElem?_eq_some_iff.1 hj).1; omega), hcs]
      exact u8s_get hj)
     refine ⟨_, r_ust rfl rfl hrun, ?_⟩
     have H2 := H.upd (w' := w2.freeze ⟨gb, 0, none⟩ xs.length) (r' := .osl (.slice none 0 0) 0 1 [] [] 5) h2 (by unfold World.freeze; split <;> simp) (by unfold World.freeze; split <;> rfl) (by unfold World.freeze; split <;> rfl) (by unfold World.freeze; split <;> rfl) (fun i hi hne => by
      have hig : gb ≠ i := fun e => hne (by rw [e]; rfl)
      unfold World.freeze; split
      ·rfl
      ·simp [Array.getElem?_modify, hig]) (.inl ⟨rfl, rfl, rfl, rfl⟩) (fun b hb => by cases hb)
     have H3 := H2.rm k2
     rw [stR_rm] at H3
     exact H3
   clear H; intro w3 H
   refine zaA (zhY (v := str xs) rfl) ?_
   refine wpList_nil ?_; refine zaP ?_
   refine zaG ?_; refine hK2 _ _ ?_
   refine wp_ret ?_
   refine e_1 rfl (zbD (v := str xs) rfl) ?_
   exact ⟨rfl, H⟩
theorem to127 : TOne Tryz.prog 127 := ⟨fun _ => by kernel_rfl, fun _ => by kernel_rfl⟩
theorem tz134 : TZero Tryz.prog 134 (.agg #[.pointer none, .slice none 0 0]) := fun _ => by kernel_rfl
theorem is94 : IsFn Tryz.prog 94 := isFn Tryz.func94
theorem is141 : IsFn Tryz.prog 141 := isFn Tryz.func141
theorem is153 : IsFn Tryz.prog 153 := isFn Tryz.func153
theorem fa134_1 : zgZ Tryz.prog 134 1 1 := fun _ _ _ => by kernel_rfl
theorem tsz127 : TSz Tryz.prog 127 1 := fun _ => by kernel_rfl
def zeK (x0 : List UInt8) (x1 : UInt8) : Option ((List UInt8)) :=
  Option.bind (ziC x0) fun y1 => Option.bind (app y1 ([x1] : List UInt8)) fun y2 => some (y2)
theorem Builder_WriteByte_c {b0_ : Nat} {x0 : List UInt8} {pv1 : Value} {pcs1 prs1 : List Value} {pa1 : Value} (H : HS ⟨S, zeO [.blk b0_ (([pa1] ++ ([pv1]))) 134, .osl (pv1) (x0).length 1 pcs1 prs1 5], w⟩ S w [.blk b0_ (([pa1] ++ ([pv1]))) 134, .osl (pv1) (x0).length 1 pcs1 prs1 5]) (pg1 : RL S pcs1 x0) (pg2 : BA b0_ pa1) {x1 : UInt8} {r : (List UInt8)} (hF : zeK x0 x1 = some r) :
    Calls Tryz.prog 153 #[.pointer (some ⟨b0_, 0, none⟩), .int .u8 (((x1).toNat : Int))] w fun e w' => ∃ (S2 : Mem) (pv4 : Value) (pcs4 prs4 : List Value) (pa4 : Value), e = .returned (.nilIface) ∧ HS ⟨S, zeO [.blk b0_ (([pa1] ++ ([pv1]))) 134, .osl (pv1) (x0).length 1 pcs1 prs1 5], w⟩ S2 w' [.blk b0_ (([pa4] ++ ([pv4]))) 134, .osl (pv4) (r).length 1 pcs4 prs4 5] ∧ RL S2 pcs4 r ∧ BA b0_ pa4 := by
 refine enter (n := 17) Tryz.func153 rfl rfl rfl <| sr fun K1 hK1 => p_as (v := .nilIface) rfl <| xk hK1 <| sr fun K2 hK2 => mvP rfl <| bn hF fun y1 e1 hF => zaF is141 rfl <| (Builder_copyCheck_c (H.hand [0, 1] rfl) pg1 pg2 e1).mono ?_; rintro _ w1 ⟨S1, pv2, pcs2, prs2, pa2, rfl, H2, pg3, pg4⟩
 obtain ⟨H1, hle1⟩ := H.frame [0, 1] [] rfl H2; clear H H2; have H := H1; clear H1
 replace H := hsn H
 refine xk hK2 <| sr fun K3 hK3 => mvP rfl <| mvP rfl <| zaA (zcO rfl) <| zaA (zaJ fa134_1 rfl) <| zaA (zaR (v := pv2) to127 H rfl (k := 0) rfl rfl) <| mvI rfl <| zhD (zbO (N := 1) (xs := ([x1] : List UInt8)) (RL.cons rpU8 RL.nil) zhR H rfl rfl rfl) fun w2 v1 cs1 H g1 => ?_
 refine bn hF fun y2 e2 hF => zjF (zcX (k := 2) (v2 := v1) zhR rfl H rfl rfl pg3 rfl (H.slW (k := 0) rfl) g1 e2) fun w3 v2 cs2 rs1 H g2 => ?_
 replace H := H.sel [1, 2] rfl
 replace H := hsn H
 refine zaA (zcO rfl) <| zaA (zaJ fa134_1 rfl) <| zdB (zbE (k := 0) (l := [v2]) tsz127 H rfl rfl rfl (cells_one (HS.ownOne H (k := 1) rfl)) rfl (fun u hu => by rw [List.mem_singleton] at hu; rw [hu]; exact HS.ownOne H (k := 1) rfl) rfl) fun w4 H => ?_
 refine xk hK3 <| sr fun K4 hK4 => p_as (v := .nilIface) rfl <| xk hK4 <| wp_ret ?_
 obtain rfl := osi hF
 refine e_1 rfl (zbD rfl) ?_
 exact ⟨_, _, _, _, _, rfl, H, g2, pg4⟩
def zdU (s1 : Int × Int × Int × (List UInt8)) (y1 : UInt8) (s2 : Int × (List UInt8)) : Option ((Int × (List UInt8)) ⊕ (Int × (List UInt8))) :=
  bif decide ((6 : Int) ≤ s2.1) then (Option.bind (chk (decide (0 ≤ (w64 (s2.1 - 6))))) fun y2 => Option.bind (idx ([65, 66, 67, 68, 69, 70, 71, 72, 73, 74, 75, 76, 77, 78, 79, 80, 81, 82, 83, 84, 85, 86, 87, 88, 89, 90, 97, 98, 99, 100, 101, 102, 103, 104, 105, 106, 107, 108, 109, 110, 111, 112, 113, 114, 115, 116, 117, 118, 119, 120, 121, 122, 48, 49, 50, 51, 52, 53, 54, 55, 56, 57, 45, 95] : List UInt8) (bits .and .i64 (shrI .i64 (bits .or .i64 (shlI .i64 s1.1 8) ((y1).toNat : Int)) (w64 (s2.1 - 6))) 63)) fun y3 => Option.bind (zeK s2.2 y3) fun y4 => some (.inl (((w64 (s2.1 - 6)), y4)))) else (some (.inr ((s2.1, s2.2))))
def ziR (x0 : List UInt8) (s1 : Int × Int × Int × (List UInt8)) : Option ((Int × Int × Int × (List UInt8)) ⊕ (Int × Int × (List UInt8))) :=
  bif decide (s1.2.2.1 < ((x0).length : Int)) then (Option.bind (Option.bind (idx x0 s1.2.2.1) fun y1 => Option.bind (Option.bind (iter (zdU s1 y1) (((w64 (s1.2.1 + 8)), s1.2.2.2))) (fun e => some (e))) (fun t3 => Option.bind (chk (decide (0 ≤ t3.1))) fun y5 => some (((bits .and .i64 (bits .or .i64 (shlI .i64 s1.1 8) ((y1).toNat : Int)) (w64 ((shlI .i64 1 t3.1) - 1))), t3.1, t3.2)))) (fun t2 => some (.inl ((t2.1, t2.2.1, (w64 (s1.2.2.1 + 1)), t2.2.2))))) else (some (.inr ((s1.1, s1.2.1, s1.2.2.2))))
def zjS (x0 : List UInt8) : Option ((List UInt8)) :=
  Option.bind (Option.bind (iter (ziR x0) ((0, 0, 0, ([] : List UInt8)))) (fun e => some (e))) (fun t1 => Option.bind (bif decide ((0 : Int) < t1.2.1) then (Option.bind (chk (decide (0 ≤ (w64 ((6 : Int) - t1.2.1))))) fun y6 => Option.bind (idx ([65, 66, 67, 68, 69, 70, 71, 72, 73, 74, 75, 76, 77, 78, 79, 80, 81, 82, 83, 84, 85, 86, 87, 88, 89, 90, 97, 98, 99, 100, 101, 102, 103, 104, 105, 106, 107, 108, 109, 110, 111, 112, 113, 114, 115, 116, 117, 118, 119, 120, 121, 122, 48, 49, 50, 51, 52, 53, 54, 55, 56, 57, 45, 95] : List UInt8) (bits .and .i64 (shlI .i64 t1.1 (w64 ((6 : Int) - t1.2.1))) 63)) fun y7 => Option.bind (zeK t1.2.2 y7) fun y8 => some (y8)) else (some (t1.2.2))) (fun t4 => Option.bind (chk (decide ((t4).length ≤ 68719476736))) fun y9 => some (t4)))
theorem codec_Base64_c (hS : Sub S w) {x0 : List UInt8} {r : (List UInt8)} (hF : zjS x0 = some r) :
    Calls Tryz.prog 129 #[str (x0)] w fun e w' => e = .returned (str (r)) ∧ Ext w w' := by
 refine enter (n := 49) Tryz.func129 rfl rfl rfl ?_
 have H := HS.start hS
 refine sr fun K1 hK1 => asT rfl <| xk hK1 <| sr fun K2 hK2 => zdI (zcP (l := ([Value.pointer none] ++ ([Value.slice none 0 0]))) H tz134 rfl) fun w1 b1 H => xk hK2 <| sr fun K3 hK3 => asI rfl <| asI rfl ?_
 refine xk hK3 <| wp_seq_k fun K4 hK4 => zaY fun m1 k1 => bn hF fun t1 hE1 hF1 => ?_
 have J4 : ∀ (a5 : Value) (v6 : Value) (cs6 rs6 : List Value) (S6 : Mem) (m10 : FM) (w8 : World), Kp (4 :: 5 :: rg 7 32 []) m10 m1 → look m10 4 = .int .i64 (t1.1) → look m10 5 = .int .i64 (t1.2.1) → Mem.le S S6 → HS ⟨S, [], w⟩ S6 w8 [.osl (v6) (t1.2.2).length 1 cs6 rs6 5, .blk b1 (([a5] ++ ([v6]))) 134] → BA b1 a5 → RL S6 cs6 t1.2.2 → K4 (fr 49 m10) w8 := by
  clear H; intro a5 v6 cs6 rs6 S6 m10 w8 k12 q25 q26 hle6 H g11 g12
  have q27 : look m10 3 = .pointer (some ⟨b1, 0, none⟩) := (k12 3 rfl).trans (k1 3)
  refine hK4 _ _ <| wp_seq_k fun K15 hK15 => zaY fun m11 k13 => bn hF1 fun t4 hE6 hF4 => ?_
  have J3 : ∀ (v7 : Value) (cs7 rs7 : List Value) (a6 : Value) (S8 : Mem) (m12 : FM) (w10 : World), Kp (rg 39 9 []) m12 m11 → Mem.le S6 S8 → HS ⟨S, [], w⟩ S8 w10 [.osl (v7) (t4).length 1 cs7 rs7 5, .blk b1 (([a6] ++ ([v7]))) 134] → RL S8 cs7 t4 → BA b1 a6 → K15 (fr 49 m12) w10 := by
   clear H; intro v7 cs7 rs7 a6 S8 m12 w10 k14 hle8 H g13 g14
   have q28 := (k14 3 rfl).trans ((k13 3).trans q27)
   refine hK15 _ _ <| sr fun K17 hK17 => bn hF4 fun y9 e9 hF4 => zaF is94 (zjY q28 args_nil) <| (Builder_String_c (k1 := 1) (k2 := 0) H rfl rfl g13 (Nat.le_trans (of_decide_eq_true (zdT e9)) (by decide))).mono ?_; clear H; rintro _ w11 ⟨rfl, H⟩
   replace H := hsn H
   refine asT rfl <| xk hK17 <| wp_ret ?_
   obtain rfl := osi hF4
   refine e_1 rfl (zbD rfl) ?_
   exact ⟨rfl, H.toExt⟩
  refine sr fun K16 hK16 => p_mv ((k13 5).trans q26) <| zaA (r_gtrI rfl rfl) <| xk hK16 ?_
  refine zbR hE6 rfl (fun hE6 hc3 => ?_) fun hE6 hc3 => ?_
  ·refine wp_region_lit ?_
   refine p_mv ((k13 4).trans q25) <| p_mv ((k13 5).trans q26) <| zaA (zdQ rfl rfl) <| bn hE6 fun y6 e6 hE6 => zaA (r_shl (r := shlI .i64 t1.1 (w64 ((6 : Int) - t1.2.1))) rfl rfl (Int.not_lt.2 (of_decide_eq_true (zdT e6))) rfl) <| zaA (zbJ (bo := .and) (by simp) (r := (bits .and .i64 (shlI .i64 t1.1 (w64 ((6 : Int) - t1.2.1))) 63)) rfl rfl rfl) <| bn hE6 fun y7 e7 hE6 => ?_
   refine zaA (r_idxT (i := ((bits .and .i64 (shlI .i64 t1.1 (w64 ((6 : Int) - t1.2.1))) 63) : Int).toNat) (u := y7) u9 rfl rfl (zaD e7).1 (zaD e7).2) <| bn hE6 fun y8 e8 hE6 => zaF is153 (zjY ((k13 3).trans q27) (zjY rfl args_nil)) <| (Builder_WriteByte_c (H.hand [1, 0] rfl) g12 g11 e8).mono ?_; rintro _ w9 ⟨S7, pv2, pcs2, prs2, pa2, rfl, H2, pg3, pg4⟩
   obtain ⟨H1, hle7⟩ := H.frame [1, 0] [] rfl H2; clear H H2; have H := H1; clear H1
   replace H := hsn H
   refine wpList_nil <| zaG ?_
   replace H := H.sel [1, 0] rfl
   replace H := hsn H
   obtain rfl := osi hE6
   exact J3 _ _ _ _ _ _ _ kcx hle7 H pg3 pg4
  ·refine wp_skip ?_
   refine zaG ?_
   obtain rfl := osi hE6
   exact J3 _ _ _ _ _ _ _ kcx (Mem.le_refl _) H g12 g11
 refine sr fun K5 hK5 => p_mv (k1 0) <| p_of1 (a_bytes (l := x0) u9 u127 u5 H rfl) ?_; clear H; rintro w2 v1 ⟨rs1, H⟩
 have g1 : RL S (u8s x0) x0 := RL.of_u8s _
 refine zaA (r_lenO u127 rfl H (k := 0) rfl rfl) <| mvI rfl <| xk hK5 <| wp_block <| zaY fun m2 k2 => bn hE1 fun out1 hL1 hE2 => ?_
 replace H := H.nilOwn 1 5; have g4 : RL S [] ([] : List UInt8) := RL.nil
 replace H := hsn H
 refine zdL (4 :: 5 :: 7 :: rg 11 28 []) (fun (s1 : Int × Int × Int × (List UInt8)) (m3 : FM) (w3 : World) => ∃ (S1 : Mem) (a1 : Value) (v2 : Value) (cs1 rs2 : List Value), look m3 4 = .int .i64 (s1.1) ∧ look m3 5 = .int .i64 (s1.2.1) ∧ look m3 11 = .int .i64 (s1.2.2.1) ∧ Mem.le S S1 ∧ HS ⟨S, [], w⟩ S1 w3 [.osl (v2) (s1.2.2.2).length 1 cs1 rs2 5, .osl (v1) (x0).length 1 (u8s x0) rs1 5, .blk b1 (([a1] ++ ([v2]))) 134] ∧ BA b1 a1 ∧ RL S1 cs1 s1.2.2.2) hL1 ⟨_, _, _, _, _, ((k2 4).trans (k1 4)), ((k2 5).trans (k1 5)), (k2 11), (Mem.le_refl _), H, (Or.inl rfl), g4⟩ ?_
 clear H; intro k4 s1 m3 w3 k3 hI1 o2 hb1 hh1; obtain ⟨S1, a1, v2, cs1, rs2, q1, q2, q3, hle1, H, g2, g3⟩ := hI1
 replace g1 := g1.mono hle1
 have q4 : look m3 3 = .pointer (some ⟨b1, 0, none⟩) := (k3 3 rfl).trans ((k2 3).trans (k1 3))
 have q5 : look m3 9 = v1 := (k3 9 rfl).trans (k2 9)
 have q6 : look m3 10 = .int .i64 (((x0).length : Int)) := (k3 10 rfl).trans (k2 10)
 refine sr fun K6 hK6 => zaA (zcR q3 q6) <| xk hK6 <| wp_seq_k fun K7 hK7 => ?_
 refine zbR hb1 rfl (fun hb1 hc1 => ?_) fun hb1 hc1 => ?_
 ·refine wp_skip ?_
  refine xn hK7 <| wp_seq_k fun K8 hK8 => zaY fun m4 k5 => bn hb1 fun t2 hE3 hF2 => ?_
  have J2 : ∀ (v5 : Value) (cs5 rs5 : List Value) (a4 : Value) (S5 : Mem) (m9 : FM) (w7 : World), Kp (4 :: 5 :: 7 :: rg 13 25 []) m9 m4 → look m9 4 = .int .i64 (t2.1) → look m9 5 = .int .i64 (t2.2.1) → Mem.le S1 S5 → HS ⟨S, [], w⟩ S5 w7 [.osl (v5) (t2.2.2).length 1 cs5 rs5 5, .osl (v1) (x0).length 1 (u8s x0) rs1 5, .blk b1 (([a4] ++ ([v5]))) 134] → RL S5 cs5 t2.2.2 → BA b1 a4 → K8 (fr 49 m9) w7 := by
   clear H; intro v5 cs5 rs5 a4 S5 m9 w7 k11 q19 q20 hle5 H g9 g10
   replace g1 := g1.mono hle5
   have q21 := (k11 3 rfl).trans ((k5 3).trans q4)
   have q22 := (k11 9 rfl).trans ((k5 9).trans q5)
   have q23 := (k11 10 rfl).trans ((k5 10).trans q6)
   have q24 := (k11 11 rfl).trans ((k5 11).trans q3)
   refine hK8 _ _ <| wp_region_lit <| zaA (zcH q24 rfl) <| mvI rfl <| wpList_nil <| zaG ?_
   obtain rfl := osi hF2
   exact ⟨(t2.1, t2.2.1, (w64 (s1.2.2.1 + 1)), t2.2.2), _, rfl, (kS k11 rfl (kN k5 (kS k3 rfl kcx))), ⟨_, _, _, _, _, q19, q20, rfl, (Mem.le_trans hle1 hle5), H, g10, g9⟩, hh1⟩
  refine wp_block <| sr fun K9 hK9 => bn hE3 fun y1 e1 hE3 => ?_
  obtain ⟨b2, c1, hv1⟩ := H.ownAt (k := 1) rfl (zbA e1)
  refine zaA (zaU (i := (s1.2.2.1 : Int).toNat) u127 tsz5 ((k5 9).trans q5) hv1 ((k5 11).trans q3) (zaD e1).1 (zbA e1)) ?_
  subst hv1
  have hr1 := RL.get g1 (zaD e1).2; generalize hghr1 : piece (u8s x0) _ _ = cs2 at hr1
  obtain rfl := elU8 hr1
  refine zaA (zeJ (v := .int .u8 (((y1).toNat : Int))) to5 H (k := 1) rfl rfl (zbA e1) hghr1) <| asI rfl <| xk hK9 <| sr fun K10 hK10 => p_mv ((k5 4).trans q1) <| zaA (r_shl (r := shlI .i64 s1.1 8) rfl rfl (by decide) rfl) <| mvI rfl <| zaA (zcE u5 u3 rfl (w64_u8 _)) <| zaA (zbJ (bo := .or) (by simp) (r := (bits .or .i64 (shlI .i64 s1.1 8) ((y1).toNat : Int))) rfl rfl rfl) ?_
  refine p_mv ((k5 5).trans q2) <| zaA (zcH rfl rfl) <| asI rfl <| asI rfl <| xk hK10 <| wp_seq_k fun K11 hK11 => zaY fun m5 k6 => bn hE3 fun t3 hE4 hF3 => ?_
  have J1 : ∀ (v4 : Value) (cs4 rs4 : List Value) (a3 : Value) (S4 : Mem) (m8 : FM) (w6 : World), Kp (5 :: rg 22 11 []) m8 m5 → look m8 5 = .int .i64 (t3.1) → Mem.le S1 S4 → HS ⟨S, [], w⟩ S4 w6 [.osl (v4) (t3.2).length 1 cs4 rs4 5, .osl (sl b2 0 (x0).length c1) (x0).length 1 (u8s x0) rs1 5, .blk b1 (([a3] ++ ([v4]))) 134] → RL S4 cs4 t3.2 → BA b1 a3 → K11 (fr 49 m8) w6 := by
   clear H; intro v4 cs4 rs4 a3 S4 m8 w6 k10 q13 hle4 H g7 g8
   replace g1 := g1.mono hle4
   have q14 := (k10 3 rfl).trans ((k6 3).trans ((k5 3).trans q4))
   have q15 := (k10 9 rfl).trans ((k6 9).trans ((k5 9).trans q5))
   have q16 := (k10 10 rfl).trans ((k6 10).trans ((k5 10).trans q6))
   have q17 : look m8 4 = .int .i64 ((bits .or .i64 (shlI .i64 s1.1 8) ((y1).toNat : Int))) := (k10 4 rfl).trans (k6 4)
   have q18 := (k10 11 rfl).trans ((k6 11).trans ((k5 11).trans q3))
   refine hK11 _ _ <| wp_region_lit <| p_mv q17 <| p_mv q13 <| bn hF3 fun y5 e5 hF3 => zaA (r_shl (r := shlI .i64 1 t3.1) rfl rfl (Int.not_lt.2 (of_decide_eq_true (zdT e5))) rfl) <| zaA (zdQ rfl rfl) <| zaA (zbJ (bo := .and) (by simp) (r := (bits .and .i64 (bits .or .i64 (shlI .i64 s1.1 8) ((y1).toNat : Int)) (w64 ((shlI .i64 1 t3.1) - 1)))) rfl rfl rfl) <| asI rfl ?_
   refine wpList_nil <| zaS <| zaG ?_
   obtain rfl := osi hF3
   exact J2 _ _ _ _ _ _ _ (kS k10 rfl (kN k6 kcx)) rfl q13 hle4 H g7 g8
  refine wp_block <| zaY fun m6 k7 => bn hE4 fun out2 hL2 hE5 => ?_
  refine zdL (5 :: rg 22 11 []) (fun (s2 : Int × (List UInt8)) (m7 : FM) (w4 : World) => ∃ (S2 : Mem) (v3 : Value) (cs3 rs3 : List Value) (a2 : Value), look m7 5 = .int .i64 (s2.1) ∧ Mem.le S1 S2 ∧ HS ⟨S, [], w⟩ S2 w4 [.osl (v3) (s2.2).length 1 cs3 rs3 5, .osl (sl b2 0 (x0).length c1) (x0).length 1 (u8s x0) rs1 5, .blk b1 (([a2] ++ ([v3]))) 134] ∧ RL S2 cs3 s2.2 ∧ BA b1 a2) hL2 ⟨_, _, _, _, _, ((k7 5).trans (k6 5)), (Mem.le_refl _), H, g3, g2⟩ ?_
  clear H; intro k9 s2 m7 w4 k8 hI2 o5 hb2 hh2; obtain ⟨S2, v3, cs3, rs3, a2, q7, hle2, H, g5, g6⟩ := hI2
  replace g1 := g1.mono hle2
  have q8 := (k8 3 rfl).trans ((k7 3).trans ((k6 3).trans ((k5 3).trans q4)))
  have q9 := (k8 9 rfl).trans ((k7 9).trans ((k6 9).trans ((k5 9).trans q5)))
  have q10 := (k8 10 rfl).trans ((k7 10).trans ((k6 10).trans ((k5 10).trans q6)))
  have q11 : look m7 4 = .int .i64 ((bits .or .i64 (shlI .i64 s1.1 8) ((y1).toNat : Int))) := (k8 4 rfl).trans ((k7 4).trans (k6 4))
  have q12 := (k8 11 rfl).trans ((k7 11).trans ((k6 11).trans ((k5 11).trans q3)))
  refine wp_seq_k fun K12 hK12 => sr fun K13 hK13 => p_mv q7 <| zaA (r_geqI rfl rfl) <| xk hK13 ?_
  refine zbR hb2 rfl (fun hb2 hc2 => ?_) fun hb2 hc2 => ?_
  ·refine wp_skip ?_
   refine xn hK12 <| wp_seq_k fun K14 hK14 => wp_block <| wp_region_lit <| p_mv q11 <| p_mv q7 <| zaA (zdQ rfl rfl) <| bn hb2 fun y2 e2 hb2 => zaA (zeM (r := shrI .i64 (bits .or .i64 (shlI .i64 s1.1 8) ((y1).toNat : Int)) (w64 (s2.1 - 6))) rfl rfl (Int.not_lt.2 (of_decide_eq_true (zdT e2))) rfl) ?_
   refine zaA (zbJ (bo := .and) (by simp) (r := (bits .and .i64 (shrI .i64 (bits .or .i64 (shlI .i64 s1.1 8) ((y1).toNat : Int)) (w64 (s2.1 - 6))) 63)) rfl rfl rfl) <| bn hb2 fun y3 e3 hb2 => zaA (r_idxT (i := ((bits .and .i64 (shrI .i64 (bits .or .i64 (shlI .i64 s1.1 8) ((y1).toNat : Int)) (w64 (s2.1 - 6))) 63) : Int).toNat) (u := y3) u9 rfl rfl (zaD e3).1 (zaD e3).2) ?_
   refine bn hb2 fun y4 e4 hb2 => zaF is153 (zjY q8 (zjY rfl args_nil)) <| (Builder_WriteByte_c (H.hand [2, 0] rfl) g5 g6 e4).mono ?_; rintro _ w5 ⟨S3, pv1, pcs1, prs1, pa1, rfl, H2, pg1, pg2⟩
   obtain ⟨H1, hle3⟩ := H.frame [2, 0] [1] rfl H2; clear H H2; have H := H1; clear H1
   replace g1 := g1.mono hle3
   refine wpList_nil <| zaS <| xn hK14 <| wp_region_lit <| p_mv q7 <| zaA (zdQ rfl rfl) <| asI rfl <| wpList_nil <| zaG ?_
   replace H := H.sel [1, 2, 0] rfl
   replace H := hsn H
   obtain rfl := osi hb2
   exact ⟨((w64 (s2.1 - 6)), y4), _, rfl, (kS k8 rfl kcx), ⟨_, _, _, _, _, rfl, (Mem.le_trans hle2 hle3), H, pg1, pg2⟩, hh2⟩
  ·refine wp_exit ?_
   refine zaN <| zaN <| zcK <| zaG ?_
   obtain rfl := osi hb2
   obtain rfl := osi hh2
   obtain rfl := osi hE5
   exact J1 _ _ _ _ _ _ _ (kS k8 rfl (kN k7 kcx)) q7 hle2 H g5 g6
 ·refine wp_exit ?_
  refine zaN <| zaN <| zcK <| zaG ?_
  replace H := H.sel [0, 2] rfl
  replace H := hsn H
  obtain rfl := osi hb1
  obtain rfl := osi hh1
  obtain rfl := osi hE2
  exact J4 _ _ _ _ _ _ _ (kS k3 rfl (kN k2 kcx)) q1 q2 hle1 H g2 g3
theorem to99 : TOne Tryz.prog 99 := ⟨fun _ => by kernel_rfl, fun _ => by kernel_rfl⟩
theorem to101 : TOne Tryz.prog 101 := ⟨fun _ => by kernel_rfl, fun _ => by kernel_rfl⟩
theorem tz103 : TZero Tryz.prog 103 (.agg #[.slice none 0 0]) := fun _ => by kernel_rfl
theorem tz117 : TZero Tryz.prog 117 (.agg #[str [], str [], str [], .int .u64 0, .int .u64 0, .int .u64 0, .int .u64 0, .int .u32 0, .int .i32 0, .int .u32 0, .int .u64 0, .int .u64 0, .int .u64 0, .int .u64 0, .int .u64 0, .int .u64 0, .int .u64 0, .int .u64 0, .bool false]) := fun _ => by kernel_rfl
theorem u99 : Tryz.prog.underlying 99 = some (.pointer 117) := by kernel_rfl
theorem u101 : Tryz.prog.underlying 101 = some (.slice 99) := by kernel_rfl
theorem eg99 : Tryz.prog.eqGuardType Tryz.prog.depth 99 = false := by kernel_rfl
theorem is72 : IsFn Tryz.prog 72 := isFn Tryz.func72
theorem is73 : IsFn Tryz.prog 73 := isFn Tryz.func73
theorem is76 : IsFn Tryz.prog 76 := isFn Tryz.func76
theorem is79 : IsFn Tryz.prog 79 := isFn Tryz.func79
theorem is129 : IsFn Tryz.prog 129 := isFn Tryz.func129
theorem tb103 : TBuild Tryz.prog 103 (.agg #[.slice none 0 0]) [(0, 1)] := tbuildS (fs := fieldsOf Tryz.prog 103) (by kernel_rfl) tz103 (fun _ => by kernel_rfl)
theorem tb117 : TBuild Tryz.prog 117 (.agg #[str [], str [], str [], .int .u64 0, .int .u64 0, .int .u64 0, .int .u64 0, .int .u32 0, .int .i32 0, .int .u32 0, .int .u64 0, .int .u64 0, .int .u64 0, .int .u64 0, .int .u64 0, .int .u64 0, .int .u64 0, .int .u64 0, .bool false]) [(0, 1), (1, 1), (2, 1), (3, 4), (7, 3), (10, 9)] := tbuildS (fs := fieldsOf Tryz.prog 117) (by kernel_rfl) tz117 (fun _ => by kernel_rfl)
theorem fa103_0 : zgZ Tryz.prog 103 0 0 := fun _ _ _ => by kernel_rfl
theorem fa117_1 : zgZ Tryz.prog 117 1 1 := fun _ _ _ => by kernel_rfl
theorem fa117_2 : zgZ Tryz.prog 117 2 2 := fun _ _ _ => by kernel_rfl
theorem tn40 : TSn Tryz.prog 40 9 (str []) [str []] 16 1 := TSn.mk' (by kernel_rfl) (by kernel_rfl) rfl rfl rfl rfl
theorem tn101 : TSn Tryz.prog 101 99 (.pointer none) [.pointer none] 8 1 := TSn.mk' (by kernel_rfl) (by kernel_rfl) rfl rfl rfl rfl
def cl117 (x : (List UInt8) × (List UInt8) × (List UInt8) × Qw × Onc × Qp) : List Value := [str (x.1)] ++ ([str (x.2.1)] ++ ([str (x.2.2.1)] ++ (cl24 x.2.2.2.1 ++ ((x.2.2.2.2.1).l ++ (cl26 x.2.2.2.2.2)))))
theorem rp117c {S : Mem} (x : (List UInt8) × (List UInt8) × (List UInt8) × Qw × Onc × Qp) : Rp.rep S (cl117 x) x := rpP (rpT) (rpP (rpT) (rpP (rpT) (rpP (rp24c _) (rpP (rpOnc _) (rp26c _)))))
theorem el117c {S : Mem} {c : List Value} {x : (List UInt8) × (List UInt8) × (List UInt8) × Qw × Onc × Qp} (h : Rp.rep S c x) : c = cl117 x := by
  obtain ⟨c0, d0, rfl, h0, k1⟩ := elP h; obtain rfl := elT h0
  obtain ⟨c1, d1, rfl, h1, k2⟩ := elP k1; obtain rfl := elT h1
  obtain ⟨c2, d2, rfl, h2, k3⟩ := elP k2; obtain rfl := elT h2
  obtain ⟨c3, d3, rfl, h3, k4⟩ := elP k3; obtain rfl := el24c h3
  obtain ⟨c4, d4, rfl, h4, k5⟩ := elP k4; obtain rfl := elOnc h4
  obtain rfl := el26c k5; rfl
theorem tsz99 : TSz Tryz.prog 99 1 := fun _ => by kernel_rfl
theorem tsz101 : TSz Tryz.prog 101 1 := fun _ => by kernel_rfl
noncomputable def sign_made_p (x0 : List UInt8) : Option ((Option ((List UInt8) × (List UInt8) × (List UInt8) × Qw × Onc × Qp))) :=
  Option.bind (zeF ([107, 101, 121] : List UInt8) x0) fun y1 => Option.bind (zeZ 1 y1) fun y2 => Option.bind (Option.bind (zcY) fun y3 => bif ((y2 : Qw) == (y3 : Qw)) then (some (((1, 0, 0, 0) : Qw))) else (some ((y2.1, y2.2.1, y2.2.2.1, y2.2.2.2)))) (fun t1 => Option.bind (zeF ([107, 105, 100] : List UInt8) x0) fun y4 => Option.bind (subH y4 9) fun y5 => Option.bind (zjS y5) fun y6 => Option.bind (zeF ([109, 97, 99] : List UInt8) x0) fun y7 => some ((some (x0, y6, y7, t1, onc0, (((0, 0, 0, 0) : Qw), ((0, 0, 0, 0) : Qw), false)))))
theorem sign_made_c (hS : Sub S w) {x0 : List UInt8} {r : (Option ((List UInt8) × (List UInt8) × (List UInt8) × Qw × Onc × Qp))} (hF : sign_made_p x0 = some r) :
    Calls Tryz.prog 72 #[str (x0)] w fun e w' => Ext w w' ∧ ∃ (v0' : Value), e = .returned (v0') ∧ Rp.rep (gr S w w') [v0'] r := by
 refine enter (n := 21) Tryz.func72 rfl rfl rfl ?_
 have H := HS.start hS
 refine sr fun K1 hK1 => asP rfl <| xk hK1 <| sr fun K2 hK2 => mvT rfl <| bn hF fun y1 e1 hF => zaF is46 rfl <| (ziL H.sub e1).mono <| H.xe fun w1 H => bn hF fun y2 e2 hF => ?_
 refine zaF is86 rfl <| (field_Reduce_c H.sub e2).mono <| H.xe fun w2 H => zdI (zcP (l := (cl24 ((0, 0, 0, 0) : Qw))) H tz24 rfl) fun w3 b1 H => zdB (zbE (k := 0) (l := (cl24 y2)) tsz24 H rfl rfl rfl (zaV _) rfl (onz rfl) rfl) fun w4 H => xk hK2 <| wp_seq_k fun K3 hK3 => zaY fun m1 k1 => bn hF fun t1 hE1 hF1 => ?_
 have J1 : ∀ (m2 : FM) (w7 : World), Kp [7, 8, 9, 10] m2 m1 → HS ⟨S, [], w⟩ S w7 [.blk b1 ((cl24 t1)) 24] → K3 (fr 21 m2) w7 := by
  clear H; intro m2 w7 k2 H
  have q1 : look m2 0 = str (x0) := (k2 0 rfl).trans (k1 0)
  have q2 : look m2 3 = .pointer (some ⟨b1, 0, none⟩) := (k2 3 rfl).trans (k1 3)
  refine hK3 _ _ <| wp_seq_k fun K5 hK5 => bn hF1 fun y4 e4 hF1 => bn hF1 fun y5 e5 hF1 => bn hF1 fun y6 e6 hF1 => bn hF1 fun y7 e7 hF1 => wrS H 9 [(2, .inl (str (y4))), (4, .inl (str (y6))), (6, .inl (str (y7)))] fun vs2 H => ?_
  refine tp (zaC q1) <| tp (zaC q1) <| tcx is46 (fun w hx => ziL (H.ext hx).sub e4) <| tp (r_sliceTH (h := (9 : Int).toNat) (r := y5) u9 rfl rfl (zeI e5).1 (zeI e5).2.1 (zeI e5).2.2) <| tcx is129 (fun w hx => codec_Base64_c (H.ext hx).sub e6) <| tp (zaC q1) <| tcx is46 (fun w hx => ziL (H.ext hx).sub e7) ?_
  refine t_v (fun w hx => zbL (l := (cl24 t1)) tg24 (H.ext hx) q2 (k := 0) rfl rfl rfl) <| tp (zbC (vals := [(0, str (x0)), (1, str (y6)), (2, str (y7)), (3, .agg ((cl24 t1)).toArray)]) (l := (cl117 (x0, y6, y7, t1, onc0, (((0, 0, 0, 0) : Qw), ((0, 0, 0, 0) : Qw), false)))) tb117 rfl rfl) <| zbP <| H.tn fun w8 H => ?_
  refine zdI (zkN (l := (cl117 (x0, y6, y7, t1, onc0, (((0, 0, 0, 0) : Qw), ((0, 0, 0, 0) : Qw), false)))) H rfl) fun w9 b2 H => asP rfl <| wpList_nil <| zaP <| xn hK5 <| wp_ret ?_
  obtain ⟨S1, hle1, ha1, H1⟩ := H.fixB (k := 0) rfl; clear H; have H := H1; clear H1
  have g1 : Rp.rep S1 [.pointer (some ⟨b2, 0, none⟩)] (some (x0, y6, y7, t1, onc0, (((0, 0, 0, 0) : Qw), ((0, 0, 0, 0) : Qw), false)) : Option ((List UInt8) × (List UInt8) × (List UInt8) × Qw × Onc × Qp)) := rpK (CellAt.whole ha1) (Rp.mono (rp117c _) hle1); clear ha1
  obtain rfl := osi hF1
  refine e_1 rfl (zbD rfl) ?_
  exact ⟨H.toExt, _, rfl, Rp.mono g1 H.gr⟩
 refine wp_seq_k fun K4 hK4 => bn hE1 fun y3 e3 hE1 => wrS H 3 [(1, .inl (.agg ((cl24 y3)).toArray))] fun vs1 H => ?_
 refine t_v (fun w hx => zbL (l := (cl24 y2)) tg24 (H.ext hx) (k1 3) (k := 0) rfl rfl rfl) <| tcx is48 (fun w hx => zfA (H.ext hx).sub e3) <| tp (r_eqR eg24 (by decide) (eqt24 y2 y3) rfl rfl) <| zbP <| H.tn fun w5 H => wpList_nil <| zaP <| xn hK4 ?_
 refine zbR hE1 rfl (fun hE1 hc1 => ?_) fun hE1 hc1 => ?_
 ·refine wp_region_lit ?_
  refine zaA (zbC (vals := [(0, .int .u64 (1))]) (l := (cl24 ((1, 0, 0, 0) : Qw))) tb24 rfl rfl) <| zdB (zbE (k := 0) (l := (cl24 ((1, 0, 0, 0) : Qw))) tsz24 H (k1 3) rfl rfl (zaV _) rfl (onz rfl) rfl) fun w6 H => wpList_nil <| zaG ?_
  obtain rfl := osi hE1
  exact J1 _ _ kcx H
 ·refine wp_skip ?_
  refine zaG ?_
  obtain rfl := osi hE1
  exact J1 _ _ kcx H
noncomputable def zjW (x0 : List UInt8) : Option (((List (Option ((List UInt8) × (List UInt8) × (List UInt8) × Qw × Onc × Qp))))) :=
  Option.bind (sign_made_p x0) fun y1 => some (([y1] : List (Option ((List UInt8) × (List UInt8) × (List UInt8) × Qw × Onc × Qp))))
theorem sign_NewRing_c (H : HS ⟨S, zeO [], w⟩ S w []) {x0 : List UInt8} {r : ((List (Option ((List UInt8) × (List UInt8) × (List UInt8) × Qw × Onc × Qp))))} (hF : zjW x0 = some r) :
    Calls Tryz.prog 16 #[str (x0)] w fun e w' => ∃ (S2 : Mem) (pb2 : Nat) (pv2 : Value) (pcs2 prs2 : List Value), e = .returned (.pointer (some ⟨pb2, 0, none⟩)) ∧ HS ⟨S, zeO [], w⟩ S2 w' [.blk pb2 (([pv2])) 103, .osl (pv2) (r).length 1 pcs2 prs2 99] ∧ RL S2 pcs2 r := by
 refine enter (n := 8) Tryz.func16 rfl rfl rfl <| sr fun K1 hK1 => asP rfl <| xk hK1 <| sr fun K2 hK2 => mvT rfl <| bn hF fun y1 e1 hF => zaF is72 rfl <| (sign_made_c H.sub e1).mono <| H.yv fun w1 v1 S1 hle1 H g1 => ?_
 have g2 : RL S1 ([v1] ++ ([] : List Value)) ([y1] : List (Option ((List UInt8) × (List UInt8) × (List UInt8) × Qw × Onc × Qp))) := (RL.cons g1 RL.nil)
 refine p_of1 (zeN (N := 1) (vals := [(0, v1)]) (l := ([v1] ++ ([] : List Value))) tn101 H rfl (by simp only [fillL, lkp, List.replicate, List.flatten_cons, List.flatten_nil, cellsK g1]; rfl) rfl g2.len) fun w2 v2 H => ?_
 generalize ([v1] ++ ([] : List Value)) = cs1 at H g2
 replace H := hsn H
 refine zaA (zbC (vals := [(0, v2)]) (l := ([v2])) tb103 rfl (by simp only [fillL, lkp, HS.ownCells H (k := 0) rfl]; rfl)) ?_
 refine zdI (zkN (l := ([v2])) H rfl) fun w3 b1 H => asP rfl <| xk hK2 <| wp_ret ?_
 obtain rfl := osi hF
 refine e_1 rfl (zbD rfl) ?_
 exact ⟨_, _, _, _, _, rfl, H, g2⟩
def zhJ (x1 : List UInt8) (y1 : (List (Option ((List UInt8) × (List UInt8) × (List UInt8) × Qw × Onc × Qp)))) (s1 : Int) : Option ((Int) ⊕ (((Option ((List UInt8) × (List UInt8) × (List UInt8) × Qw × Onc × Qp))) ⊕ (Unit))) :=
  bif decide (s1 < ((y1).length : Int)) then (Option.bind (idx y1 s1) fun y2 => Option.bind (y2) fun y3 => bif (y3.2.1 == x1) then (some (.inr (.inl (y2)))) else (some (.inl ((w64 (s1 + 1)))))) else (some (.inr (.inr (()))))
def zgI (x0 : Option ((List (Option ((List UInt8) × (List UInt8) × (List UInt8) × Qw × Onc × Qp))))) (x1 : List UInt8) : Option ((Option ((List UInt8) × (List UInt8) × (List UInt8) × Qw × Onc × Qp))) :=
  jn (Option.bind (x0) fun y1 => Option.bind (iter (zhJ x1 y1) (0)) (fun e => jnO e (fun e1 => some (.inr (e1))) (fun e2 => some (.inl (e2))))) (fun t1 => some (none)) (fun e => some (e))
theorem sign_Ring_find_c (hS : Sub S w) {v0_ : Value} {x0 : Option ((List (Option ((List UInt8) × (List UInt8) × (List UInt8) × Qw × Onc × Qp))))} (h0_ : Rp.rep S [v0_] x0) {x1 : List UInt8} {r : (Option ((List UInt8) × (List UInt8) × (List UInt8) × Qw × Onc × Qp))} (hF : zgI x0 x1 = some r) :
    Calls Tryz.prog 73 #[v0_, str (x1)] w fun e w' => Ext w w' ∧ ∃ (v0' : Value), e = .returned (v0') ∧ Rp.rep (gr S w w') [v0'] r := by
 refine enter (n := 24) Tryz.func73 rfl rfl rfl ?_
 have H := HS.start hS
 refine sr fun K1 hK1 => asP rfl <| xk hK1 <| wp_seq_k fun K2 hK2 => zaY fun m1 k1 => ?_
 obtain ⟨o1, hE1, hF1⟩ := jn_some hF
 have J1 : ∀ (t1 : Unit) (m4 : FM) (w2 : World), o1 = .inl t1 → Kp (4 :: rg 6 18 []) m4 m1 → HS ⟨S, [], w⟩ S w2 [] → K2 (fr 24 m4) w2 := by
  clear H; intro t1 m4 w2 ho k5 H
  replace hF1 := jnO_l hF1 ho
  refine hK2 _ _ <| sr fun K10 hK10 => asP rfl <| xk hK10 <| wp_ret ?_
  obtain rfl := osi hF1
  refine e_1 rfl (zbD rfl) ?_
  exact ⟨H.toExt, _, rfl, Rp.mono rpK0 H.gr⟩
 refine sr fun K3 hK3 => p_mv (v := v0_) (k1 0) <| bn hE1 fun y1 e1 hE1 => ?_
 obtain ⟨b1, cs1, hv1, hc1, hr1⟩ := opK h0_ e1; subst hv1
 refine zaA (zcO rfl) ?_
 obtain ⟨v1, rfl, g1⟩ := elL hr1
 refine zaA (zaJ fa103_0 rfl) <| zaA (zbM (p := 0) (o := 0) (v := v1) to101 H.sub rfl hc1 rfl) <| zaA (r_lenR' u101 rfl g1 H.sub) <| mvI rfl <| xk hK3 <| wp_block <| zaY fun m2 k2 => bn hE1 fun out1 hL1 hE2 => zdL (4 :: 6 :: rg 12 12 []) (fun (s1 : Int) (m3 : FM) (w1 : World) => look m3 12 = .int .i64 (s1) ∧ HS ⟨S, [], w⟩ S w1 []) hL1 ⟨(k2 12), H⟩ ?_
 clear H; intro k4 s1 m3 w1 k3 hI1 o2 hb1 hh1; obtain ⟨q1, H⟩ := hI1
 have q2 : look m3 1 = str (x1) := (k3 1 rfl).trans ((k2 1).trans (k1 1))
 have q3 : look m3 10 = v1 := (k3 10 rfl).trans (k2 10)
 have q4 : look m3 11 = .int .i64 (((y1).length : Int)) := (k3 11 rfl).trans (k2 11)
 refine sr fun K4 hK4 => zaA (zcR q1 q4) <| xk hK4 <| wp_seq_k fun K5 hK5 => ?_
 refine zbR hb1 rfl (fun hb1 hc2 => ?_) fun hb1 hc2 => ?_
 ·refine wp_skip ?_
  refine xn hK5 <| wp_seq_k fun K6 hK6 => wp_block <| sr fun K7 hK7 => bn hb1 fun y2 e2 hb1 => ?_
  obtain ⟨b2, o3, N1, c1, cs2, hv2, hi1, hc3, hr2⟩ := g1.get (zaD e2).2
  refine zaA (zaU (i := (s1 : Int).toNat) u101 tsz99 q3 hv2 q1 (zaD e2).1 hi1) ?_
  obtain ⟨v2, rfl, g2⟩ := elK hr2
  refine zaA (zbM (p := (o3 + (s1 : Int).toNat * 1)) (o := 0) (v := v2) to99 H.sub rfl hc3 rfl) <| p_as (v := v2) rfl <| xk hK7 <| sr fun K8 hK8 => p_mv (v := v2) rfl <| bn hb1 fun y3 e3 hb1 => ?_
  obtain ⟨b3, cs3, hv3, hc4, hr3⟩ := opK g2 e3; subst hv3
  refine zaA (zcO rfl) ?_
  obtain rfl := el117c hr3
  refine zaA (zaJ fa117_1 rfl) <| zaA (zbM (p := 0) (o := 1) (v := str (y3.2.1)) to9 H.sub rfl hc4 rfl) <| p_mv q2 <| zaA (r_eqT (t := (y3.2.1 == x1)) rfl rfl rfl) <| xk hK8 ?_
  refine zbR hb1 rfl (fun hb1 hc5 => ?_) fun hb1 hc5 => ?_
  ·refine sr fun K9 hK9 => ?_
   refine mvP rfl <| asP rfl <| xk hK9 <| wp_ret <| b_ret <| zdC <| zdC <| b_ret <| zdC ?_
   obtain rfl := osi hb1
   obtain rfl := osi hh1
   obtain rfl := osi hE2
   obtain rfl := osi hF1
   refine e_1 rfl (zbD rfl) ?_
   exact ⟨H.toExt, _, rfl, Rp.mono g2 H.gr⟩
  ·refine wp_skip ?_
   refine zaS <| xn hK6 <| wp_region_lit <| zaA (zcH q1 rfl) <| mvI rfl <| wpList_nil <| zaG ?_
   obtain rfl := osi hb1
   exact ⟨(w64 (s1 + 1)), _, rfl, (kS k3 rfl kcx), ⟨rfl, H⟩, hh1⟩
 ·refine wp_exit ?_
  refine zaN <| zaN <| zcK <| zaG ?_
  obtain rfl := osi hb1
  obtain rfl := osi hh1
  obtain rfl := osi hE2
  exact J1 _ _ _ rfl (kS k3 rfl (kN k2 kcx)) H
def zgP (x0 : Option ((List (Option ((List UInt8) × (List UInt8) × (List UInt8) × Qw × Onc × Qp))))) : Option ((Option ((List UInt8) × (List UInt8) × (List UInt8) × Qw × Onc × Qp))) :=
  Option.bind (x0) fun y1 => Option.bind (x0) fun y2 => Option.bind (idx y1 (w64 (((y2).length : Int) - 1))) fun y3 => some (y3)
theorem sign_Ring_newest_c (hS : Sub S w) {v0_ : Value} {x0 : Option ((List (Option ((List UInt8) × (List UInt8) × (List UInt8) × Qw × Onc × Qp))))} (h0_ : Rp.rep S [v0_] x0) {r : (Option ((List UInt8) × (List UInt8) × (List UInt8) × Qw × Onc × Qp))} (hF : zgP x0 = some r) :
    Calls Tryz.prog 76 #[v0_] w fun e w' => Ext w w' ∧ ∃ (v0' : Value), e = .returned (v0') ∧ Rp.rep (gr S w w') [v0'] r := by
 refine enter (n := 15) Tryz.func76 rfl rfl rfl ?_
 have H := HS.start hS
 refine sr fun K1 hK1 => asP rfl <| xk hK1 <| wp_seq_k fun K2 hK2 => bn hF fun y1 e1 hF => ?_
 obtain ⟨b1, cs1, hv1, hc1, hr1⟩ := opK h0_ e1; subst hv1
 obtain ⟨v1, rfl, g1⟩ := elL hr1
 refine bn hF fun y2 e2 hF => ?_
 obtain ⟨cs2, hc2, hr2⟩ := opK' h0_ e2
 obtain ⟨v2, rfl, g2⟩ := elL hr2
 refine bn hF fun y3 e3 hF => ?_
 obtain ⟨b2, o1, N1, c1, cs3, hv2, hi1, hc3, hr3⟩ := g1.get (zaD e3).2
 obtain ⟨v3, rfl, g3⟩ := elK hr3
 refine wrS H 12 [] fun vs1 H => ?_
 refine tp (zaC (v := (.pointer (some ⟨b1, 0, none⟩))) rfl) <| tp (zcO rfl) <| tp (zaJ fa103_0 rfl) <| t_v (fun w hx => zbM (p := 0) (o := 0) (v := v1) to101 (H.ext hx).sub rfl hc1 rfl) <| tp (zaC (v := .pointer (some ⟨b1, 0, none⟩)) rfl) <| tp (zcO rfl) <| tp (zaJ fa103_0 rfl) <| t_v (fun w hx => zbM (p := 0) (o := 0) (v := v2) to101 (H.ext hx).sub rfl hc2 rfl) ?_
 refine t_v (fun w hx => r_lenR' u101 rfl g2 (H.ext hx).sub) <| tp (zdQ rfl rfl) <| tp (zaU (i := ((w64 (((y2).length : Int) - 1)) : Int).toNat) u101 tsz99 rfl hv2 rfl (zaD e3).1 hi1) <| t_v (fun w hx => zbM (p := (o1 + ((w64 (((y2).length : Int) - 1)) : Int).toNat * 1)) (o := 0) (v := v3) to99 (H.ext hx).sub rfl hc3 rfl) <| zbP <| H.tn fun w1 H => p_as (v := v3) rfl ?_
 refine wpList_nil <| zaP <| xn hK2 <| wp_ret ?_
 obtain rfl := osi hF
 refine e_1 rfl (zbD rfl) ?_
 exact ⟨H.toExt, _, rfl, Rp.mono g3 H.gr⟩
noncomputable def zdY (x0 : (List (Option ((List UInt8) × (List UInt8) × (List UInt8) × Qw × Onc × Qp)))) (x1 : List UInt8) : Option (Int × ((List (Option ((List UInt8) × (List UInt8) × (List UInt8) × Qw × Onc × Qp))))) :=
  Option.bind (sign_made_p x1) fun y1 => Option.bind (y1) fun y2 => Option.bind (zgI (some x0) y2.2.1) fun y3 => bif (!y3.isNone) then (some ((80, x0))) else (bif (((x0).length : Int) == 8) then (some ((82, x0))) else (Option.bind (app x0 ([y1] : List (Option ((List UInt8) × (List UInt8) × (List UInt8) × Qw × Onc × Qp)))) fun y4 => some ((0, y4))))
theorem sign_Ring_Turn_c {b0_ : Nat} {x0 : (List (Option ((List UInt8) × (List UInt8) × (List UInt8) × Qw × Onc × Qp)))} {pv1 : Value} {pcs1 prs1 : List Value} (H : HS ⟨S, zeO [.blk b0_ (([pv1])) 103, .osl (pv1) (x0).length 1 pcs1 prs1 99], w⟩ S w [.blk b0_ (([pv1])) 103, .osl (pv1) (x0).length 1 pcs1 prs1 99]) (pg1 : RL S pcs1 x0) {x1 : List UInt8} {r : Int × ((List (Option ((List UInt8) × (List UInt8) × (List UInt8) × Qw × Onc × Qp))))} (hF : zdY x0 x1 = some r) :
    Calls Tryz.prog 17 #[.pointer (some ⟨b0_, 0, none⟩), str (x1)] w fun e w' => ∃ (S2 : Mem) (pv5 : Value) (pcs5 prs5 : List Value), e = .returned (.int .i64 (r.1)) ∧ HS ⟨S, zeO [.blk b0_ (([pv1])) 103, .osl (pv1) (x0).length 1 pcs1 prs1 99], w⟩ S2 w' [.blk b0_ (([pv5])) 103, .osl (pv5) (r.2).length 1 pcs5 prs5 99] ∧ RL S2 pcs5 r.2 := by
 refine enter (n := 33) Tryz.func17 rfl rfl rfl <| sr fun K1 hK1 => asI rfl <| xk hK1 <| sr fun K2 hK2 => mvT rfl <| bn hF fun y1 e1 hF => zaF is72 rfl <| (sign_made_c H.sub e1).mono <| H.yv fun w1 v1 S1 hle1 H g1 => ?_
 replace pg1 := pg1.mono hle1
 refine p_as (v := v1) rfl <| xk hK2 <| wp_seq_k fun K3 hK3 => wp_block <| sr fun K4 hK4 => mvP rfl <| p_mv (v := v1) rfl <| bn hF fun y2 e2 hF => ?_
 obtain ⟨b1, cs1, hv1, hc1, hr1⟩ := opK g1 e2; subst hv1
 refine zaA (zcO rfl) ?_
 obtain rfl := el117c hr1
 refine zaA (zaJ fa117_1 rfl) <| zaA (zbM (p := 0) (o := 1) (v := str (y2.2.1)) to9 H.sub rfl hc1 rfl) <| bn hF fun y3 e3 hF => zaF is73 rfl <| (sign_Ring_find_c (subMem w1) (rpK (HS.blkAt H (k := 0) rfl) (rpL (RdS.ofOwn H (k := 1) rfl pg1))) e3).mono ?_; rintro _ w2 ⟨hx, v2, rfl, g2⟩; replace H := H.ext hx; clear hx
 refine zaA (r_neK u99 eg99 rfl g2 rfl) <| asB rfl <| xk hK4 ?_
 refine zbR hF rfl (fun hF hc2 => ?_) fun hF hc2 => ?_
 ·refine sr fun K5 hK5 => ?_
  refine asI rfl <| xk hK5 <| wp_ret <| b_ret <| zdC ?_
  obtain rfl := osi hF
  refine e_1 rfl (zbD rfl) ?_
  exact ⟨_, _, _, _, rfl, H, pg1⟩
 ·refine sr fun K6 hK6 => ?_
  refine mvP rfl <| zaA (zcO rfl) <| zaA (zaJ fa103_0 rfl) <| zaA (zaR (v := pv1) to101 H rfl (k := 0) rfl rfl) <| zaA (r_lenO u101 rfl H (k := 1) rfl rfl) <| zaA (zdS rfl rfl) <| asB rfl <| xk hK6 ?_
  refine zbR hF rfl (fun hF hc3 => ?_) fun hF hc3 => ?_
  ·refine sr fun K7 hK7 => ?_
   refine asI rfl <| xk hK7 <| wp_ret <| b_ret <| zdC ?_
   obtain rfl := osi hF
   refine e_1 rfl (zbD rfl) ?_
   exact ⟨_, _, _, _, rfl, H, pg1⟩
  ·refine wp_skip ?_
   refine zaS <| xn hK3 <| sr fun K8 hK8 => mvP rfl <| mvP rfl <| zaA (zcO rfl) <| zaA (zaJ fa103_0 rfl) <| zaA (zaR (v := pv1) to101 H rfl (k := 0) rfl rfl) <| mvP rfl ?_
   refine zhD (zbO (N := 1) (xs := ([y1] : List (Option ((List UInt8) × (List UInt8) × (List UInt8) × Qw × Onc × Qp)))) (RL.cons g1 RL.nil) tn101 H rfl rfl rfl) fun w3 v3 cs2 H g3 => bn hF fun y4 e4 hF => zjF (zcX (k := 2) (v2 := v3) tn101 rfl H rfl rfl pg1 rfl (H.slW (k := 0) rfl) g3 e4) fun w4 v4 cs3 rs1 H g4 => ?_
   replace H := H.sel [1, 2] rfl
   replace H := hsn H
   refine zaA (zcO rfl) <| zaA (zaJ fa103_0 rfl) <| zdB (zbE (k := 0) (l := [v4]) tsz101 H rfl rfl rfl (cells_one (HS.ownOne H (k := 1) rfl)) rfl (fun u hu => by rw [List.mem_singleton] at hu; rw [hu]; exact HS.ownOne H (k := 1) rfl) rfl) fun w5 H => ?_
   refine xk hK8 <| sr fun K9 hK9 => asI rfl <| xk hK9 <| wp_ret ?_
   obtain rfl := osi hF
   refine e_1 rfl (zbD rfl) ?_
   exact ⟨_, _, _, _, rfl, H, g4⟩
def zhG (y1 : (List (Option ((List UInt8) × (List UInt8) × (List UInt8) × Qw × Onc × Qp)))) (s1 : (List (List UInt8)) × Int) : Option (((List (List UInt8)) × Int) ⊕ ((List (List UInt8)))) :=
  bif decide (s1.2 < ((y1).length : Int)) then (Option.bind (idx y1 s1.2) fun y2 => Option.bind (y2) fun y3 => Option.bind (app s1.1 ([y3.2.1] : List (List UInt8))) fun y4 => some (.inl ((y4, (w64 (s1.2 + 1)))))) else (some (.inr (s1.1)))
def zgM (x0 : Option ((List (Option ((List UInt8) × (List UInt8) × (List UInt8) × Qw × Onc × Qp))))) : Option ((List (List UInt8))) :=
  Option.bind (Option.bind (x0) fun y1 => Option.bind (iter (zhG y1) ((([] : List (List UInt8)), 0))) (fun e => some (e))) (fun t1 => some (t1))
theorem sign_Ring_Kids_c (H : HS ⟨S, zeO [], w⟩ S w []) {v0_ : Value} {x0 : Option ((List (Option ((List UInt8) × (List UInt8) × (List UInt8) × Qw × Onc × Qp))))} (h0_ : Rp.rep S [v0_] x0) {r : (List (List UInt8))} (hF : zgM x0 = some r) :
    Calls Tryz.prog 26 #[v0_] w fun e w' => ∃ (S2 : Mem) (pv2 : Value) (pcs2 prs2 : List Value), e = .returned (pv2) ∧ HS ⟨S, zeO [], w⟩ S2 w' [.osl (pv2) (r).length 1 pcs2 prs2 9] ∧ RL S2 pcs2 r := by
 refine enter (n := 24) Tryz.func26 rfl rfl rfl <| sr fun K1 hK1 => asN rfl <| xk hK1 <| sr fun K2 hK2 => asN rfl <| xk hK2 <| wp_seq_k fun K3 hK3 => zaY fun m1 k1 => ?_
 refine bn hF fun t1 hE1 hF1 => ?_
 have J1 : ∀ (v6 : Value) (cs7 rs3 : List Value) (m4 : FM) (w4 : World), Kp (3 :: rg 5 18 []) m4 m1 → look m4 3 = v6 → HS ⟨S, zeO [], w⟩ S w4 [.osl (v6) (t1).length 1 cs7 rs3 9] → RL S cs7 t1 → K3 (fr 24 m4) w4 := by
  clear H; intro v6 cs7 rs3 m4 w4 k5 q5 H g7
  refine hK3 _ _ <| sr fun K9 hK9 => p_mv (v := v6) q5 <| p_as (v := v6) rfl <| xk hK9 <| wp_ret ?_
  obtain rfl := osi hF1
  refine e_1 rfl (zbD rfl) ?_
  exact ⟨_, _, _, _, rfl, H, g7⟩
 refine sr fun K4 hK4 => p_mv (v := v0_) (k1 0) <| bn hE1 fun y1 e1 hE1 => ?_
 obtain ⟨b1, cs1, hv1, hc1, hr1⟩ := opK h0_ e1; subst hv1
 refine zaA (zcO rfl) ?_
 obtain ⟨v1, rfl, g1⟩ := elL hr1
 refine zaA (zaJ fa103_0 rfl) <| zaA (zbM (p := 0) (o := 0) (v := v1) to101 H.sub rfl hc1 rfl) <| zaA (r_lenR' u101 rfl g1 H.sub) <| mvI rfl <| xk hK4 <| wp_block <| zaY fun m2 k2 => bn hE1 fun out1 hL1 hE2 => ?_
 replace H := H.nilOwn 1 9; have g3 : RL S [] ([] : List (List UInt8)) := RL.nil
 replace H := hsn H
 refine zdL (3 :: 5 :: rg 11 12 []) (fun (s1 : (List (List UInt8)) × Int) (m3 : FM) (w1 : World) => ∃ (v2 : Value) (cs2 rs1 : List Value), look m3 3 = v2 ∧ look m3 11 = .int .i64 (s1.2) ∧ HS ⟨S, zeO [], w⟩ S w1 [.osl (v2) (s1.1).length 1 cs2 rs1 9] ∧ RL S cs2 s1.1) hL1 ⟨_, _, _, (show _ = (.slice none 0 0 : Value) from ((k2 3).trans (k1 3))), (k2 11), H, g3⟩ ?_
 clear H; intro k4 s1 m3 w1 k3 hI1 o2 hb1 hh1; obtain ⟨v2, cs2, rs1, q1, q2, H, g2⟩ := hI1
 have q3 : look m3 9 = v1 := (k3 9 rfl).trans (k2 9)
 have q4 : look m3 10 = .int .i64 (((y1).length : Int)) := (k3 10 rfl).trans (k2 10)
 refine sr fun K5 hK5 => zaA (zcR q2 q4) <| xk hK5 <| wp_seq_k fun K6 hK6 => ?_
 refine zbR hb1 rfl (fun hb1 hc2 => ?_) fun hb1 hc2 => ?_
 ·refine wp_skip ?_
  refine xn hK6 <| wp_seq_k fun K7 hK7 => wp_block <| sr fun K8 hK8 => bn hb1 fun y2 e2 hb1 => ?_
  obtain ⟨b2, o3, N1, c1, cs3, hv2, hi1, hc3, hr2⟩ := g1.get (zaD e2).2
  refine zaA (zaU (i := (s1.2 : Int).toNat) u101 tsz99 q3 hv2 q2 (zaD e2).1 hi1) ?_
  obtain ⟨v3, rfl, g4⟩ := elK hr2
  refine zaA (zbM (p := (o3 + (s1.2 : Int).toNat * 1)) (o := 0) (v := v3) to99 H.sub rfl hc3 rfl) <| p_as (v := v3) rfl <| xk hK8 <| wp_region_lit <| p_mv (v := v2) q1 <| p_mv (v := v3) rfl <| bn hb1 fun y3 e3 hb1 => ?_
  obtain ⟨b3, cs4, hv3, hc4, hr3⟩ := opK g4 e3; subst hv3
  refine zaA (zcO rfl) ?_
  obtain rfl := el117c hr3
  refine zaA (zaJ fa117_1 rfl) <| zaA (zbM (p := 0) (o := 1) (v := str (y3.2.1)) to9 H.sub rfl hc4 rfl) <| zhD (zbO (N := 1) (xs := ([y3.2.1] : List (List UInt8))) (RL.cons rpT RL.nil) tn40 H rfl rfl rfl) fun w2 v4 cs5 H g5 => bn hb1 fun y4 e4 hb1 => zjF (zcX (k := 1) (v2 := v4) tn40 rfl H rfl rfl g2 rfl (H.slW (k := 0) rfl) g5 e4) fun w3 v5 cs6 rs2 H g6 => ?_
  replace H := H.sel [1] rfl
  replace H := hsn H
  refine p_as (v := v5) rfl <| wpList_nil <| zaS <| xn hK7 <| wp_region_lit <| zaA (zcH q2 rfl) <| mvI rfl <| wpList_nil <| zaG ?_
  obtain rfl := osi hb1
  exact ⟨(y4, (w64 (s1.2 + 1))), _, rfl, (kS k3 rfl kcx), ⟨_, _, _, rfl, rfl, H, g6⟩, hh1⟩
 ·refine wp_exit ?_
  refine zaN <| zaN <| zcK <| zaG ?_
  obtain rfl := osi hb1
  obtain rfl := osi hh1
  obtain rfl := osi hE2
  exact J1 _ _ _ _ _ (kS k3 rfl (kN k2 kcx)) (show _ = (v2 : Value) from q1) H g2
noncomputable def zhE (x0 : Option ((List (Option ((List UInt8) × (List UInt8) × (List UInt8) × Qw × Onc × Qp))))) (x1 : List UInt8) : Option ((List UInt8) × (List UInt8)) :=
  Option.bind (zgP x0) fun y1 => Option.bind (y1) fun y2 => Option.bind (y1) fun y3 => Option.bind (zeF y3.2.2.1 x1) fun y4 => some ((y2.2.1, y4))
theorem sign_Ring_Mac_c (hS : Sub S w) {v0_ : Value} {x0 : Option ((List (Option ((List UInt8) × (List UInt8) × (List UInt8) × Qw × Onc × Qp))))} (h0_ : Rp.rep S [v0_] x0) {x1 : List UInt8} {r : (List UInt8) × (List UInt8)} (hF : zhE x0 x1 = some r) :
    Calls Tryz.prog 19 #[v0_, str (x1)] w fun e w' => e = .returned (.tuple #[str (r.1), str (r.2)]) ∧ Ext w w' := by
 refine enter (n := 19) Tryz.func19 rfl rfl rfl ?_
 have H := HS.start hS
 refine sr fun K1 hK1 => asT rfl <| asT rfl <| xk hK1 <| sr fun K2 hK2 => p_mv (v := v0_) rfl <| bn hF fun y1 e1 hF => zaF is76 rfl <| (sign_Ring_newest_c H.sub h0_ e1).mono <| H.yv fun w1 v1 S1 hle1 H g1 => ?_
 replace h0_ := Rp.mono h0_ hle1
 refine p_as (v := v1) rfl <| xk hK2 <| wp_seq_k fun K3 hK3 => bn hF fun y2 e2 hF => ?_
 obtain ⟨b1, cs1, hv1, hc1, hr1⟩ := opK g1 e2; subst hv1
 obtain rfl := el117c hr1
 refine bn hF fun y3 e3 hF => ?_
 obtain ⟨cs2, hc2, hr2⟩ := opK' g1 e3
 obtain rfl := el117c hr2
 refine bn hF fun y4 e4 hF => wrS H 10 [(9, .inl (str (y4)))] fun vs1 H => ?_
 refine tp (zaC (v := (.pointer (some ⟨b1, 0, none⟩))) rfl) <| tp (zcO rfl) <| tp (zaJ fa117_1 rfl) <| t_v (fun w hx => zbM (p := 0) (o := 1) (v := str (y2.2.1)) to9 (H.ext hx).sub rfl hc1 rfl) <| tp (zaC (v := .pointer (some ⟨b1, 0, none⟩)) rfl) <| tp (zcO rfl) <| tp (zaJ fa117_2 rfl) ?_
 refine t_v (fun w hx => zbM (p := 0) (o := 2) (v := str (y3.2.2.1)) to9 (H.ext hx).sub rfl hc2 rfl) <| tp (zaC (v := str (x1)) rfl) <| tcx is46 (fun w hx => ziL (H.ext hx).sub e4) <| zbP <| H.tn fun w2 H => asT rfl <| asT rfl <| wpList_nil <| zaP <| xn hK3 <| wp_ret ?_
 obtain rfl := osi hF
 refine e_2 rfl (zbD rfl) (zbD rfl) ?_
 exact ⟨rfl, H.toExt⟩
noncomputable def zdR (x0 : Option ((List (Option ((List UInt8) × (List UInt8) × (List UInt8) × Qw × Onc × Qp))))) (x1 : List UInt8) (x2 : List UInt8) (x3 : List UInt8) : Option (Bool) :=
  Option.bind (zgI x0 x1) fun y1 => Option.bind (bif (!y1.isNone) then (Option.bind (y1) fun y2 => Option.bind (zeF y2.2.2.1 x2) fun y3 => Option.bind (hash_Same_p y3 x3) fun y4 => some (y4)) else (some (false))) (fun t1 => some (t1))
theorem zfL (hS : Sub S w) {v0_ : Value} {x0 : Option ((List (Option ((List UInt8) × (List UInt8) × (List UInt8) × Qw × Onc × Qp))))} (h0_ : Rp.rep S [v0_] x0) {x1 : List UInt8} {x2 : List UInt8} {x3 : List UInt8} {r : Bool} (hF : zdR x0 x1 x2 x3 = some r) :
    Calls Tryz.prog 21 #[v0_, str (x1), str (x2), str (x3)] w fun e w' => e = .returned (.bool (r)) ∧ Ext w w' := by
 refine enter (n := 25) Tryz.func21 rfl rfl rfl ?_
 have H := HS.start hS
 refine sr fun K1 hK1 => asB rfl <| xk hK1 <| sr fun K2 hK2 => p_mv (v := v0_) rfl <| mvT rfl <| bn hF fun y1 e1 hF => zaF is73 rfl <| (sign_Ring_find_c H.sub h0_ e1).mono <| H.yv fun w1 v1 S1 hle1 H g1 => ?_
 replace h0_ := Rp.mono h0_ hle1
 refine p_as (v := v1) rfl <| xk hK2 <| sr fun K3 hK3 => p_mv (v := v1) rfl <| zaA (r_neK u99 eg99 rfl g1 rfl) <| mvB rfl <| zkU fun m1 k1 => zkX 9 fun K4 hK4 R1 hR1 => bn hF fun t1 hE1 hF1 => ?_
 have J1 : ∀ (m2 : FM) (w4 : World), Kp (rg 16 9 []) m2 m1 → look m2 24 = .bool (t1) → HS ⟨S, [], w⟩ S1 w4 [] → K4 m2 w4 := by
  clear H; intro m2 w4 k2 q1 H
  refine hK4 _ _ <| p_as q1 <| xk hK3 <| wp_ret ?_
  obtain rfl := osi hF1
  refine e_1 rfl (zbD rfl) ?_
  exact ⟨rfl, H.toExt⟩
 refine p_gs (j := 2) (zaI rfl rfl (k1 15)) (fun hb1 => ?_) (fun hb1 => ?_)
 ·replace hE1 := zfK hE1 hb1
  refine zaT (zaI rfl rfl (k1 15)) hb1 <| p_mv (v := v1) (k1 9) <| zaT (zaI rfl rfl (k1 15)) hb1 <| bn hE1 fun y2 e2 hE1 => ?_
  obtain ⟨b1, cs1, hv1, hc1, hr1⟩ := opK g1 e2; subst hv1
  refine zaA (zcO rfl) ?_
  obtain rfl := el117c hr1
  refine zaT (zaI rfl rfl (k1 15)) hb1 <| zaA (zaJ fa117_2 rfl) <| zaT (zaI rfl rfl (k1 15)) hb1 <| zaA (zbM (p := 0) (o := 2) (v := str (y2.2.2.1)) to9 H.sub rfl hc1 rfl) <| zaT (zaI rfl rfl (k1 15)) hb1 <| p_mv (k1 2) <| zaT (zaI rfl rfl (k1 15)) hb1 <| bn hE1 fun y3 e3 hE1 => zaF is46 rfl ?_
  refine (ziL H.sub e3).mono <| H.xe fun w2 H => zaT (zaI rfl rfl (k1 15)) hb1 <| p_mv (k1 3) <| zaT (zaI rfl rfl (k1 15)) hb1 <| bn hE1 fun y4 e4 hE1 => zaF is79 rfl <| (hash_Same_c H.sub e4).mono <| H.xe fun w3 H => zaA (zbQ (v := .bool (y4)) (k1 15) hb1 rfl) <| hR1 _ _ ?_
  obtain rfl := osi hE1
  exact J1 _ _ kcx rfl H
 ·replace hE1 := zfR hE1 hb1
  refine zaW (zaI rfl rfl (k1 15)) hb1 ?_
  rw [zaH]
  refine zaW (zaI rfl rfl (k1 15)) hb1 ?_
  rw [zaH]
  refine zaW (zaI rfl rfl (k1 15)) hb1 ?_
  rw [zaH]
  refine zaW (zaI rfl rfl (k1 15)) hb1 ?_
  rw [zaH]
  refine zaW (zaI rfl rfl (k1 15)) hb1 ?_
  rw [zaH]
  refine zaW (zaI rfl rfl (k1 15)) hb1 ?_
  rw [zaH]
  refine zaW (zaI rfl rfl (k1 15)) hb1 ?_
  rw [zaH]
  refine zaW (zaI rfl rfl (k1 15)) hb1 ?_
  rw [zaH]
  refine zaA (zaX (v := .bool (false)) (k1 15) hb1 rfl) <| hR1 _ _ ?_
  obtain rfl := osi hE1
  exact J1 _ _ kcx rfl H
end
end Go.Proofs.YtmbcolbbekbccaaGreat
