/- The law 'opposites and sums of any two points are what the document says' holds of what its walk tells: plain. Conditions: as each theorem says. -/
import Derived.Test.YtjmgilhlpohcmaaLwS
import Derived.Test.YtjmgilhlpohcmaaReb
namespace Go.Proofs.Ytjmgilhlpohcmaa
open Go Go.RowKit
theorem ptW_0 : ptW (0, 0, false) = ((((0 : UInt64), (0 : UInt64), (0 : UInt64), (0 : UInt64)), ((0 : UInt64), (0 : UInt64), (0 : UInt64), (0 : UInt64)), false) : Pw) := by rfl
theorem curveSums_plain (x0 x1 : Pw) : seneschallaw07_CurveSums_p x0 x1 = some true := by
  unfold seneschallaw07_CurveSums_p
  rw [bind_ok (show curve_Neg_p x0 = some (ptW (cneg (apT x0)), cerr (apT x0)) from rfl), bind_ok (show curve_Add_p x0 x1 = some (ptW (cadd (apT x0) (apT x1)), cadde (apT x0) (apT x1)) from rfl), bind_ok (show awake7_p = some true from rfl)]
  simp only [Bool.not_true, cond_false]
  rw [on_ok x0, on_ok x1, ← ptW_0]
  simp only [Option.bind_some]
  cases h : onT (apT x0) with
  | false =>
    rw [(cneg_f h).1, cerr_f h, (cadd_f1 h).1, (cadd_f1 h).2]
    simp only [Bool.not_false, cond_true, cond_false, show ((70 : Int) != 70) = false from rfl, bne_self_eq_false, Option.bind_some, beq_self_eq_true]
  | true =>
    rw [cerr_t h]
    simp only [Bool.not_true, cond_true, cond_false, show ((0 : Int) != 0) = false from rfl, Option.bind_some]
    rw [bind_ok (inR_ok h), bind_ok (opp_ok _), bind_ok (outR_ok _), cneg_aff h]
    simp only [ofW, bne_self_eq_false, cond_false, Option.bind_some]
    cases h1 : onT (apT x1) with
    | false =>
      rw [(cadd_f2 h1).1, (cadd_f2 h1).2]
      simp only [Bool.not_false, cond_true, show ((70 : Int) == 70) = true from rfl, beq_self_eq_true, Option.bind_some]
    | true =>
      rw [(cadd_t h h1).2]
      simp only [Bool.not_true, cond_false, show ((0 : Int) == 0) = true from rfl, cond_true]
      rw [bind_ok (inR_ok h), bind_ok (inR_ok h1), bind_ok (sumR_ok (P := ofW x0) (Q := ofW x1) (on_ofA h) (on_ofA h1)), bind_ok (outR_ok _), cadd_aff h h1]
      simp only [ofW, beq_self_eq_true]
theorem curveSums_w (p : Ap) (hp : AL p) (q : Ap) (hq : AL q) (w : World) : Calls Try.prog 11 #[.agg (ptT p).toArray, .agg (ptT q).toArray] w fun e w' => e = .returned (.bool true) ∧ Ext w w' := by
  rw [← clP_W p, ← clP_W q]
  exact seneschallaw07_CurveSums_c (S := fun _ => none) (fun _ _ h => by cases h) (curveSums_plain (ptW p) (ptW q))
end Go.Proofs.Ytjmgilhlpohcmaa
