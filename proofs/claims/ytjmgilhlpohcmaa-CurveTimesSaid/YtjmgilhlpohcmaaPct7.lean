/- The law 'a multiple of any point is what adding says' holds of what its walk tells: plain. Conditions: as each theorem says. -/
import Derived.Test.YtjmgilhlpohcmaaLwT
import Derived.Test.YtjmgilhlpohcmaaRec
namespace Go.Proofs.Ytjmgilhlpohcmaa
open Go Go.RowKit
theorem curveTimes_plain (x0 : W4) (x1 : Pw) : seneschallaw07_CurveTimes_p x0 x1 = some true := by
  have ptW_0 : ptW (0, 0, false) = ((((0 : UInt64), (0 : UInt64), (0 : UInt64), (0 : UInt64)), ((0 : UInt64), (0 : UInt64), (0 : UInt64), (0 : UInt64)), false) : Pw) := by rfl
  have hl : (digs (nv x0)).length ≤ 1000 := Nat.le_of_lt (small_lt (nv_lt x0))
  unfold seneschallaw07_CurveTimes_p
  rw [bind_ok (show curve_Mul_p x0 x1 = some (ptW (cmul (nv x0) (apT x1)), cerr (apT x1)) from rfl), bind_ok (show awake7_p = some true from rfl)]
  simp only [Bool.not_true, cond_false]
  rw [bind_ok (on_ok x1), ← ptW_0]
  cases h : onT (apT x1) with
  | false =>
    rw [(cmul_f (k := nv x0) h).1, cerr_f h]
    simp only [Bool.not_false, cond_true, show ((70 : Int) == 70) = true from rfl, beq_self_eq_true, Option.bind_some]
  | true =>
    rw [cerr_t h]
    simp only [Bool.not_true, cond_false, show ((0 : Int) == 0) = true from rfl, cond_true]
    rw [bind_ok (inR_ok h), bind_ok (in_ok x0), bind_ok (timesR_ok (P := ofW x1) (on_ofA h) hl), bind_ok (outR_ok _), cmul_aff h]
    simp only [ofW, beq_self_eq_true, cond_true]
    rw [bind_ok (inR_ok h), bind_ok (in_ok x0)]
    rw [bind_ok (fastR_ok (P := ofW x1) (on_ofA h) hl), bind_ok (outR_ok _)]
    simp only [ofW, beq_self_eq_true]
theorem curveTimes_w (A : Nat) (hA : A < two256) (p : Ap) (hp : AL p) (w : World) : Calls Try.prog 13 #[numV A, .agg (ptT p).toArray] w fun e w' => e = .returned (.bool true) ∧ Ext w w' := by
  rw [← clP_W p]
  have e : numV A = .agg (cl24 (tv A)).toArray := by rw [clN_tv]
  rw [e]
  exact seneschallaw07_CurveTimes_c (S := fun _ => none) (fun _ _ h => by cases h) (curveTimes_plain (tv A) (ptW p))
end Go.Proofs.Ytjmgilhlpohcmaa
