/- Package sign: the calls whose answers the document fixes, and what the laws ask of them: plain laws. Conditions: as each theorem says. -/
import Derived.Test.YtmbcolbbekbccaaLwN
import Derived.Test.YtmbcolbbekbccaaKey
import Derived.KernelRfl
namespace Go.Proofs.Ytmbcolbbekbccaa
open Go Go.RowKit
abbrev G0 : Pw := ptW (GX, GY, false)
theorem invV0_1 : invV 0 1 = 1 := by unfold invV; rw [Nat.one_pow]; rfl
theorem pub1 : sign_Public_p ((1 : UInt64), (0 : UInt64), (0 : UInt64), (0 : UInt64)) = some (G0, 0) := by
  have e1 : sign_fine_p ((1 : UInt64), (0 : UInt64), (0 : UInt64), (0 : UInt64)) = some true := of_decide_eq_true (by kernel_rfl)
  have e2 : cmul (nv ((1 : UInt64), (0 : UInt64), (0 : UInt64), (0 : UInt64))) (apT G0) = (GX, GY, false) := by
    rw [show nv ((1 : UInt64), (0 : UInt64), (0 : UInt64), (0 : UInt64)) = 1 from of_decide_eq_true (by kernel_rfl), show apT G0 = (GX, GY, false) from of_decide_eq_true (by kernel_rfl)]
    unfold cmul
    rw [show onT (GX, GY, false) = true by kernel_rfl, cond_t rfl, jmul_1 (by decide), show 1 / 2 = 0 from rfl, jmul_0, jtw_0]
    rw [show jad (0, 0, 0) (jof GX GY false) = (GX, GY, 1) from rfl]
    unfold jend
    rw [if_neg (by decide), invV0_1]
    exact of_decide_eq_true (by kernel_rfl)
  unfold sign_Public_p
  rw [e1, some_bind]
  unfold sign_times_p curve_Base_p curve_Mul_p
  rw [some_bind, some_bind, e2]
  rfl
theorem pub0 : (sign_Public_p ((0 : UInt64), (0 : UInt64), (0 : UInt64), (0 : UInt64))).map (·.2) = some 80 := of_decide_eq_true (by kernel_rfl)
theorem sgnN : sign_Sign_p (tv (modN 1)) ([] : List UInt8) = some ([], 80) := of_decide_eq_true (by kernel_rfl)
theorem kids_ab : (kidF [97] == kidF [98]) = false := by kernel_rfl
theorem kid_no (s : List UInt8) : (kidF s == ([] : List UInt8)) = false := by
  rw [beq_eq_false_iff_ne]
  intro h
  have := kidF_len s
  rw [h] at this
  simp at this
theorem find_hit (s : List UInt8) (L : List (List UInt8)) : findF (s :: L) (kidF s) = some s := by
  have : plF (s :: L) (kidF s) = 0 := by simp [plF, List.findIdx_cons]
  rw [findF, this]; rfl
theorem fixed_ok : seneschallaw08_fixed_p = some true := by
  unfold seneschallaw08_fixed_p
  obtain ⟨y2, h2, h80⟩ := Option.map_eq_some_iff.1 pub0
  have t1 : sign_Ring_Turn_p (ringF [[97]]) ([97] : List UInt8) = some (80, ringF [[97]]) := by
    rw [turn_ok (by decide) (by decide), find_hit]; rfl
  have t2 : sign_Ring_Turn_p (ringF [[97]]) ([98] : List UInt8) = some (0, ringF [[97], [98]]) := by
    have : findF [[97]] (kidF [98]) = none := by
      have : plF [[97]] (kidF [98]) = 1 := by simp only [plF, List.findIdx_cons, kids_ab, List.findIdx_nil]; rfl
      rw [findF, this]; rfl
    rw [turn_ok (by decide) (by decide), this]; rfl
  have k : sign_Ring_Kids_p (some (ringF [[97], [98]])) = some [kidF [97], kidF [98]] := kids_ok (by decide)
  have m : sign_Ring_Mac_p (some (ringF [[97], [98]])) ([115] : List UInt8) = some (kidF [98], macF (mkF [98]) [115]) := rmac_ok (L := [[97]]) (by decide) (by decide)
  have f1 : findF [[97], [98]] (kidF [98]) = some [98] := by
    have : plF [[97], [98]] (kidF [98]) = 1 := by simp only [plF, List.findIdx_cons, kids_ab, BEq.rfl, List.findIdx_nil]; rfl
    rw [findF, this]; rfl
  have f2 : findF [[97], [98]] [] = none := by
    have : plF [[97], [98]] [] = 2 := by simp only [plF, List.findIdx_cons, kid_no, List.findIdx_nil]; rfl
    rw [findF, this]; rfl
  have v1 : sign_Ring_Vouch_p (some (ringF [[97], [98]])) (kidF [98]) ([115] : List UInt8) (macF (mkF [98]) [115]) = some true := by
    rw [vouch_ok (by decide) (by decide) (by rw [macF_len]; decide), f1]
    simp only [BEq.rfl]
  have v2 : sign_Ring_Vouch_p (some (ringF [[97], [98]])) ([] : List UInt8) ([115] : List UInt8) (macF (mkF [98]) [115]) = some false := by
    rw [vouch_ok (by decide) (by decide) (by rw [macF_len]; decide), f2]
  rw [pub1, some_bind, h2, some_bind, show field_Modulus_p 1 = some (tv (modN 1)) from rfl, some_bind, sgnN, some_bind, newRing_ok (by decide), some_bind, t1, some_bind]
  simp only [h80, show ((80 : Int) != 80) = false from rfl, cond_false]
  rw [t2, some_bind, some_bind]
  simp only [show ((0 : Int) != 0) = false from rfl, cond_false]
  rw [k, some_bind, some_bind]
  simp only [show (((([kidF [97], kidF [98]] : List (List UInt8)).length : Int)) != 2) = false from rfl, cond_false]
  rw [m, some_bind, show curve_Base_p = some G0 from rfl, some_bind]
  simp only [BEq.rfl, cond_true]
  rw [v1, some_bind, cond_t rfl, v2, some_bind]
  rfl
end Go.Proofs.Ytmbcolbbekbccaa
