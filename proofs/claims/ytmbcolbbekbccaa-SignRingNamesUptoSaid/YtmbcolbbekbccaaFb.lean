/- Numbers of four words: plain lemmas. No condition. -/
import Derived.Test.YtmbcolbbekbccaaStp
namespace Go.Proofs.Ytmbcolbbekbccaa
open Go Go.RowKit

/-- The value of a word. -/
def U (x : Int) : Prop := 0 ≤ x ∧ x < 18446744073709551616
/-- A carry. -/
def C1 (x : Int) : Prop := x = 0 ∨ x = 1
theorem C1_0 : C1 0 := .inl rfl
theorem U_0 : U 0 := by unfold U; omega
theorem C1.U {x : Int} (h : C1 x) : U x := by unfold C1 at h; unfold Proofs.Ytmbcolbbekbccaa.U; omega

/-- Word i of a number. -/
def lm (A i : Nat) : Int := ((A / 2 ^ (64 * i) % 2 ^ 64 : Nat) : Int)
theorem U_lm (A i : Nat) : U (lm A i) := by
  unfold U lm
  have := Nat.mod_lt (A / 2 ^ (64 * i)) (show 0 < 2 ^ 64 by decide)
  omega
/-- A number's cells. -/
def numL (A : Nat) : List Value := [.int .u64 (lm A 0), .int .u64 (lm A 1), .int .u64 (lm A 2), .int .u64 (lm A 3)]
abbrev numV (A : Nat) : Value := .agg (numL A).toArray
def val4 (a b c d : Int) : Nat := (a + b * 18446744073709551616 + c * 340282366920938463463374607431768211456 + d * 6277101735386680763835789423207666416102355444464034512896).toNat
def two256 : Nat := 115792089237316195423570985008687907853269984665640564039457584007913129639936

theorem two256_pos : 0 < two256 := by decide
theorem lm_val (A : Nat) : lm A 0 + lm A 1 * 18446744073709551616 + lm A 2 * 340282366920938463463374607431768211456 + lm A 3 * 6277101735386680763835789423207666416102355444464034512896 = ((A % two256 : Nat) : Int) := by
  unfold lm two256
  simp only [Nat.reduceMul, Nat.reducePow, Nat.pow_zero, Nat.div_one]
  omega
theorem val4_lm (A : Nat) : val4 (lm A 0) (lm A 1) (lm A 2) (lm A 3) = A % two256 := by
  unfold val4; rw [lm_val]; rfl
theorem lm_of {a b c d : Int} (ha : U a) (hb : U b) (hc : U c) (hd : U d) {A : Nat} (h : a + b * 18446744073709551616 + c * 340282366920938463463374607431768211456 + d * 6277101735386680763835789423207666416102355444464034512896 = (A : Int)) :
    lm A 0 = a ∧ lm A 1 = b ∧ lm A 2 = c ∧ lm A 3 = d := by
  unfold lm U at *
  simp only [Nat.reduceMul, Nat.reducePow, Nat.pow_zero, Nat.div_one]
  omega
theorem numL_of {a b c d : Int} (ha : U a) (hb : U b) (hc : U c) (hd : U d) {A : Nat} (h : a + b * 18446744073709551616 + c * 340282366920938463463374607431768211456 + d * 6277101735386680763835789423207666416102355444464034512896 = (A : Int)) :
    ([.int .u64 a, .int .u64 b, .int .u64 c, .int .u64 d] : List Value) = numL A := by
  obtain ⟨h1, h2, h3, h4⟩ := lm_of ha hb hc hd h
  unfold numL; rw [h1, h2, h3, h4]
theorem numL_mod (A : Nat) : numL (A % two256) = numL A := by
  refine (numL_of (U_lm A 0) (U_lm A 1) (U_lm A 2) (U_lm A 3) ?_).symm
  rw [lm_val]
theorem numL_inj {A B : Nat} (h : numL A = numL B) : A % two256 = B % two256 := by
  unfold numL at h
  simp only [List.cons.injEq, Value.int.injEq, true_and, and_true] at h
  have h1 := lm_val A
  have h2 := lm_val B
  rw [h.1, h.2.1, h.2.2.1, h.2.2.2, h2] at h1
  exact Int.ofNat.inj h1.symm

/-! ### With carry, with borrow -/
def sd (x y b : Int) : Int := (x - y - b) % 18446744073709551616
def sb (x y b : Int) : Int := if x < y + b then 1 else 0
def ad (x y c : Int) : Int := (x + y + c) % 18446744073709551616
def ac (x y c : Int) : Int := if x + y + c < 18446744073709551616 then 0 else 1
theorem U_sd (x y b : Int) : U (sd x y b) := by unfold U sd; omega
theorem C_sb (x y b : Int) : C1 (sb x y b) := by unfold C1 sb; split <;> omega
theorem U_ad (x y b : Int) : U (ad x y b) := by unfold U ad; omega
theorem C_ac (x y c : Int) : C1 (ac x y c) := by unfold C1 ac; split <;> omega
theorem ac_eq {x y c : Int} (hx : U x) (hy : U y) (hc : C1 c) : (x + y + c) / 18446744073709551616 = ac x y c := by unfold C1 U ac at *; split <;> omega
theorem sd_eq {x y b : Int} (hx : U x) (hy : U y) (hb : C1 b) : sd x y b = x - y - b + 18446744073709551616 * sb x y b := by
  unfold sd sb U C1 at *; split <;> omega
theorem ad_eq {x y c : Int} (hx : U x) (hy : U y) (hc : C1 c) : ad x y c + 18446744073709551616 * ac x y c = x + y + c := by
  rw [← ac_eq hx hy hc]; unfold ad; omega

/-! ### less -/
def lessL (a0 a1 a2 a3 b0 b1 b2 b3 : Int) : List Value :=
  [.int .u64 (sd a0 b0 0), .int .u64 (sd a1 b1 (sb a0 b0 0)), .int .u64 (sd a2 b2 (sb a1 b1 (sb a0 b0 0))), .int .u64 (sd a3 b3 (sb a2 b2 (sb a1 b1 (sb a0 b0 0))))]
def lessB (a0 a1 a2 a3 b0 b1 b2 b3 : Int) : Int := sb a3 b3 (sb a2 b2 (sb a1 b1 (sb a0 b0 0)))
theorem less_fin (A B : Nat) (hA : A < two256) (hB : B < two256) :
    lessL (lm A 0) (lm A 1) (lm A 2) (lm A 3) (lm B 0) (lm B 1) (lm B 2) (lm B 3) = numL ((A + (two256 - B)) % two256) ∧
    (lessB (lm A 0) (lm A 1) (lm A 2) (lm A 3) (lm B 0) (lm B 1) (lm B 2) (lm B 3) == 1) = decide (A < B) := by
  have eA := lm_val A
  have eB := lm_val B
  rw [Nat.mod_eq_of_lt hA] at eA
  rw [Nat.mod_eq_of_lt hB] at eB
  have a0 := U_lm A 0; have a1 := U_lm A 1; have a2 := U_lm A 2; have a3 := U_lm A 3
  have b0 := U_lm B 0; have b1 := U_lm B 1; have b2 := U_lm B 2; have b3 := U_lm B 3
  unfold lessL lessB
  generalize lm A 0 = x0 at *; generalize lm A 1 = x1 at *; generalize lm A 2 = x2 at *; generalize lm A 3 = x3 at *
  generalize lm B 0 = y0 at *; generalize lm B 1 = y1 at *; generalize lm B 2 = y2 at *; generalize lm B 3 = y3 at *
  have c0 := C_sb x0 y0 0
  have e0 := sd_eq a0 b0 C1_0
  have u0 := U_sd x0 y0 0
  generalize sb x0 y0 0 = s0 at *; generalize sd x0 y0 0 = d0 at *
  have c1 := C_sb x1 y1 s0
  have e1 := sd_eq a1 b1 c0
  have u1 := U_sd x1 y1 s0
  generalize sb x1 y1 s0 = s1 at *; generalize sd x1 y1 s0 = d1 at *
  have c2 := C_sb x2 y2 s1
  have e2 := sd_eq a2 b2 c1
  have u2 := U_sd x2 y2 s1
  generalize sb x2 y2 s1 = s2 at *; generalize sd x2 y2 s1 = d2 at *
  have c3 := C_sb x3 y3 s2
  have e3 := sd_eq a3 b3 c2
  have u3 := U_sd x3 y3 s2
  generalize sb x3 y3 s2 = s3 at *; generalize sd x3 y3 s2 = d3 at *
  unfold two256 at *
  refine ⟨numL_of u0 u1 u2 u3 ?_, ?_⟩
  · unfold C1 U at *
    by_cases h : A < B
    · rw [Nat.mod_eq_of_lt (by omega)]; omega
    · rw [show A + (115792089237316195423570985008687907853269984665640564039457584007913129639936 - B) = (A - B) + 115792089237316195423570985008687907853269984665640564039457584007913129639936 by omega, Nat.add_mod_right, Nat.mod_eq_of_lt (by omega)]; omega
  · rw [Bool.eq_iff_iff]
    simp only [beq_iff_eq, decide_eq_true_eq]
    unfold C1 U at *
    omega
end Go.Proofs.Ytmbcolbbekbccaa
