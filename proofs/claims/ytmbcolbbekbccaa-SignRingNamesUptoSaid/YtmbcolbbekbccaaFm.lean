/- Reckoning with numbers of four words: plain lemmas. No condition. -/
import Derived.Test.YtmbcolbbekbccaaFb
namespace Go.Proofs.Ytmbcolbbekbccaa
open Go Go.RowKit

/-- The moduli. -/
def PP : Nat := 115792089210356248762697446949407573530086143415290314195533631308867097853951
def NN : Nat := 115792089210356248762697446949407573529996955224135760342422259061068512044369
def modN (m : Int) : Nat := bif m == 0 then PP else NN
theorem modN_cases (m : Int) : modN m = PP ∨ modN m = NN := by unfold modN; cases m == 0 <;> simp
/-- What the code asks of a modulus. -/
def Mod (p : Nat) : Prop := two256 < 2 * p ∧ p < two256
theorem mod_PP : Mod PP := by unfold Mod two256 PP; omega
theorem mod_NN : Mod NN := by unfold Mod two256 NN; omega
theorem mod_modN (m : Int) : Mod (modN m) := by rcases modN_cases m with h | h <;> rw [h]; exact mod_PP; exact mod_NN
theorem Mod.lt {p : Nat} (h : Mod p) : p < two256 := h.2
theorem Mod.pos {p : Nat} (h : Mod p) : 0 < p := by unfold Mod two256 at h; omega

theorem lt_lit {a : Nat} (h : Nat.blt a two256 = true) : a < two256 := by rw [nat_blt] at h; simpa using h
theorem num_const {a b c d : Nat} (A : Nat) (ha : a < 18446744073709551616) (hb : b < 18446744073709551616) (hc : c < 18446744073709551616) (hd : d < 18446744073709551616) (h : a + b * 18446744073709551616 + c * 340282366920938463463374607431768211456 + d * 6277101735386680763835789423207666416102355444464034512896 = A) :
    ([.int .u64 (a : Int), .int .u64 (b : Int), .int .u64 (c : Int), .int .u64 (d : Int)] : List Value) = numL A :=
  numL_of (by unfold U; omega) (by unfold U; omega) (by unfold U; omega) (by unfold U; omega) (by omega)
theorem num_PP : ([.int .u64 18446744073709551615, .int .u64 4294967295, .int .u64 0, .int .u64 18446744069414584321] : List Value) = numL PP :=
  num_const (a := 18446744073709551615) (b := 4294967295) (c := 0) (d := 18446744069414584321) PP (by decide) (by decide) (by decide) (by decide) (by unfold PP; decide)
theorem num_NN : ([.int .u64 17562291160714782033, .int .u64 13611842547513532036, .int .u64 18446744073709551615, .int .u64 18446744069414584320] : List Value) = numL NN :=
  num_const (a := 17562291160714782033) (b := 13611842547513532036) (c := 18446744073709551615) (d := 18446744069414584320) NN (by decide) (by decide) (by decide) (by decide) (by unfold NN; decide)
theorem num_0 : ([.int .u64 0, .int .u64 0, .int .u64 0, .int .u64 0] : List Value) = numL 0 := num_const (a := 0) (b := 0) (c := 0) (d := 0) 0 (by decide) (by decide) (by decide) (by decide) (by decide)
theorem num_lit (a : Nat) (ha : a < 18446744073709551616) : ([.int .u64 (a : Int), .int .u64 0, .int .u64 0, .int .u64 0] : List Value) = numL a :=
  num_const (b := 0) (c := 0) (d := 0) a ha (by decide) (by decide) (by decide) (by omega)
theorem num_int {x : Int} (h : U x) : ([.int .u64 x, .int .u64 0, .int .u64 0, .int .u64 0] : List Value) = numL x.toNat := by
  have := num_lit x.toNat (by unfold U at h; omega)
  rw [Int.toNat_of_nonneg h.1] at this
  exact this

/-- What 'once' tells: a, with a carry on top, less p if it is not below it. -/
def onceN (A p : Nat) (c : Int) : Nat := if c = 1 ∨ p ≤ A then (A + (two256 - p)) % two256 else A
theorem onceN_eq {A p : Nat} {c : Int} (hA : A < two256) (hp : Mod p) (hc : C1 c) (h : A + c.toNat * two256 < 2 * p) : onceN A p c = (A + c.toNat * two256) % p := by
  have hpl := hp.2
  have hsub : ∀ X, p ≤ X → X < 2 * p → X % p = X - p := fun X h1 h2 => by
    rw [Nat.mod_eq_sub_mod h1]; exact Nat.mod_eq_of_lt (by omega)
  unfold onceN
  rcases hc with rfl | rfl
  · have h' : A < 2 * p := by simpa using h
    simp only [Int.toNat_zero, Nat.zero_mul, Nat.add_zero]
    by_cases h1 : p ≤ A
    · rw [if_pos (.inr h1), hsub A h1 h', show A + (two256 - p) = (A - p) + two256 by omega, Nat.add_mod_right]
      exact Nat.mod_eq_of_lt (by omega)
    · rw [if_neg (by omega)]
      exact (Nat.mod_eq_of_lt (by omega)).symm
  · have h' : A + two256 < 2 * p := by simpa using h
    have h1 : p ≤ A + two256 := by omega
    simp only [Int.toNat_one, Nat.one_mul, true_or, if_true]
    rw [hsub _ h1 h']
    have e : (A + (two256 - p)) % two256 = A + (two256 - p) := Nat.mod_eq_of_lt (by omega)
    omega
theorem onceN_0 {A p : Nat} (hA : A < two256) (hp : Mod p) : onceN A p 0 = A % p := by
  have := onceN_eq (c := 0) hA hp C1_0 (by simp; unfold Mod at hp; omega)
  simpa using this
theorem onceN_lt {A p : Nat} {c : Int} (hA : A < two256) : onceN A p c < two256 := by
  unfold onceN; split
  · exact Nat.mod_lt _ (by decide)
  · exact hA

/-! ### The sum of four words with carry -/
def addL (a0 a1 a2 a3 b0 b1 b2 b3 : Int) : List Value :=
  [.int .u64 (ad a0 b0 0), .int .u64 (ad a1 b1 (ac a0 b0 0)), .int .u64 (ad a2 b2 (ac a1 b1 (ac a0 b0 0))), .int .u64 (ad a3 b3 (ac a2 b2 (ac a1 b1 (ac a0 b0 0))))]
def addC (a0 a1 a2 a3 b0 b1 b2 b3 : Int) : Int := ac a3 b3 (ac a2 b2 (ac a1 b1 (ac a0 b0 0)))
theorem add_fin (A B : Nat) (hA : A < two256) (hB : B < two256) :
    addL (lm A 0) (lm A 1) (lm A 2) (lm A 3) (lm B 0) (lm B 1) (lm B 2) (lm B 3) = numL ((A + B) % two256) ∧
    addC (lm A 0) (lm A 1) (lm A 2) (lm A 3) (lm B 0) (lm B 1) (lm B 2) (lm B 3) = ((A + B) / two256 : Nat) := by
  have eA := lm_val A
  have eB := lm_val B
  rw [Nat.mod_eq_of_lt hA] at eA
  rw [Nat.mod_eq_of_lt hB] at eB
  have a0 := U_lm A 0; have a1 := U_lm A 1; have a2 := U_lm A 2; have a3 := U_lm A 3
  have b0 := U_lm B 0; have b1 := U_lm B 1; have b2 := U_lm B 2; have b3 := U_lm B 3
  unfold addL addC
  generalize lm A 0 = x0 at *; generalize lm A 1 = x1 at *; generalize lm A 2 = x2 at *; generalize lm A 3 = x3 at *
  generalize lm B 0 = y0 at *; generalize lm B 1 = y1 at *; generalize lm B 2 = y2 at *; generalize lm B 3 = y3 at *
  have c0 := C_ac x0 y0 0
  have e0 := ad_eq a0 b0 C1_0
  have u0 := U_ad x0 y0 0
  generalize ac x0 y0 0 = s0 at *; generalize ad x0 y0 0 = d0 at *
  have c1 := C_ac x1 y1 s0
  have e1 := ad_eq a1 b1 c0
  have u1 := U_ad x1 y1 s0
  generalize ac x1 y1 s0 = s1 at *; generalize ad x1 y1 s0 = d1 at *
  have c2 := C_ac x2 y2 s1
  have e2 := ad_eq a2 b2 c1
  have u2 := U_ad x2 y2 s1
  generalize ac x2 y2 s1 = s2 at *; generalize ad x2 y2 s1 = d2 at *
  have c3 := C_ac x3 y3 s2
  have e3 := ad_eq a3 b3 c2
  have u3 := U_ad x3 y3 s2
  generalize ac x3 y3 s2 = s3 at *; generalize ad x3 y3 s2 = d3 at *
  unfold two256 at *
  have key : ((A + B : Nat) : Int) = d0 + d1 * 18446744073709551616 + d2 * 340282366920938463463374607431768211456 + d3 * 6277101735386680763835789423207666416102355444464034512896 + s3 * 115792089237316195423570985008687907853269984665640564039457584007913129639936 := by omega
  have hb : 0 ≤ d0 + d1 * 18446744073709551616 + d2 * 340282366920938463463374607431768211456 + d3 * 6277101735386680763835789423207666416102355444464034512896 ∧ d0 + d1 * 18446744073709551616 + d2 * 340282366920938463463374607431768211456 + d3 * 6277101735386680763835789423207666416102355444464034512896 < 115792089237316195423570985008687907853269984665640564039457584007913129639936 := by unfold U at *; omega
  clear eA eB e0 e1 e2 e3
  refine ⟨numL_of u0 u1 u2 u3 ?_, ?_⟩
  · unfold C1 at *; omega
  · unfold C1 at *; omega
theorem sum_eq {A B p : Nat} (hp : Mod p) (hA : A < p) (hB : B < p) : onceN ((A + B) % two256) p ((A + B) / two256 : Nat) = (A + B) % p := by
  have hpl := hp.2
  have h2 : (A + B) / two256 ≤ 1 := Nat.le_of_lt_succ (Nat.div_lt_of_lt_mul (by omega))
  rw [onceN_eq (Nat.mod_lt _ (by decide)) hp (by unfold C1; generalize (A + B) / two256 = q at *; omega)]
  · congr 1; have := Nat.mod_add_div (A + B) two256; simp only [Int.toNat_natCast]; rw [Nat.mul_comm]; exact this
  · have := Nat.mod_add_div (A + B) two256; simp only [Int.toNat_natCast]; rw [Nat.mul_comm, this]; omega
theorem neg_eq {A p : Nat} (hp : Mod p) (hA : A < p) (h0 : A ≠ 0) : (p + (two256 - A)) % two256 = (p - A) % p := by
  have hpl := hp.2
  rw [show p + (two256 - A) = (p - A) + two256 by omega, Nat.add_mod_right, Nat.mod_eq_of_lt (by omega), Nat.mod_eq_of_lt (by omega)]
end Go.Proofs.Ytmbcolbbekbccaa
