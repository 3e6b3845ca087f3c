/- Whole numbers of fixed width, as natural ones. Conditions: as each theorem says. -/
import Derived.Test.YtmbcolbbekbccaaStp
namespace Go.Proofs.Ytmbcolbbekbccaa
open Go Go.RowKit

theorem wrapN {k : IntKind} (hk : k.signed = false) (n : Nat) : k.wrap (n : Int) = ((n % 2 ^ k.bits : Nat) : Int) := by
  simp only [IntKind.wrap, hk, Bool.false_and, Bool.false_eq_true, if_false]
  rw [Int.natCast_emod]; congr 1
theorem wrapS {k : IntKind} (hk : k.signed = false) {n : Nat} (hn : n < 2 ^ k.bits) : k.wrap (n : Int) = (n : Int) := by rw [wrapN hk, Nat.mod_eq_of_lt hn]
theorem shrN {n b m : Nat} (h : b ≤ m) : (n : Int).fdiv (2 ^ (min ((b : Int).toNat) m)) = ((n / 2 ^ b : Nat) : Int) := by
  rw [Int.toNat_natCast, Nat.min_eq_left h]
  rw [show ((2 : Int) ^ b) = ((2 ^ b : Nat) : Int) by rw [Int.natCast_pow]; rfl]
  exact (Int.ofNat_fdiv n (2 ^ b)).symm
theorem ofNatBV (k : IntKind) (x : Nat) (hx : x < 2 ^ k.bits) : (BitVec.ofInt k.bits (x : Int)).toNat = x := by
  simp [Nat.mod_eq_of_lt hx]
theorem andN {k : IntKind} (hk : k.signed = false) {x y : Nat} (hx : x < 2 ^ k.bits) (hy : y < 2 ^ k.bits) : bits .and k (x : Int) (y : Int) = ((x &&& y : Nat) : Int) := by
  simp only [bits, BitVec.toNat_and, ofNatBV k x hx, ofNatBV k y hy]
  exact wrapS hk (Nat.lt_of_le_of_lt Nat.and_le_left hx)
theorem orN {k : IntKind} (hk : k.signed = false) {x y : Nat} (hx : x < 2 ^ k.bits) (hy : y < 2 ^ k.bits) : bits .or k (x : Int) (y : Int) = ((x ||| y : Nat) : Int) := by
  simp only [bits, BitVec.toNat_or, ofNatBV k x hx, ofNatBV k y hy]
  exact wrapS hk (Nat.or_lt_two_pow hx hy)
theorem xorN {k : IntKind} (hk : k.signed = false) {x y : Nat} (hx : x < 2 ^ k.bits) (hy : y < 2 ^ k.bits) : bits .xor k (x : Int) (y : Int) = ((x ^^^ y : Nat) : Int) := by
  simp only [bits, BitVec.toNat_xor, ofNatBV k x hx, ofNatBV k y hy]
  exact wrapS hk (Nat.xor_lt_two_pow hx hy)
/-- A mask of the lower n bits. -/
theorem maskN {k : IntKind} (hk : k.signed = false) {x : Nat} (n : Nat) (hx : x < 2 ^ k.bits) (hn : n ≤ k.bits) : bits .and k (x : Int) ((2 ^ n - 1 : Nat) : Int) = ((x % 2 ^ n : Nat) : Int) := by
  have hp : 2 ^ n ≤ 2 ^ k.bits := Nat.pow_le_pow_right (by decide) hn
  have : 0 < 2 ^ n := Nat.pow_pos (by decide)
  rw [andN hk hx (by omega), Nat.and_two_pow_sub_one_eq_mod]
/-- What lies apart is joined by adding. -/
theorem joinN {k : IntKind} (hk : k.signed = false) {x y n : Nat} (hy : y < 2 ^ n) (h : x * 2 ^ n + y < 2 ^ k.bits) : bits .or k ((x * 2 ^ n : Nat) : Int) (y : Int) = ((x * 2 ^ n + y : Nat) : Int) := by
  have h1 : x * 2 ^ n < 2 ^ k.bits := by omega
  have h2 : y < 2 ^ k.bits := by omega
  rw [orN hk h1 h2, Nat.mul_comm x, Nat.two_pow_add_eq_or_of_lt hy]
end Go.Proofs.Ytmbcolbbekbccaa
