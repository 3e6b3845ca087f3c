/- Numbers as digits: powers. Conditions: as each theorem says. -/
import Derived.Test.YtjmgilhlpohcmaaDgc
namespace Go.Proofs.Ytjmgilhlpohcmaa
open Go Go.RowKit

theorem quoI {k d : Nat} (hk : 0 < k) (hd : 0 < d) (h : k < 4611686018427387904) : IntKind.i64.wrap (((k : Int) - 1).tdiv (d : Int)) = (((k - 1) / d : Nat) : Int) := by
  rw [show (k : Int) - 1 = ((k - 1 : Nat) : Int) by omega, ← Int.ofNat_tdiv]
  have : (k - 1) / d ≤ k - 1 := Nat.div_le_self _ _
  generalize (k - 1) / d = q at *
  exact wr64 (by omega) (by omega)
theorem remI {k d : Nat} (hk : 0 < k) : ((k : Int) - 1).tmod (d : Int) = (((k - 1) % d : Nat) : Int) := by
  rw [show (k : Int) - 1 = ((k - 1 : Nat) : Int) by omega, ← Int.ofNat_tmod]
theorem bit_t {n : Nat} (h : ((n : Int) == 1) = true) : n = 1 := by have := eq_of_beq h; omega
theorem bit_f {n : Nat} (h : ((n : Int) == 1) = false) : n ≠ 1 := fun e => by subst e; cases h
theorem bit_dg (E i : Nat) : dg E (i / 16) / 2 ^ (i % 16) % 2 = E / 2 ^ i % 2 := by
  unfold dg
  have e : (2 : Nat) ^ i = 65536 ^ (i / 16) * 2 ^ (i % 16) := by
    rw [show (65536 : Nat) = 2 ^ 16 from rfl, ← Nat.pow_mul, ← Nat.pow_add]
    congr 1; omega
  rw [e, ← Nat.div_div_eq_div_mul]
  generalize E / 65536 ^ (i / 16) = X
  have h : i % 16 < 16 := Nat.mod_lt _ (by decide)
  generalize i % 16 = r at h
  have e3 : (65536 : Nat) = 2 ^ r * 2 ^ (16 - r) := by rw [← Nat.pow_add, show r + (16 - r) = 16 by omega]
  rw [e3, Nat.mod_mul_right_div_self, show (2 : Nat) ^ (16 - r) = 2 * 2 ^ (15 - r) by rw [← Nat.pow_succ']; congr 1; omega, Nat.mod_mul_right_mod]
theorem bit_and (E i : Nat) : bits .and .u32 ((dg E (i / 16) / 2 ^ (i % 16) : Nat) : Int) 1 = ((E / 2 ^ i % 2 : Nat) : Int) := by
  rw [and1 (Nat.lt_of_le_of_lt (Nat.div_le_self _ _) (Nat.lt_trans (dg_lt _ _) (by decide))), bit_dg]
theorem pow_step (E k : Nat) (hk : 0 < k) : E / 2 ^ (k - 1) = E / 2 ^ k * 2 + E / 2 ^ (k - 1) % 2 := by
  have e1 : E / 2 ^ k = E / 2 ^ (k - 1) / 2 := by
    conv => lhs; rw [show k = k - 1 + 1 by omega]
    rw [Nat.pow_succ, Nat.div_div_eq_div_mul]
  rw [e1]; omega
theorem pow_b0 {A E k p : Nat} (hk : 0 < k) (hb : E / 2 ^ (k - 1) % 2 ≠ 1) : A ^ (E / 2 ^ k) % p * (A ^ (E / 2 ^ k) % p) % p = A ^ (E / 2 ^ (k - 1)) % p := by
  rw [← Nat.mul_mod, ← Nat.pow_add]
  congr 2
  have := pow_step E k hk
  have : E / 2 ^ (k - 1) % 2 = 0 := by omega
  omega
theorem pow_b1 {A E k p : Nat} (hk : 0 < k) (hb : E / 2 ^ (k - 1) % 2 = 1) : A ^ (E / 2 ^ k) % p * (A ^ (E / 2 ^ k) % p) % p * A % p = A ^ (E / 2 ^ (k - 1)) % p := by
  rw [← Nat.mul_mod, ← Nat.pow_add, Nat.mul_mod, Nat.mod_mod, ← Nat.mul_mod, ← Nat.pow_succ]
  congr 2
  have := pow_step E k hk
  omega
theorem one_lt_modN (m : Int) : 1 < modN m := by rcases modN_cases m with h | h <;> rw [h] <;> decide
theorem pow_init (A E : Nat) (m : Int) : A ^ (E / 2 ^ (16 * (digs E).length)) % modN m = 1 := by
  have h1 := digs_lt E
  rw [show (65536 : Nat) = 2 ^ 16 from rfl, ← Nat.pow_mul] at h1
  rw [Nat.div_eq_of_lt h1, Nat.pow_zero, Nat.mod_eq_of_lt (one_lt_modN m)]
theorem len_mod (X : Nat) (m : Int) : (digs (X % modN m)).length < 1000 := by
  have h1 := digs_mono (Nat.le_of_lt (Nat.mod_lt X (mod_modN m).pos))
  have := len_modN m
  omega
end Go.Proofs.Ytjmgilhlpohcmaa
