/- The field of the prime P: numbers below it, as a commutative ring with inverses. No condition. -/
import Derived.Test.YtmbcolbbekbccaaNum
namespace Go.Proofs.Ytmbcolbbekbccaa
open Go Go.RowKit

instance : NeZero PP := ⟨by decide⟩
abbrev Fp : Type := Fin PP
/-- The number's class. -/
def cl (a : Nat) : Fp := Fin.ofNat PP a
theorem cl_val (a : Nat) : (cl a).val = a % PP := rfl
theorem cl_eq {a b : Nat} : cl a = cl b ↔ a % PP = b % PP := by
  constructor
  · intro h; exact congrArg Fin.val h
  · intro h; exact Fin.ext h
theorem cl_inj {a b : Nat} (ha : a < PP) (hb : b < PP) (h : cl a = cl b) : a = b := by
  have := cl_eq.1 h
  rwa [Nat.mod_eq_of_lt ha, Nat.mod_eq_of_lt hb] at this
theorem cl_mod (a : Nat) : cl (a % PP) = cl a := cl_eq.2 (Nat.mod_mod _ _)
theorem cl_of (x : Fp) : cl x.val = x := Fin.ext (Nat.mod_eq_of_lt x.isLt)
theorem cl_add (a b : Nat) : cl (a + b) = cl a + cl b := Fin.ext (by rw [cl_val, Fin.val_add, cl_val, cl_val, ← Nat.add_mod])
theorem cl_mul (a b : Nat) : cl (a * b) = cl a * cl b := Fin.ext (by rw [cl_val, Fin.val_mul, cl_val, cl_val, ← Nat.mul_mod])
theorem cl_0 : cl 0 = 0 := rfl
theorem cl_1 : cl 1 = 1 := rfl
theorem cl_PP : cl PP = 0 := cl_eq.2 (by rw [Nat.mod_self, Nat.zero_mod])
theorem cl_neg {a : Nat} (h : a ≤ PP) : cl (PP - a) = - cl a := by
  have e : cl (PP - a) + cl a = 0 := by rw [← cl_add, Nat.sub_add_cancel h, cl_PP]
  grind
theorem cl_eq0 {a : Nat} : cl a = 0 ↔ a % PP = 0 := by
  rw [← cl_0, cl_eq, Nat.zero_mod]
theorem cl_lt0 {a : Nat} (h : a < PP) : cl a = 0 ↔ a = 0 := by rw [cl_eq0, Nat.mod_eq_of_lt h]
theorem fp_mul0 {a b : Fp} (h : a * b = 0) : a = 0 ∨ b = 0 := by
  have h1 : a.val * b.val % PP = 0 := by
    have := congrArg Fin.val h
    rwa [Fin.val_mul] at this
  rcases pr_PP.mul (Nat.dvd_of_mod_eq_zero h1) with h2 | h2
  · left; exact Fin.ext ((Nat.mod_eq_of_lt a.isLt) ▸ Nat.mod_eq_zero_of_dvd h2)
  · right; exact Fin.ext ((Nat.mod_eq_of_lt b.isLt) ▸ Nat.mod_eq_zero_of_dvd h2)
/-- The inverse; of 0 it is 0. -/
def fi (a : Fp) : Fp := cl (a.val ^ (PP - 2))
theorem fi_mul {a : Fp} (h : a ≠ 0) : fi a * a = 1 := by
  have h0 : a.val % PP ≠ 0 := fun e => h (Fin.ext (by rw [Nat.mod_eq_of_lt a.isLt] at e; exact e))
  have e : fi a * a = cl (a.val ^ (PP - 2) * a.val) := by rw [cl_mul, cl_of]; rfl
  rw [e]
  refine cl_eq.2 ?_
  have h2 := pr_PP.1
  rw [← Nat.pow_succ, show (PP - 2).succ = PP - 1 by omega, pr_PP.fermat1 fun hd => h0 (Nat.mod_eq_zero_of_dvd hd)]
  rfl
theorem fi_0 : fi 0 = 0 := by
  have h : 0 < PP - 2 := by have := pr_PP.1; unfold PP; decide
  have e : (0 : Fp).val = 0 := rfl
  unfold fi
  rw [e, Nat.zero_pow h, cl_0]
theorem fp_cancel {a b c : Fp} (hc : c ≠ 0) (h : a * c = b * c) : a = b := by
  have h1 : (a - b) * c = 0 := by grind
  rcases fp_mul0 h1 with h2 | h2
  · grind
  · exact absurd h2 hc
theorem two_ne : (2 : Fp) ≠ 0 := fun h => by
  have : cl 2 = cl 0 := h
  exact absurd (cl_inj (by decide) (by decide) this) (by decide)
theorem fi_one : fi 1 = 1 := by
  have := fi_mul (a := (1 : Fp)) (fun h => by
    have : cl 1 = cl 0 := h
    exact absurd (cl_inj (by decide) (by decide) this) (by decide))
  grind
theorem fi_unique {a i : Fp} (h : i * a = 1) : i = fi a := by
  have ha : a ≠ 0 := fun e => by
    rw [e] at h
    have : cl 0 = cl 1 := by rw [cl_0, cl_1, ← h]; grind
    exact absurd (cl_inj (by decide) (by decide) this) (by decide)
  exact fp_cancel ha (by rw [h, fi_mul ha])
theorem one_ne : (1 : Fp) ≠ 0 := fun h => by
  have : cl 1 = cl 0 := h
  exact absurd (cl_inj (by decide) (by decide) this) (by decide)
end Go.Proofs.Ytmbcolbbekbccaa
