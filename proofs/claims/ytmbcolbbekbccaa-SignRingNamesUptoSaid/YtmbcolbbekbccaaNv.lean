/- Numbers of four words, and points of such, as values. Conditions: as each theorem says. -/
import Derived.Test.YtmbcolbbekbccaaCrv
import Derived.Test.YtmbcolbbekbccaaPlb
namespace Go.Proofs.Ytmbcolbbekbccaa
open Go Go.RowKit
abbrev W4 : Type := UInt64 × UInt64 × UInt64 × UInt64
/-- The number of four words, and the words of a number. -/
def nv (x : W4) : Nat := x.1.toNat + 2 ^ 64 * (x.2.1.toNat + 2 ^ 64 * (x.2.2.1.toNat + 2 ^ 64 * x.2.2.2.toNat))
def tv (A : Nat) : W4 := (UInt64.ofNat (A / 2 ^ (64 * 0)), UInt64.ofNat (A / 2 ^ (64 * 1)), UInt64.ofNat (A / 2 ^ (64 * 2)), UInt64.ofNat (A / 2 ^ (64 * 3)))
theorem nv_lt (x : W4) : nv x < two256 := by
  have h0 := x.1.toNat_lt; have h1 := x.2.1.toNat_lt; have h2 := x.2.2.1.toNat_lt; have h3 := x.2.2.2.toNat_lt
  unfold nv two256; omega
def wd (x : W4) (i : Nat) : UInt64 := if i = 0 then x.1 else if i = 1 then x.2.1 else if i = 2 then x.2.2.1 else x.2.2.2
theorem nv_wd (x : W4) {i : Nat} (hi : i < 4) : nv x / 2 ^ (64 * i) % 2 ^ 64 = (wd x i).toNat := by
  have h0 := x.1.toNat_lt; have h1 := x.2.1.toNat_lt; have h2 := x.2.2.1.toNat_lt; have h3 := x.2.2.2.toNat_lt
  rcases (by omega : i = 0 ∨ i = 1 ∨ i = 2 ∨ i = 3) with rfl | rfl | rfl | rfl <;> simp only [wd, nv, if_true, if_false, Nat.reduceMul, Nat.reducePow, Nat.reduceEqDiff, Nat.div_one] <;> first | omega | (simp; omega)
theorem wd_get (x : W4) {i : Nat} {j : Int} (hj : j = (i : Int)) (hi : i < 4) : idx ([x.1, x.2.1, x.2.2.1, x.2.2.2] : List UInt64) j = some (wd x i) := by
  subst hj
  rw [idx_nat]
  rcases (by omega : i = 0 ∨ i = 1 ∨ i = 2 ∨ i = 3) with rfl | rfl | rfl | rfl <;> rfl
theorem tv_nv (x : W4) : tv (nv x) = x := by
  have e : ∀ (i : Nat) (u : UInt64), nv x / 2 ^ (64 * i) % 2 ^ 64 = u.toNat → UInt64.ofNat (nv x / 2 ^ (64 * i)) = u := fun i u h => by
    apply UInt64.toNat_inj.1
    rw [← h]; simp [UInt64.toNat_ofNat']
  unfold tv
  rw [e 0 _ (nv_wd x (by decide)), e 1 _ (nv_wd x (by decide)), e 2 _ (nv_wd x (by decide)), e 3 _ (nv_wd x (by decide))]
  rfl
theorem wd_tv (A : Nat) {i : Nat} (hi : i < 4) : wd (tv A) i = UInt64.ofNat (A / 2 ^ (64 * i)) := by
  rcases (by omega : i = 0 ∨ i = 1 ∨ i = 2 ∨ i = 3) with rfl | rfl | rfl | rfl <;> rfl
theorem nv_tv {A : Nat} (h : A < two256) : nv (tv A) = A := by
  unfold two256 at h
  simp only [nv, tv, UInt64.toNat_ofNat', Nat.reduceMul, Nat.reducePow, Nat.div_one]
  omega
abbrev Pw : Type := W4 × W4 × Bool
/-- A point in words, as three parts; and back. -/
def apT (x : Pw) : Ap := (nv x.1, nv x.2.1, x.2.2)
def ptW (t : Ap) : Pw := (tv t.1, tv t.2.1, t.2.2)
theorem ptW_apT (x : Pw) : ptW (apT x) = x := by simp [ptW, apT, tv_nv]
theorem apT_lt (x : Pw) : (apT x).1 < two256 ∧ (apT x).2.1 < two256 := ⟨nv_lt _, nv_lt _⟩
theorem apT_ptW {t : Ap} (h1 : t.1 < two256) (h2 : t.2.1 < two256) : apT (ptW t) = t := by simp [ptW, apT, nv_tv h1, nv_tv h2]
theorem tv_inj {A B : Nat} (hA : A < two256) (hB : B < two256) (h : tv A = tv B) : A = B := by rw [← nv_tv hA, h, nv_tv hB]
theorem nv_inj {x y : W4} (h : nv x = nv y) : x = y := by rw [← tv_nv x, h, tv_nv]
theorem beq_w4 (x y : W4) : (x == y) = (nv x == nv y) := by
  by_cases h : x = y
  · subst h; simp
  · rw [beq_false_of_ne h, beq_false_of_ne fun e => h (nv_inj e)]
end Go.Proofs.Ytmbcolbbekbccaa
