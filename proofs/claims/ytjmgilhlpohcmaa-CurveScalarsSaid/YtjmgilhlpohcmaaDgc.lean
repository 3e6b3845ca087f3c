/- Numbers as digits: what is left. Conditions: as each theorem says. -/
import Derived.Test.YtjmgilhlpohcmaaDgb
namespace Go.Proofs.Ytjmgilhlpohcmaa
open Go Go.RowKit

theorem tconv {x : Int} {t : Nat} (h : x = t) (ht : t < 65536) : IntKind.u64.wrap x = (t : Int) := by rw [h]; exact to64 ht
theorem tm_bound {t m : Nat} (ht : t < 65536) (hm : m < 65536) : t * m ≤ 4294836225 := by
  have : t * m ≤ 65535 * 65535 := Nat.mul_le_mul (by omega) (by omega)
  omega
theorem lt_16 {M : Nat} (hM : (digs M).length = 16) : M < 65536 ^ 16 := by have := digs_lt M; rwa [hM] at this
theorem left_step {f g : Nat → Nat} {q t c M : Nat} (hc : c ≤ 131072) (hm : t * dg M q ≤ 4294836225) (hgq : g q < 65536) (he : g q = f q) (hv : dval (fl g q) + t * (M % 65536 ^ q) = dval (fl f q) + c * 65536 ^ q) :
    dval (fl (fup g q ((g q + 1099511627776 - (c + t * dg M q)) % 65536)) (q + 1)) + t * (M % 65536 ^ (q + 1)) = dval (fl f (q + 1)) + (16777216 - (g q + 1099511627776 - (c + t * dg M q)) / 65536) * 65536 ^ (q + 1) := by
  rw [dval_fl_succ, dval_fl_succ, fup_at, dval_fl_congr (g := g) (fun p hp => fup_ne (by omega)), mod_succ, Nat.mul_add, Nat.pow_succ, ← he]
  have hX : g q + 1099511627776 - (c + t * dg M q) + (c + t * dg M q) = g q + 1099511627776 := by omega
  generalize g q + 1099511627776 - (c + t * dg M q) = X at *
  have h1 : c + X % 65536 + t * dg M q = g q + 65536 * (16777216 - X / 65536) := by omega
  generalize 16777216 - X / 65536 = y at *
  generalize X % 65536 = d at *
  have h2 : t * (dg M q * 65536 ^ q) = t * dg M q * 65536 ^ q := by rw [Nat.mul_assoc]
  rw [h2]
  generalize t * dg M q = tm at *
  generalize 65536 ^ q = W at *
  have h3 : c * W + d * W + tm * W = g q * W + y * (W * 65536) := by
    rw [← Nat.add_mul, ← Nat.add_mul, h1, Nat.add_mul, Nat.mul_comm W, ← Nat.mul_assoc, Nat.mul_comm y]
  omega
theorem left_end {f g : Nat → Nat} {q t c M : Nat} (hq : q = 17) (hM : (digs M).length = 16) (hg : ∀ p, g p < 65536) (ht : t * M ≤ dval (fl f 17)) (hv : dval (fl g q) + t * (M % 65536 ^ q) = dval (fl f q) + c * 65536 ^ q) : dval (fl g 17) + t * M = dval (fl f 17) := by
  subst hq
  rw [mod_len (by omega)] at hv
  have h1 := dval_fl_lt hg 17
  revert h1 hv
  generalize 65536 ^ 17 = W
  intro h1 hv
  rcases Nat.eq_zero_or_pos c with rfl | hc
  · omega
  · have : 1 * W ≤ c * W := Nat.mul_le_mul_right _ hc
    omega
theorem left_t1 {f : Nat → Nat} {M : Nat} (h : 0 < f 16 ∨ M ≤ dval (fl f 16)) (h0 : f 16 = 0) : 1 * M ≤ dval (fl f 17) := by
  rw [dval_fl_succ, h0, Nat.zero_mul, Nat.add_zero, Nat.one_mul]; rcases h with h | h
  · omega
  · exact h
theorem left_t2 {f : Nat → Nat} {M : Nat} (hM : (digs M).length = 16) : f 16 * M ≤ dval (fl f 17) := by
  rw [dval_fl_succ]
  exact Nat.le_trans (Nat.mul_le_mul_left (f 16) (Nat.le_of_lt (lt_16 hM))) (Nat.le_add_left _ _)
theorem left_shift {f g : Nat → Nat} {A k M : Nat} (hk : 0 < k) (hM : (digs M).length = 16) (hMp : 0 < M) (hs : ∀ p, 0 < p → p < 17 → g p = f (p - 1)) (hv : dval (fl f 17) = A / 65536 ^ k % M) : dval (fl (fup g 0 (dg A (k - 1))) 17) % M = A / 65536 ^ (k - 1) % M := by
  have h1 := dval_fl_shift (f := f) (g := fup g 0 (dg A (k - 1))) (n := 16) (fun p hp => by rw [fup_ne (by omega), hs (p + 1) (by omega) (by omega)]; rfl)
  have h2 := lt_16 hM
  have h3 : A / 65536 ^ k % M < M := Nat.mod_lt _ hMp
  have h4 : dval (fl f 16) = A / 65536 ^ k % M := by
    rw [dval_fl_succ] at hv
    revert h2 hv
    generalize 65536 ^ 16 = W
    intro hv h2
    rcases Nat.eq_zero_or_pos (f 16) with h | h
    · rw [h] at hv; omega
    · have : 1 * W ≤ f 16 * W := Nat.mul_le_mul_right _ h
      omega
  rw [h1, fup_at, h4, dg]
  have e1 : A / 65536 ^ k = A / 65536 ^ (k - 1) / 65536 := by
    conv => lhs; rw [show k = k - 1 + 1 by omega]
    rw [Nat.pow_succ, Nat.div_div_eq_div_mul]
  rw [e1, Nat.add_mod, Nat.mul_mod, Nat.mod_mod, ← Nat.mul_mod, ← Nat.add_mod, Nat.mod_add_div]
theorem left_mod {a b t M : Nat} (h : a + t * M = b) : a % M = b % M := by rw [← h, Nat.add_mul_mod_self_right]
theorem left_lt {a b t M : Nat} (h : a + t * M = b) (ht : 0 < t) (hM : 0 < M) : a < b := by have := Nat.mul_pos ht hM; omega
theorem left_out {f : Nat → Nat} {M X : Nat} (h0 : f 16 = 0) (hl : dval (fl f 16) < M) (hv : dval (fl f 17) % M = X) : dval (fl f 17) = X := by
  rw [← hv]; exact (Nat.mod_eq_of_lt (by rw [dval_fl_succ, h0, Nat.zero_mul, Nat.add_zero]; exact hl)).symm
theorem len_modN (m : Int) : (digs (modN m)).length = 16 := by
  by_cases h : m = 0
  · rw [digs_modP h]; rfl
  · rw [digs_modN h]; rfl
theorem len_lt {A k : Nat} (h : A < 65536 ^ k) (hk : k ≤ 1000) : (digs A).length ≤ 1000 := Nat.le_trans (digs_len_le h) hk
theorem len_mulB {a b : Nat} (ha : (digs a).length < 1000) (hb : (digs b).length < 1000) : (digs (a * b)).length < 1099511627776 := by
  refine Nat.lt_of_le_of_lt (digs_len_le (k := (digs a).length + (digs b).length) ?_) (by omega)
  rw [Nat.pow_add]
  exact Nat.mul_lt_mul'' (digs_lt a) (digs_lt b)
end Go.Proofs.Ytjmgilhlpohcmaa
