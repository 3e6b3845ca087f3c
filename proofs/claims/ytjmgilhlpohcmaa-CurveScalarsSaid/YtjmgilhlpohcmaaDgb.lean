/- Numbers as digits: halves, products, what is left. Conditions: as each theorem says. -/
import Derived.Test.YtjmgilhlpohcmaaDig
namespace Go.Proofs.Ytjmgilhlpohcmaa
open Go Go.RowKit

theorem half_step {A k c : Nat} {ol : List Nat} (hk : 0 < k) (hkl : k ≤ ol.length) (hc : c = A / 65536 ^ k % 2) (hv : dval (ol.drop k) = A / 65536 ^ k / 2) :
    (c * 65536 + dg A (k - 1)) % 2 = A / 65536 ^ (k - 1) % 2 ∧ dval ((ol.set (k - 1) ((c * 65536 + dg A (k - 1)) / 2)).drop (k - 1)) = A / 65536 ^ (k - 1) / 2 := by
  have e1 : A / 65536 ^ k = A / 65536 ^ (k - 1) / 65536 := by
    conv => lhs; rw [show k = k - 1 + 1 by omega]
    rw [Nat.pow_succ, Nat.div_div_eq_div_mul]
  have e2 : (ol.set (k - 1) ((c * 65536 + dg A (k - 1)) / 2)).drop (k - 1) = ((c * 65536 + dg A (k - 1)) / 2) :: ol.drop k := by
    rw [List.drop_eq_getElem_cons (by rw [List.length_set]; omega)]
    congr 1
    · simp
    · rw [show k - 1 + 1 = k by omega, List.drop_set_of_lt (by omega)]
  rw [e2, dval, hv, hc, e1]
  unfold dg
  generalize A / 65536 ^ (k - 1) = X
  constructor <;> omega
theorem shl16 {c : Nat} (hc : c ≤ 1) : IntKind.u32.wrap ((c : Int) * 2 ^ (min ((16 : Int).toNat) IntKind.u32.bits)) = ((c * 65536 : Nat) : Int) := by
  have e : ((c : Int) * 2 ^ (min ((16 : Int).toNat) IntKind.u32.bits)) = ((c * 65536 : Nat) : Int) := by rw [Int.natCast_mul]; rfl
  rw [e]; exact wrapS rfl (by show c * 65536 < 2 ^ 32; omega)
theorem or16 {c d : Nat} (hc : c ≤ 1) (hd : d < 65536) : bits .or .u32 ((c * 65536 : Nat) : Int) (d : Int) = ((c * 65536 + d : Nat) : Int) :=
  joinN (k := .u32) rfl (n := 16) hd (by show c * 65536 + d < 2 ^ 32; omega)
theorem and1 {n : Nat} (hn : n < 4294967296) : bits .and .u32 (n : Int) 1 = ((n % 2 : Nat) : Int) := maskN (k := .u32) rfl 1 hn (by decide)
theorem shr1 {n : Nat} : (n : Int).fdiv (2 ^ (min ((1 : Int).toNat) IntKind.u32.bits)) = ((n / 2 : Nat) : Int) := shrN (b := 1) (by decide)
theorem odd_some {A : Nat} (_h : 0 < (digs A).length) : ((dg A 0 % 2 : Nat) : Int) = 1 ↔ A % 2 = 1 := by
  unfold dg; rw [Nat.pow_zero, Nat.div_one]; omega
theorem odd_none {A : Nat} (h : ¬ 0 < (digs A).length) : A = 0 := by
  have := digs_lt A
  rw [show (digs A).length = 0 by omega] at this
  simpa using this
theorem rem2 (n : Nat) : (n : Int).tmod 2 = ((n % 2 : Nat) : Int) := (Int.ofNat_tmod n 2).symm

/-! ### Lists out of functions -/
def fl (f : Nat → Nat) (n : Nat) : List Nat := (List.range n).map f
def fup (f : Nat → Nat) (i d : Nat) : Nat → Nat := fun p => if p = i then d else f p
theorem fup_at (f : Nat → Nat) (i d : Nat) : fup f i d i = d := if_pos rfl
theorem fup_ne {f : Nat → Nat} {i d p : Nat} (h : p ≠ i) : fup f i d p = f p := if_neg h
theorem fl_length (f : Nat → Nat) (n : Nat) : (fl f n).length = n := by simp [fl]
theorem fl_succ (f : Nat → Nat) (n : Nat) : fl f (n + 1) = fl f n ++ [f n] := by simp [fl, List.range_succ]
theorem fl_get (f : Nat → Nat) {n i : Nat} (h : i < n) : (fl f n)[i]? = some (f i) := by simp [fl, h]
theorem fl_set (f : Nat → Nat) (n i d : Nat) : (fl f n).set i d = fl (fup f i d) n := by
  apply List.ext_getElem?
  intro j
  by_cases hj : j < n
  · rw [fl_get _ hj]
    by_cases hi : i = j
    · subst hi; simp [fl, hj, fup]
    · rw [List.getElem?_set_ne hi, fl_get _ hj, fup_ne (fun e => hi e.symm)]
  · rw [List.getElem?_eq_none (by simp [fl]; omega), List.getElem?_eq_none (by simp [fl]; omega)]
theorem fl_take (f : Nat → Nat) {n m : Nat} (h : m ≤ n) : (fl f n).take m = fl f m := by simp [fl, ← List.map_take, List.take_range, Nat.min_eq_left h]
theorem DL_fl {f : Nat → Nat} (h : ∀ p, f p < 65536) (n : Nat) : DL (fl f n) := fun d hd => by
  simp only [fl, List.mem_map] at hd
  obtain ⟨i, _, rfl⟩ := hd
  exact h i
theorem fup_lt {f : Nat → Nat} (h : ∀ p, f p < 65536) {i d : Nat} (hd : d < 65536) : ∀ p, fup f i d p < 65536 := fun p => by unfold fup; split; exact hd; exact h p
theorem dval_fl_succ (f : Nat → Nat) (n : Nat) : dval (fl f (n + 1)) = dval (fl f n) + f n * 65536 ^ n := by rw [fl_succ, dval_snoc, fl_length, Nat.mul_comm]
theorem dval_fl_lt {f : Nat → Nat} (h : ∀ p, f p < 65536) (n : Nat) : dval (fl f n) < 65536 ^ n := by have := dval_lt (DL_fl h n); rwa [fl_length] at this
theorem dval_fl_congr {f g : Nat → Nat} {n : Nat} (h : ∀ p, p < n → f p = g p) : dval (fl f n) = dval (fl g n) := by
  induction n with
  | zero => rfl
  | succ n ih => rw [dval_fl_succ, dval_fl_succ, ih (fun p hp => h p (by omega)), h n (by omega)]
theorem dval_fl_up {f : Nat → Nat} {n i d : Nat} (h : i < n) : dval (fl (fup f i d) n) + f i * 65536 ^ i = dval (fl f n) + d * 65536 ^ i := by
  induction n with
  | zero => omega
  | succ n ih =>
    rw [dval_fl_succ, dval_fl_succ]
    by_cases hi : i = n
    · subst hi
      rw [fup_at, dval_fl_congr (g := f) (fun p hp => fup_ne (by omega))]
      omega
    · rw [fup_ne (by omega)]
      have := ih (by omega)
      omega
theorem dval_fl_zero {f : Nat → Nat} {n : Nat} (h : ∀ p, p < n → f p = 0) : dval (fl f n) = 0 := by
  induction n with
  | zero => rfl
  | succ n ih => rw [dval_fl_succ, ih (fun p hp => h p (by omega)), h n (by omega), Nat.zero_mul]
theorem dval_fl_shift {f g : Nat → Nat} {n : Nat} (h : ∀ p, p < n → g (p + 1) = f p) : dval (fl g (n + 1)) = g 0 + 65536 * dval (fl f n) := by
  induction n with
  | zero => simp [fl, dval]
  | succ n ih =>
    rw [dval_fl_succ, ih (fun p hp => h p (by omega)), dval_fl_succ f, h n (by omega), Nat.mul_add, Nat.pow_succ, Nat.add_assoc]
    congr 2
    rw [Nat.mul_comm (65536 ^ n), ← Nat.mul_assoc, ← Nat.mul_assoc, Nat.mul_comm 65536]
theorem u32s_fl (n : Nat) : List.replicate n (Value.int .u32 0) = u32s (fl (fun _ => 0) n) := by
  rw [u32s_rep]; congr 1; simp [fl, List.map_const']
theorem u32s_fl_get (f : Nat → Nat) {n i : Nat} (h : i < n) : (u32s (fl f n))[i]? = some (.int .u32 (f i : Int)) := u32s_get (fl_get f h)
theorem u32s_fl_set (f : Nat → Nat) (n i d : Nat) : (u32s (fl f n)).set i (.int .u32 (d : Int)) = u32s (fl (fup f i d) n) := by rw [u32s_set, fl_set]
theorem u32s_fl_length (f : Nat → Nat) (n : Nat) : (u32s (fl f n)).length = n := by rw [u32s_length, fl_length]
theorem fl_lenp (f g : Nat → Nat) (n : Nat) : (u32s (fl f n)).length = (u32s (fl g n)).length := by rw [u32s_fl_length, u32s_fl_length]
theorem fl_capp (f g : Nat → Nat) (n : Nat) : (u32s (fl f n) ++ []).length = (u32s (fl g n) ++ []).length := by rw [List.append_nil, List.append_nil, fl_lenp]
theorem rd_fl {w : World} {v : Value} {f : Nat → Nat} {n m : Nat} (hm : m ≤ n) (h : Rd w v (((u32s (fl f n)).drop 0).take (m - 0))) : Rd w v (u32s (fl f m)) := by
  rw [List.drop_zero, Nat.sub_zero, u32s_take, fl_take f hm] at h; exact h

/-! ### Mul -/
theorem mul_in {A B i k c n : Nat} {f g : Nat → Nat} (hik : i + k < n) (hv : dval (fl g n) + c * 65536 ^ (i + k) = dval (fl f n) + dg A i * (B % 65536 ^ k) * 65536 ^ i) :
    dval (fl (fup g (i + k) ((c + (g (i + k) + dg A i * dg B k)) % 65536)) n) + (c + (g (i + k) + dg A i * dg B k)) / 65536 * 65536 ^ (i + (k + 1)) = dval (fl f n) + dg A i * (B % 65536 ^ (k + 1)) * 65536 ^ i := by
  have h1 := dval_fl_up (f := g) (d := (c + (g (i + k) + dg A i * dg B k)) % 65536) hik
  have h2 := Nat.div_add_mod (c + (g (i + k) + dg A i * dg B k)) 65536
  rw [mod_succ, Nat.mul_add, Nat.add_mul, show i + (k + 1) = i + k + 1 by omega, Nat.pow_succ (n := 65536) (m := i + k)]
  have h3 : dg A i * (dg B k * 65536 ^ k) * 65536 ^ i = dg A i * dg B k * 65536 ^ (i + k) := by
    rw [Nat.pow_add, ← Nat.mul_assoc, Nat.mul_assoc (dg A i * dg B k), Nat.mul_comm (65536 ^ k)]
  rw [h3]
  generalize hx : (c + (g (i + k) + dg A i * dg B k)) % 65536 = x at *
  generalize hy : (c + (g (i + k) + dg A i * dg B k)) / 65536 = y at *
  generalize dg A i * dg B k = t at *
  generalize 65536 ^ (i + k) = W at *
  have h4 : 65536 * y * W + x * W = c * W + (g (i + k) * W + t * W) := by rw [← Nat.add_mul, h2, Nat.add_mul, Nat.add_mul]
  have h5 : y * (W * 65536) = 65536 * y * W := by rw [Nat.mul_comm W, ← Nat.mul_assoc, Nat.mul_comm y]
  omega
theorem mul_out {A B i c n : Nat} {f g : Nat → Nat} (hn : i + (digs B).length < n) (hg : g (i + (digs B).length) = 0) (hf : dval (fl f n) = A % 65536 ^ i * B)
    (hv : dval (fl g n) + c * 65536 ^ (i + (digs B).length) = dval (fl f n) + dg A i * (B % 65536 ^ (digs B).length) * 65536 ^ i) :
    dval (fl (fup g (i + (digs B).length) c) n) = A % 65536 ^ (i + 1) * B := by
  have h1 := dval_fl_up (f := g) (d := c) hn
  rw [hg, Nat.zero_mul, Nat.add_zero] at h1
  rw [h1, hv, hf, mod_len (Nat.le_refl _), mod_succ, Nat.add_mul, Nat.mul_assoc (dg A i), Nat.mul_assoc (dg A i), Nat.mul_comm B]
theorem mul_bound {c g a b : Nat} (hc : c < 65536) (hg : g < 65536) (ha : a < 65536) (hb : b < 65536) : a * b ≤ 4294836225 ∧ g + a * b < 18446744073709551616 ∧ c + (g + a * b) < 18446744073709551616 ∧ (c + (g + a * b)) / 65536 < 65536 := by
  have : a * b ≤ 65535 * 65535 := Nat.mul_le_mul (by omega) (by omega)
  omega
theorem and16w {n : Nat} (hn : n < 18446744073709551616) : bits .and .u64 (n : Int) 65535 = ((n % 65536 : Nat) : Int) := maskN (k := .u64) rfl 16 hn (by decide)
theorem shr16w {n : Nat} : (n : Int).fdiv (2 ^ (min ((16 : Int).toNat) IntKind.u64.bits)) = ((n / 65536 : Nat) : Int) := shrN (b := 16) (by decide)
theorem u64mul {a b : Nat} (h : a * b < 18446744073709551616) : IntKind.u64.wrap ((a : Int) * (b : Int)) = ((a * b : Nat) : Int) := by rw [← Int.natCast_mul]; exact wrapS rfl h
theorem to64 {d : Nat} (h : d < 65536) : IntKind.u64.wrap (d : Int) = ((d : Nat) : Int) := wrapS rfl (Nat.lt_trans h (by decide))
theorem to32 {d : Nat} (h : d < 65536) : IntKind.u32.wrap (d : Int) = ((d : Nat) : Int) := wrapS rfl (Nat.lt_trans h (by decide))
theorem odd_fin {A : Nat} (h : 0 < (digs A).length) : (((dg A 0 % 2 : Nat) : Int) == 1) = decide (A % 2 = 1) := by rw [Bool.eq_iff_iff]; simp only [beq_iff_eq, decide_eq_true_eq]; exact odd_some h
theorem odd_fin0 {A : Nat} (h : ¬ 0 < (digs A).length) : false = decide (A % 2 = 1) := by rw [odd_none h]; rfl
theorem len_add {a b k : Nat} (ha : (digs a).length ≤ k) (hb : (digs b).length ≤ k) : (digs (a + b)).length ≤ k + 1 := by
  refine digs_len_le ?_
  have h1 := Nat.lt_of_lt_of_le (digs_lt a) (Nat.pow_le_pow_right (by decide) ha)
  have h2 := Nat.lt_of_lt_of_le (digs_lt b) (Nat.pow_le_pow_right (by decide) hb)
  rw [Nat.pow_succ]; omega
theorem lenAdd {a b : Nat} (ha : (digs a).length < 549755813888) (hb : (digs b).length < 549755813888) : (digs (a + b)).length < 1099511627776 :=
  Nat.lt_of_le_of_lt (len_add (k := 549755813888) (by omega) (by omega)) (by decide)
theorem lenAdd2 {a b : Nat} (ha : (digs a).length < 274877906944) (hb : (digs b).length < 274877906944) : (digs (a + b)).length < 549755813888 :=
  Nat.lt_of_le_of_lt (len_add (k := 274877906944) (by omega) (by omega)) (by decide)
end Go.Proofs.Ytjmgilhlpohcmaa
