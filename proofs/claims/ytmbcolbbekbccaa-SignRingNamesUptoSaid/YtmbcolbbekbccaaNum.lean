/- Primes: Fermat's theorem, Pocklington's test, and that both moduli are primes. No condition. -/
import Derived.Test.YtmbcolbbekbccaaFm
namespace Go.Proofs.Ytmbcolbbekbccaa
open Go Go.RowKit

def Pr (p : Nat) : Prop := 2 ≤ p ∧ ∀ d, d ∣ p → d = 1 ∨ d = p
theorem Pr.cop {p a : Nat} (h : Pr p) (ha : ¬ p ∣ a) : Nat.Coprime p a := by
  rcases h.2 _ (Nat.gcd_dvd_left p a) with h1 | h1
  · exact h1
  · exact absurd (h1 ▸ Nat.gcd_dvd_right p a) ha
theorem Pr.mul {p a b : Nat} (h : Pr p) (hab : p ∣ a * b) : p ∣ a ∨ p ∣ b := by
  by_cases ha : p ∣ a
  · exact .inl ha
  · exact .inr ((h.cop ha).dvd_of_dvd_mul_left hab)
/-! ### The binomial theorem -/
def chs : Nat → Nat → Nat
  | _, 0 => 1
  | 0, _ + 1 => 0
  | n + 1, k + 1 => chs n k + chs n (k + 1)
theorem chs_0 (n : Nat) : chs n 0 = 1 := by cases n <;> rfl
theorem chs_gt : ∀ {n k : Nat}, n < k → chs n k = 0
  | _, 0, h => absurd h (Nat.not_lt_zero _)
  | 0, _ + 1, _ => rfl
  | n + 1, k + 1, h => by rw [chs, chs_gt (by omega), chs_gt (by omega)]
theorem chs_self : ∀ n : Nat, chs n n = 1
  | 0 => rfl
  | n + 1 => by rw [chs, chs_self n, chs_gt (by omega)]
theorem chs_mul : ∀ n k : Nat, (k + 1) * chs (n + 1) (k + 1) = (n + 1) * chs n k
  | 0, 0 => rfl
  | 0, k + 1 => by rw [chs_gt (by omega), chs_gt (by omega)]; simp
  | n + 1, 0 => by
    have h := chs_mul n 0
    have e : chs (n + 1 + 1) (0 + 1) = chs (n + 1) 0 + chs (n + 1) (0 + 1) := rfl
    rw [chs_0] at h
    rw [e, chs_0]
    omega
  | n + 1, k + 1 => by
    have h1 := chs_mul n k
    have h2 := chs_mul n (k + 1)
    rw [show chs (n + 1 + 1) (k + 1 + 1) = chs (n + 1) (k + 1) + chs (n + 1) (k + 1 + 1) from rfl, Nat.mul_add, h2, show (k + 1 + 1) * chs (n + 1) (k + 1) = (k + 1) * chs (n + 1) (k + 1) + chs (n + 1) (k + 1) by rw [Nat.succ_mul], h1,
      show chs (n + 1) (k + 1) = chs n k + chs n (k + 1) from rfl]
    rw [show n + 1 + 1 = (n + 1) + 1 from rfl, Nat.succ_mul (n + 1), Nat.mul_add]
    omega
def sm (f : Nat → Nat) : Nat → Nat
  | 0 => 0
  | n + 1 => sm f n + f n
theorem sm_congr {f g : Nat → Nat} : ∀ {n : Nat}, (∀ i, i < n → f i = g i) → sm f n = sm g n
  | 0, _ => rfl
  | n + 1, h => by rw [sm, sm, sm_congr fun i hi => h i (by omega), h n (by omega)]
theorem sm_add (f g : Nat → Nat) : ∀ n : Nat, sm (fun i => f i + g i) n = sm f n + sm g n
  | 0 => rfl
  | n + 1 => by rw [sm, sm, sm, sm_add f g n]; omega
theorem sm_mul (f : Nat → Nat) (c : Nat) : ∀ n : Nat, sm (fun i => c * f i) n = c * sm f n
  | 0 => rfl
  | n + 1 => by rw [sm, sm, sm_mul f c n, Nat.mul_add]
theorem sm_head (f : Nat → Nat) : ∀ n : Nat, sm f (n + 1) = f 0 + sm (fun i => f (i + 1)) n
  | 0 => by simp [sm]
  | n + 1 => by rw [sm, sm_head f n, sm]; omega
theorem binom (a : Nat) : ∀ n : Nat, (a + 1) ^ n = sm (fun k => chs n k * a ^ k) (n + 1)
  | 0 => by simp [sm, chs]
  | n + 1 => by
    have h1 := sm_head (fun k => chs (n + 1) k * a ^ k) (n + 1)
    have h2 : sm (fun i => chs (n + 1) (i + 1) * a ^ (i + 1)) (n + 1) = sm (fun i => a * (chs n i * a ^ i) + chs n (i + 1) * a ^ (i + 1)) (n + 1) := sm_congr fun i _ => by
      show (chs n i + chs n (i + 1)) * a ^ (i + 1) = _
      rw [Nat.add_mul, Nat.pow_succ, Nat.mul_comm (a ^ i) a, Nat.mul_left_comm]
    rw [sm_add, sm_mul] at h2
    have h3 := sm_head (fun k => chs n k * a ^ k) (n + 1)
    have h4 : sm (fun k => chs n k * a ^ k) (n + 1 + 1) = sm (fun k => chs n k * a ^ k) (n + 1) + 0 := by
      rw [sm, chs_gt (by omega : n < n + 1), Nat.zero_mul]
    simp only [chs_0, Nat.pow_zero] at h1 h3
    rw [Nat.pow_succ, binom a n, h1, h2, Nat.mul_add, Nat.mul_one, Nat.mul_comm]
    omega
theorem sm_dvd {p : Nat} {f : Nat → Nat} : ∀ {n : Nat}, (∀ i, i < n → p ∣ f i) → p ∣ sm f n
  | 0, _ => ⟨0, rfl⟩
  | n + 1, h => Nat.dvd_add (sm_dvd fun i hi => h i (by omega)) (h n (by omega))
theorem Pr.chs {p k : Nat} (h : Pr p) (hk : k + 1 < p) : p ∣ chs p (k + 1) := by
  obtain ⟨q, rfl⟩ : ∃ q, p = q + 1 := ⟨p - 1, by have := h.1; omega⟩
  have h1 := chs_mul q k
  have h2 : q + 1 ∣ (k + 1) * Go.Proofs.Ytmbcolbbekbccaa.chs (q + 1) (k + 1) := ⟨_, h1⟩
  rcases h.mul h2 with h3 | h3
  · exact absurd (Nat.le_of_dvd (by omega) h3) (by omega)
  · exact h3
theorem Pr.dream {p : Nat} (h : Pr p) (a : Nat) : (a + 1) ^ p % p = (a ^ p + 1) % p := by
  obtain ⟨q, rfl⟩ : ∃ q, p = q + 1 := ⟨p - 1, by have := h.1; omega⟩
  rw [binom, sm, sm_head, chs_0, chs_self]
  obtain ⟨c, hc⟩ := sm_dvd (p := q + 1) (f := fun i => Go.Proofs.Ytmbcolbbekbccaa.chs (q + 1) (i + 1) * a ^ (i + 1)) (n := q) (fun i hi => Nat.dvd_trans (h.chs (by omega)) ⟨_, rfl⟩)
  rw [hc, show 1 * a ^ 0 + (q + 1) * c + 1 * a ^ (q + 1) = (a ^ (q + 1) + 1) + (q + 1) * c by simp; omega, Nat.add_mul_mod_self_left]
/-- **Fermat.** -/
theorem Pr.fermat {p : Nat} (h : Pr p) : ∀ a : Nat, a ^ p % p = a % p
  | 0 => by rw [Nat.zero_pow (by have := h.1; omega)]
  | a + 1 => by rw [h.dream, Nat.add_mod, h.fermat a, ← Nat.add_mod]
theorem dvd_sub_of_mod {p a b : Nat} (h : a % p = b % p) : p ∣ a - b := by
  by_cases hab : b ≤ a
  · exact (Nat.dvd_iff_mod_eq_zero).2 (Nat.sub_mod_eq_zero_of_mod_eq h)
  · rw [Nat.sub_eq_zero_of_le (by omega)]; exact ⟨0, rfl⟩
theorem Pr.fermat1 {p a : Nat} (h : Pr p) (ha : ¬ p ∣ a) : a ^ (p - 1) % p = 1 := by
  have h1 := h.fermat a
  have hp := h.1
  have h2 : a ^ p = a * a ^ (p - 1) := by rw [← Nat.pow_succ']; congr 1; omega
  have h3 : p ∣ a * (a ^ (p - 1) - 1) := by
    rw [Nat.mul_sub, Nat.mul_one, ← h2]; exact dvd_sub_of_mod h1
  have h4 := (h.mul h3).resolve_left ha
  have h5 : 0 < a := Nat.pos_of_ne_zero fun h0 => ha (h0 ▸ ⟨0, rfl⟩)
  have h6 : 0 < a ^ (p - 1) := Nat.pow_pos h5
  obtain ⟨c, hc⟩ := h4
  have h7 : a ^ (p - 1) = 1 + p * c := by omega
  rw [h7, Nat.add_mul_mod_self_left, Nat.mod_eq_of_lt (by omega)]
/-! ### Pocklington's test -/
theorem pow_gcd {a d x y : Nat} (hx : a ^ x % d = 1 % d) (hy : a ^ y % d = 1 % d) : a ^ (Nat.gcd x y) % d = 1 % d := by
  induction x, y using Nat.gcd.induction with
  | H0 n => rw [Nat.gcd_zero_left]; exact hy
  | H1 m n hm ih =>
    rw [Nat.gcd_rec]
    refine ih ?_ hx
    have h1 : a ^ n = (a ^ m) ^ (n / m) * a ^ (n % m) := by rw [← Nat.pow_mul, ← Nat.pow_add, Nat.div_add_mod]
    rw [h1, Nat.mul_mod, Nat.pow_mod, hx, ← Nat.pow_mod, Nat.one_pow, ← Nat.mul_mod, Nat.one_mul] at hy
    exact hy
theorem exists_prime : ∀ (n : Nat), 2 ≤ n → ∃ p, Pr p ∧ p ∣ n := by
  intro n
  induction n using Nat.strongRecOn with
  | _ n ih =>
    intro h2
    by_cases h : Pr n
    · exact ⟨n, h, Nat.dvd_refl _⟩
    · have : ∃ d, d ∣ n ∧ d ≠ 1 ∧ d ≠ n := by
        refine Classical.byContradiction fun hn => h ⟨h2, fun d hd => ?_⟩
        by_cases h1 : d = 1
        · exact .inl h1
        · exact .inr (Classical.byContradiction fun h3 => hn ⟨d, hd, h1, h3⟩)
      obtain ⟨d, hd, h1, h3⟩ := this
      have hle := Nat.le_of_dvd (by omega) hd
      have h0 : d ≠ 0 := fun h0 => by subst h0; have := Nat.eq_zero_of_zero_dvd hd; omega
      obtain ⟨p, hp, hpd⟩ := ih d (by omega) (by omega)
      exact ⟨p, hp, Nat.dvd_trans hpd hd⟩
/-- No divisor below the root. -/
theorem prime_of {n : Nat} (h2 : 2 ≤ n) (h : ∀ d, Pr d → d ∣ n → n < d * d) : Pr n := by
  refine ⟨h2, fun d hd => ?_⟩
  by_cases h1 : d = 1
  · exact .inl h1
  by_cases h3 : d = n
  · exact .inr h3
  exfalso
  obtain ⟨e, he⟩ := hd
  have hd0 : d ≠ 0 := fun h0 => by subst h0; simp at he; omega
  have he0 : e ≠ 0 := fun h0 => by subst h0; simp at he; omega
  have he1 : e ≠ 1 := fun h0 => by subst h0; simp at he; omega
  obtain ⟨p, hp, hpd⟩ := exists_prime d (by omega)
  obtain ⟨q, hq, hqe⟩ := exists_prime e (by omega)
  have hp2 := h p hp (Nat.dvd_trans hpd ⟨e, he⟩)
  have hq2 := h q hq (Nat.dvd_trans hqe ⟨d, by rw [he, Nat.mul_comm]⟩)
  have hp3 := Nat.le_of_dvd (by omega) hpd
  have hq3 := Nat.le_of_dvd (by omega) hqe
  have h4 : n < d * d := Nat.lt_of_lt_of_le hp2 (Nat.mul_le_mul hp3 hp3)
  have h5 : n < e * e := Nat.lt_of_lt_of_le hq2 (Nat.mul_le_mul hq3 hq3)
  rw [he] at h4 h5
  have h6 := Nat.lt_of_mul_lt_mul_left h4
  have h7 := Nat.lt_of_mul_lt_mul_right h5
  omega
def pm (a n : Nat) : Nat → Nat → Nat
  | 0, _ => 1 % n
  | f + 1, e => if e = 0 then 1 % n else if e % 2 = 1 then (pm a n f (e / 2)) ^ 2 * a % n else (pm a n f (e / 2)) ^ 2 % n
theorem pm_eq (a n : Nat) : ∀ (f e : Nat), e < 2 ^ f → pm a n f e = a ^ e % n
  | 0, e, h => by
    obtain rfl : e = 0 := by omega
    rfl
  | f + 1, e, h => by
    rw [pm]
    split
    · next h0 => subst h0; rfl
    · have hd : e / 2 < 2 ^ f := by rw [Nat.pow_succ] at h; omega
      rw [pm_eq a n f _ hd]
      have hm := Nat.div_add_mod e 2
      split
      · next h1 =>
        have e1 : e / 2 * 2 + 1 = e := by omega
        rw [← Nat.mod_mul_mod, ← Nat.pow_mod, Nat.mod_mul_mod, ← Nat.pow_mul, ← Nat.pow_succ]
        show a ^ (e / 2 * 2 + 1) % n = _
        rw [e1]
      · next h1 =>
        have e1 : e / 2 * 2 = e := by omega
        rw [← Nat.pow_mod, ← Nat.pow_mul, e1]
def pl : List Nat → Nat
  | [] => 1
  | q :: l => q * pl l
theorem pock {n : Nat} (a : Nat) (l : List Nat) (R f : Nat) (h2 : 2 ≤ n) (hl : ∀ q ∈ l, Pr q) (hF : pl l * R + 1 = n) (hs : n < pl l * pl l) (hf : n < 2 ^ f) (h1 : pm a n f (n - 1) = 1)
    (hg : l.all (fun q => Nat.gcd (pm a n f ((n - 1) / q) + n - 1) n == 1) = true) : Pr n := by
  refine prime_of h2 fun d hd hdn => ?_
  have hd2 := hd.1
  have hdv : ∀ x, x % n % d = x % d := fun x => Nat.mod_mod_of_dvd x hdn
  rw [pm_eq _ _ _ _ (by omega)] at h1
  have hy : a ^ (n - 1) % d = 1 % d := by rw [← hdv, h1]
  have had : ¬ d ∣ a := fun h => by
    have h3 : a ^ (n - 1) % d = 0 := by rw [Nat.pow_mod, Nat.mod_eq_zero_of_dvd h, Nat.zero_pow (by omega), Nat.zero_mod]
    rw [hy, Nat.mod_eq_of_lt (by omega)] at h3
    exact absurd h3 (by decide)
  have hx : a ^ (d - 1) % d = 1 % d := by rw [hd.fermat1 had, Nat.mod_eq_of_lt (by omega)]
  have hG := pow_gcd hx hy
  obtain ⟨h, hh⟩ := Nat.gcd_dvd_right (d - 1) (n - 1)
  have key : ∀ q ∈ l, ¬ q ∣ h := by
    intro q hq hqh
    obtain ⟨c, hc⟩ := hqh
    have hq0 : 0 < q := by have := (hl q hq).1; omega
    have h3 : (n - 1) / q = Nat.gcd (d - 1) (n - 1) * c := by
      rw [hh, hc, show Nat.gcd (d - 1) (Nat.gcd (d - 1) (n - 1) * (q * c)) = Nat.gcd (d - 1) (n - 1) by rw [← hc, ← hh], Nat.mul_left_comm, Nat.mul_div_cancel_left _ hq0]
    have h4 : a ^ ((n - 1) / q) % d = 1 % d := by rw [h3, Nat.pow_mul, Nat.pow_mod, hG, ← Nat.pow_mod, Nat.one_pow]
    have h5 := List.all_eq_true.1 hg q hq
    rw [pm_eq _ _ _ _ (by have := Nat.div_le_self (n - 1) q; omega)] at h5
    have h6 : d ∣ a ^ ((n - 1) / q) % n + n - 1 := by
      have h7 : (a ^ ((n - 1) / q) % n) % d = 1 % d := by rw [hdv, h4]
      rw [Nat.mod_eq_of_lt (show 1 < d by omega)] at h7
      have h8 : 1 ≤ a ^ ((n - 1) / q) % n := by
        rcases Nat.eq_zero_or_pos (a ^ ((n - 1) / q) % n) with h0 | h0
        · rw [h0, Nat.zero_mod] at h7; exact absurd h7 (by decide)
        · exact h0
      have h9 : d ∣ a ^ ((n - 1) / q) % n - 1 := dvd_sub_of_mod (by rw [h7, Nat.mod_eq_of_lt (by omega)])
      have := Nat.dvd_add h9 hdn
      rwa [show a ^ ((n - 1) / q) % n - 1 + n = a ^ ((n - 1) / q) % n + n - 1 by omega] at this
    have h10 := Nat.dvd_gcd h6 hdn
    rw [beq_iff_eq.1 h5] at h10
    have := Nat.le_of_dvd (by decide) h10
    omega
  have hcop : ∀ l : List Nat, (∀ q ∈ l, Pr q) → (∀ q ∈ l, ¬ q ∣ h) → Nat.Coprime (pl l) h := by
    intro l
    induction l with
    | nil => intro _ _; exact Nat.coprime_one_left _
    | cons q l ih => intro hp hk; exact Nat.Coprime.mul_left ((hp q (by simp)).cop (hk q (by simp))) (ih (fun q hq => hp q (by simp [hq])) (fun q hq => hk q (by simp [hq])))
  have hFg : pl l ∣ Nat.gcd (d - 1) (n - 1) := by
    refine (hcop l hl key).dvd_of_dvd_mul_right (m := Nat.gcd (d - 1) (n - 1)) ?_
    rw [← hh]; exact ⟨R, by omega⟩
  have hFd : pl l ∣ d - 1 := Nat.dvd_trans hFg (Nat.gcd_dvd_left _ _)
  have hle := Nat.le_of_dvd (by omega) hFd
  exact Nat.lt_of_lt_of_le hs (Nat.mul_le_mul (by omega) (by omega))
/-- By trial. -/
def trial (n : Nat) : Nat → Nat → Bool
  | 0, _ => false
  | f + 1, d => if n < d * d then true else if n % d = 0 then false else trial n f (d + 1)
theorem trial_ok {n : Nat} : ∀ (f d : Nat), trial n f d = true → (∀ e, 2 ≤ e → e < d → ¬ e ∣ n) → ∀ e, 2 ≤ e → e ∣ n → n < e * e
  | 0, d, h, _ => by simp [trial] at h
  | f + 1, d, h, hd => by
    rw [trial] at h
    split at h
    · next h1 =>
      intro e he hen
      rcases Nat.lt_or_ge e d with h2 | h2
      · exact absurd hen (hd e he h2)
      · exact Nat.lt_of_lt_of_le h1 (Nat.mul_le_mul h2 h2)
    · split at h
      · cases h
      · next h1 h2 =>
        refine trial_ok f (d + 1) h fun e he hlt hen => ?_
        rcases Nat.lt_or_ge e d with h3 | h3
        · exact hd e he h3 hen
        · obtain rfl : e = d := by omega
          exact h2 (Nat.mod_eq_zero_of_dvd hen)
theorem trial_pr {n : Nat} (f : Nat) (h2 : 2 ≤ n) (h : trial n f 2 = true) : Pr n :=
  prime_of h2 fun d hd hdn => trial_ok f 2 h (fun e h1 h2 => absurd h1 (by omega)) d hd.1 hdn
/-! ### The moduli are primes -/
theorem pr_197 : Pr 197 := trial_pr 19 (by decide) (by kernel_rfl)
theorem pr_3677 : Pr 3677 := trial_pr 65 (by decide) (by kernel_rfl)
theorem pr_66417393611 : Pr 66417393611 := by
  refine pock 2 [3677, 197] 91690 256 (by decide) ?_ (by kernel_rfl) (by decide) (by decide) (by kernel_rfl) (by kernel_rfl)
  intro q hq
  simp only [List.mem_cons, List.not_mem_nil, or_false] at hq
  rcases hq with rfl | rfl
  · exact pr_3677
  · exact pr_197
theorem pr_11290956913871 : Pr 11290956913871 := by
  refine pock 2 [66417393611] 170 256 (by decide) ?_ (by kernel_rfl) (by decide) (by decide) (by kernel_rfl) (by kernel_rfl)
  intro q hq
  simp only [List.mem_cons, List.not_mem_nil, or_false] at hq
  rcases hq with rfl
  · exact pr_66417393611
theorem pr_704251 : Pr 704251 := trial_pr 844 (by decide) (by kernel_rfl)
theorem pr_78283 : Pr 78283 := trial_pr 284 (by decide) (by kernel_rfl)
theorem pr_46076956964474543 : Pr 46076956964474543 := by
  refine pock 2 [704251, 78283] 835774 256 (by decide) ?_ (by kernel_rfl) (by decide) (by decide) (by kernel_rfl) (by kernel_rfl)
  intro q hq
  simp only [List.mem_cons, List.not_mem_nil, or_false] at hq
  rcases hq with rfl | rfl
  · exact pr_704251
  · exact pr_78283
theorem pr_774023187263532362759620327192479577272145303 : Pr 774023187263532362759620327192479577272145303 := by
  refine pock 2 [46076956964474543, 11290956913871] 1487782449629334 256 (by decide) ?_ (by kernel_rfl) (by decide) (by decide) (by kernel_rfl) (by kernel_rfl)
  intro q hq
  simp only [List.mem_cons, List.not_mem_nil, or_false] at hq
  rcases hq with rfl | rfl
  · exact pr_46076956964474543
  · exact pr_11290956913871
theorem pr_835945042244614951780389953367877943453916927241 : Pr 835945042244614951780389953367877943453916927241 := by
  refine pock 2 [774023187263532362759620327192479577272145303] 1080 256 (by decide) ?_ (by kernel_rfl) (by decide) (by decide) (by kernel_rfl) (by kernel_rfl)
  intro q hq
  simp only [List.mem_cons, List.not_mem_nil, or_false] at hq
  rcases hq with rfl
  · exact pr_774023187263532362759620327192479577272145303
theorem pr_115792089210356248762697446949407573530086143415290314195533631308867097853951 : Pr 115792089210356248762697446949407573530086143415290314195533631308867097853951 := by
  refine pock 2 [835945042244614951780389953367877943453916927241] 138516389665330497628477975950 256 (by decide) ?_ (by kernel_rfl) (by decide) (by decide) (by kernel_rfl) (by kernel_rfl)
  intro q hq
  simp only [List.mem_cons, List.not_mem_nil, or_false] at hq
  rcases hq with rfl
  · exact pr_835945042244614951780389953367877943453916927241
theorem pr_104471 : Pr 104471 := trial_pr 328 (by decide) (by kernel_rfl)
theorem pr_3969899 : Pr 3969899 := by
  refine pock 2 [104471] 38 256 (by decide) ?_ (by kernel_rfl) (by decide) (by decide) (by kernel_rfl) (by kernel_rfl)
  intro q hq
  simp only [List.mem_cons, List.not_mem_nil, or_false] at hq
  rcases hq with rfl
  · exact pr_104471
theorem pr_1002328039319 : Pr 1002328039319 := by
  refine pock 2 [3969899] 252482 256 (by decide) ?_ (by kernel_rfl) (by decide) (by decide) (by kernel_rfl) (by kernel_rfl)
  intro q hq
  simp only [List.mem_cons, List.not_mem_nil, or_false] at hq
  rcases hq with rfl
  · exact pr_3969899
theorem pr_3023 : Pr 3023 := trial_pr 59 (by decide) (by kernel_rfl)
theorem pr_155317 : Pr 155317 := trial_pr 399 (by decide) (by kernel_rfl)
theorem pr_191039911 : Pr 191039911 := by
  refine pock 2 [155317] 1230 256 (by decide) ?_ (by kernel_rfl) (by decide) (by decide) (by kernel_rfl) (by kernel_rfl)
  intro q hq
  simp only [List.mem_cons, List.not_mem_nil, or_false] at hq
  rcases hq with rfl
  · exact pr_155317
theorem pr_208150935158385979 : Pr 208150935158385979 := by
  refine pock 2 [191039911, 3023] 360426 256 (by decide) ?_ (by kernel_rfl) (by decide) (by decide) (by kernel_rfl) (by kernel_rfl)
  intro q hq
  simp only [List.mem_cons, List.not_mem_nil, or_false] at hq
  rcases hq with rfl | rfl
  · exact pr_191039911
  · exact pr_3023
theorem pr_2624747550333869278416773953 : Pr 2624747550333869278416773953 := by
  refine pock 2 [208150935158385979] 12609828288 256 (by decide) ?_ (by kernel_rfl) (by decide) (by decide) (by kernel_rfl) (by kernel_rfl)
  intro q hq
  simp only [List.mem_cons, List.not_mem_nil, or_false] at hq
  rcases hq with rfl
  · exact pr_208150935158385979
theorem pr_115792089210356248762697446949407573529996955224135760342422259061068512044369 : Pr 115792089210356248762697446949407573529996955224135760342422259061068512044369 := by
  refine pock 2 [2624747550333869278416773953, 1002328039319] 44013050614219118277426053354358264624 256 (by decide) ?_ (by kernel_rfl) (by decide) (by decide) (by kernel_rfl) (by kernel_rfl)
  intro q hq
  simp only [List.mem_cons, List.not_mem_nil, or_false] at hq
  rcases hq with rfl | rfl
  · exact pr_2624747550333869278416773953
  · exact pr_1002328039319
theorem pr_PP : Pr PP := pr_115792089210356248762697446949407573530086143415290314195533631308867097853951
theorem pr_NN : Pr NN := pr_115792089210356248762697446949407573529996955224135760342422259061068512044369
theorem pr_modN (m : Int) : Pr (modN m) := by
  rcases modN_cases m with h | h <;> rw [h]
  · exact pr_PP
  · exact pr_NN
end Go.Proofs.Ytmbcolbbekbccaa
