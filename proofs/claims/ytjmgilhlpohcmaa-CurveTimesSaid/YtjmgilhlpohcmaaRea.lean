/- The document's layer 7: which points there are, and their bytes: plain laws. Conditions: as each theorem says. -/
import Derived.Test.YtjmgilhlpohcmaaRfC
import Derived.Test.YtjmgilhlpohcmaaRdd
import Derived.Test.YtjmgilhlpohcmaaAw7
namespace Go.Proofs.Ytjmgilhlpohcmaa
open Go Go.RowKit
abbrev Pw : Type := W4 × W4 × Bool
/-- A point in words, as three parts; and back. -/
def apT (x : Pw) : Ap := (nv x.1, nv x.2.1, x.2.2)
def ptW (t : Ap) : Pw := (tv t.1, tv t.2.1, t.2.2)
theorem ptW_apT (x : Pw) : ptW (apT x) = x := by simp [ptW, apT, tv_nv]
theorem apT_lt (x : Pw) : (apT x).1 < two256 ∧ (apT x).2.1 < two256 := ⟨nv_lt _, nv_lt _⟩
theorem apT_ptW {t : Ap} (h1 : t.1 < two256) (h2 : t.2.1 < two256) : apT (ptW t) = t := by simp [ptW, apT, nv_tv h1, nv_tv h2]
theorem tv_inj {A B : Nat} (hA : A < two256) (hB : B < two256) (h : tv A = tv B) : A = B := by rw [← nv_tv hA, h, nv_tv hB]
theorem nv_inj {x y : W4} (h : nv x = nv y) : x = y := by rw [← tv_nv x, h, tv_nv]
theorem beq_w4 (x y : W4) : (x == y) = (nv x == nv y) := by
  by_cases h : x = y
  · subst h; simp
  · rw [beq_false_of_ne h, beq_false_of_ne fun e => h (nv_inj e)]
theorem sm0 {a : Nat} (h : a < PP) : small a := small_lt (Nat.lt_trans h PP_lt)
theorem fs_mod (a b : Nat) : (a + (modN 0 - b % modN 0) % modN 0) % modN 0 = fs a b := by rw [fs, Nat.add_mod_mod]
theorem times_ok {a b : Nat} (ha : small a) (hb : small b) : seneschalref07_times_p (ud a) (ud b) = some (ud (fm a b)) := by
  unfold seneschalref07_times_p; rw [product_ok 0 ha hb]; rfl
theorem plus_ok {a b : Nat} (ha : small a) (hb : small b) : seneschalref07_plus_p (ud a) (ud b) = some (ud (fa a b)) := by
  unfold seneschalref07_plus_p; rw [sum_ok 0 ha hb]; rfl
theorem minus_ok {a b : Nat} (ha : small a) (hb : small b) : seneschalref07_minus_p (ud a) (ud b) = some (ud (fs a b)) := by
  unfold seneschalref07_minus_p
  rw [opposite_ok 0 hb]
  simp only [Option.bind_some]
  rw [sum_ok 0 ha (B := (modN 0 - b % modN 0) % modN 0) (sm0 (Nat.mod_lt _ (modN_pos 0))), fs_mod]; rfl
theorem smf (a b : Nat) : small (fm a b) ∧ small (fa a b) ∧ small (fs a b) := ⟨sm0 (fm_lt _ _), sm0 (fa_lt _ _), sm0 (fs_lt _ _)⟩
theorem ud_k {k : Nat} (h0 : k ≠ 0) (h : k < 65536) : ([UInt32.ofNat k] : List UInt32) = ud k := by
  show _ = um (digs k)
  rw [digs_pos h0, Nat.mod_eq_of_lt h, Nat.div_eq_of_lt h, digs_0]; rfl
theorem ud_3 : ([(3 : UInt32)] : List UInt32) = ud 3 := ud_k (by decide) (by decide)
theorem times3_ok {a : Nat} (ha : small a) : seneschalref07_times_p ([(3 : UInt32)] : List UInt32) (ud a) = some (ud (fm 3 a)) := by
  have s3 : small 3 := small_lt (by decide)
  rw [ud_3]; exact times_ok s3 ha
theorem bw_ok : seneschalref07_b_p = some (ud bb) := by
  unfold seneschalref07_b_p
  rw [in_ok]
  simp only [Option.bind_some]
  rw [show nv ((4309448131093880907 : UInt64), (7285987128567378166 : UInt64), (12964664127075681980 : UInt64), (6540974713487397863 : UInt64)) = bb from of_decide_eq_true (by kernel_rfl)]
theorem bb_small : small bb := small_lt (of_decide_eq_true (by kernel_rfl))
theorem ge_ok {x : Nat} (h : x < two256) : Option.bind (seneschalref06_Modulus_p 0) (fun y3 => seneschalref06_Cmp_p (ud x) y3) = some (cmpI x PP) := by
  rw [modulus_ok]
  exact cmp_ok (small_lim (small_lt h)) (small_lim (small_lt PP_lt))
theorem on_ok (x : Pw) : seneschalref07_On_p x = some (onT (apT x)) := by
  obtain ⟨X, Y, i⟩ := x
  unfold seneschalref07_On_p
  show _ = some (onB (nv X) (nv Y) i)
  cases i with
  | true =>
    have z0 : nv ((0 : UInt64), (0 : UInt64), (0 : UInt64), (0 : UInt64)) = 0 := by simp [nv]
    simp only [cond_true]
    rw [onB_inf, beq_w4, beq_w4, z0]
    cases nv X == 0 <;> simp
  | false =>
    have hX := nv_lt X
    have hY := nv_lt Y
    have sX := small_lt hX
    have sY := small_lt hY
    have e1 : ∀ A, A < two256 → decide ((0 : Int) ≤ cmpI A (modN 0)) = decide (PP ≤ A) := fun A _ => decide_eq_decide.2 cmpI_ge
    simp only [cond_false]
    rw [in_ok, in_ok, modulus_ok]
    simp only [Option.bind_some]
    rw [cmp_ok (small_lim sX) (small_lim (small_lt (modN_two 0))), cmp_ok (small_lim sY) (small_lim (small_lt (modN_two 0)))]
    simp only [Option.bind_some]
    rw [e1 _ hX, e1 _ hY]
    unfold onB
    simp only [cond_false]
    by_cases hx : PP ≤ nv X
    · rw [dec_t hx, show decide (nv X < PP) = false from decide_eq_false (by omega)]; simp only [Option.bind_some, cond_true, Bool.false_and]
    · by_cases hy : PP ≤ nv Y
      · rw [dec_f hx, show decide (nv Y < PP) = false from decide_eq_false (by omega), show decide (PP ≤ nv Y) = true from decide_eq_true hy]; simp only [Option.bind_some, cond_true, Bool.false_and, Bool.and_false]
      · rw [dec_f hx, show decide (nv X < PP) = true from decide_eq_true (by omega), show decide (nv Y < PP) = true from decide_eq_true (by omega), show decide (PP ≤ nv Y) = false from decide_eq_false hy]
        simp only [Option.bind_some, cond_false, Bool.true_and]
        rw [bind_ok (times_ok sX sX), bind_ok (times_ok sX (smf _ _).1), bind_ok (times3_ok sX), bind_ok (minus_ok (smf _ _).1 (smf _ _).1), bind_ok bw_ok, bind_ok (plus_ok (smf _ _).2.2 bb_small), bind_ok (times_ok sY sY),
          bind_ok (cmp_ok (small_lim (smf _ _).1) (small_lim (smf _ _).2.1))]
        refine congrArg some ?_
        rw [Bool.eq_iff_iff, beq_iff_eq, beq_iff_eq]; exact cmpI_eq
end Go.Proofs.Ytjmgilhlpohcmaa
