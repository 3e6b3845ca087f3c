/- The order of the group: N times any point is far out. Plain lemmas. No condition. -/
import Derived.Test.YtjmgilhlpohcmaaRep
namespace Go.Proofs.Ytjmgilhlpohcmaa
open Go Go.RowKit
/-! ### Numbers are reckoned out ahead -/
def force {α : Type} (n : Nat) (k : Nat → α) : α := Nat.rec (k 0) (fun m _ => k (m + 1)) n
theorem force_eq {α : Type} (n : Nat) (k : Nat → α) : force n k = k n := by cases n <;> rfl
def stT {α : Type} (t : Tr) (k : Tr → α) : α := force t.1 fun a => force t.2.1 fun b => force t.2.2 fun c => k (a, b, c)
theorem stT_eq {α : Type} (t : Tr) (k : Tr → α) : stT t k = k t := by unfold stT; rw [force_eq, force_eq, force_eq]
/-! ### N times G -/
def jgo (g : Tr) (e : Nat) : Nat → Tr → Tr
  | 0, t => t
  | f + 1, t => stT (jtw t) fun s => bif Nat.beq (e / 2 ^ f % 2) 1 then stT (jad s g) (jgo g e f) else jgo g e f s
theorem bits_up (e f m : Nat) : 2 ^ f * (m + m + e / 2 ^ f % 2) + e % 2 ^ f = 2 ^ (f + 1) * m + e % 2 ^ (f + 1) := by
  rw [Nat.mod_pow_succ, Nat.mul_add, Nat.pow_succ, Nat.mul_assoc, Nat.two_mul, Nat.add_assoc]
  congr 1
  exact Nat.add_comm _ _
theorem rep_go {g : Tr} {P : Pt} {e : Nat} (hg : Rep g P) (hP : onP P) (zg : ZL g) : ∀ (f : Nat) (t : Tr) (m : Nat), Rep t (smul m P) → ZL t → Rep (jgo g e f t) (smul (2 ^ f * m + e % 2 ^ f) P)
  | 0, t, m, h, _ => by
    have : 2 ^ 0 * m + e % 2 ^ 0 = m := by rw [Nat.pow_zero, Nat.one_mul, Nat.mod_one, Nat.add_zero]
    rw [this]; exact h
  | f + 1, t, m, h, z => by
    have h2 := rep_tw h (on_smul hP _)
    rw [← smul_add hP] at h2
    rw [jgo, stT_eq, ← bits_up]
    cases hb : Nat.beq (e / 2 ^ f % 2) 1
    · have h0 : e / 2 ^ f % 2 = 0 := by
        have := Nat.ne_of_beq_eq_false hb
        omega
      rw [h0, Nat.add_zero]
      exact rep_go hg hP zg f _ _ h2 (ZL_jtw _)
    · have h1 : e / 2 ^ f % 2 = 1 := Nat.eq_of_beq_eq_true hb
      rw [h1]
      show Rep (stT (jad (jtw t) g) (jgo g e f)) _
      rw [stT_eq]
      exact rep_go hg hP zg f _ _ (rep_add h2 hg (on_smul hP _) hP (ZL_jtw _) zg) (ZL_jad (ZL_jtw _) zg)
def PG : Pt := ofA GG
theorem on_PG : onP PG := on_ofA onT_GG
theorem PG_ne : PG ≠ none := fun h => by cases h
theorem go_NG : (Nat.beq (jgo (GX, GY, 1) (modN 1) 256 (0, 0, 0)).2.2 0) = true := by kernel_rfl
theorem rep_G : Rep (GX, GY, 1) PG := rep_of (p := GG)
theorem ZL_G : ZL (GX, GY, 1) := ZL_jof (x := GX) (y := GY) (i := false)
theorem rep_0 (P : Pt) : Rep (0, 0, 0) (smul 0 P) := cl_0
theorem rep_none {t : Tr} {P : Pt} (h : Rep t P) (h0 : t.2.2 = 0) : P = none := by
  match P with
  | none => rfl
  | some (x, y) => exact absurd (by rw [h0]; exact cl_0) h.1
theorem rep_go0 {g : Tr} {P : Pt} {e f : Nat} (hg : Rep g P) (hP : onP P) (zg : ZL g) (he : e < 2 ^ f) : Rep (jgo g e f (0, 0, 0)) (smul e P) := by
  have h := rep_go (e := e) hg hP zg f (0, 0, 0) 0 (rep_0 _) ZL_0
  rw [Nat.mul_zero, Nat.zero_add, Nat.mod_eq_of_lt he] at h
  exact h
attribute [local irreducible] jgo
theorem go_0 {g : Tr} {P : Pt} {e f : Nat} (hg : Rep g P) (hP : onP P) (zg : ZL g) (he : e < 2 ^ f) (h : Nat.beq (jgo g e f (0, 0, 0)).2.2 0 = true) : smul e P = none :=
  rep_none (rep_go0 hg hP zg he) (Nat.eq_of_beq_eq_true h)
theorem N_lt : modN 1 < 2 ^ 256 := (mod_modN 1).lt
theorem smul_NG : smul (modN 1) PG = none := by
  refine go_0 (g := (GX, GY, 1)) (f := 256) ?_ ?_ ?_ ?_ ?_
  · exact rep_G
  · exact on_PG
  · exact ZL_G
  · exact N_lt
  · exact go_NG
theorem smul_kG {k : Nat} (h0 : 0 < k) (hk : k < modN 1) : smul k PG ≠ none := fun h => by
  have hi := inv_mul (m := 1) (A := k) (by rw [Nat.mod_eq_of_lt hk]; omega)
  have e := Nat.div_add_mod (k * invV 1 k) (modN 1)
  rw [hi] at e
  have h1 : smul (k * invV 1 k) PG = none := by rw [Nat.mul_comm, smul_mul on_PG, h, smul_none]
  rw [← e, smul_add on_PG, Nat.mul_comm, smul_mul on_PG, smul_NG, smul_none, smul_1] at h1
  exact PG_ne h1
/-! ### No point is its own opposite -/
def q3 (s t : Tr) : Tr :=
  ((s.1 * t.1 + (PP - bb) * (s.2.1 * t.2.2 + s.2.2 * t.2.1)) % PP,
   (s.1 * t.2.1 + s.2.1 * t.1 + 3 * (s.2.1 * t.2.2 + s.2.2 * t.2.1) + (PP - bb) * (s.2.2 * t.2.2)) % PP,
   (s.1 * t.2.2 + s.2.1 * t.2.1 + s.2.2 * t.1 + 3 * (s.2.2 * t.2.2)) % PP)
def evq (s : Tr) (x : Fp) : Fp := cl s.1 + cl s.2.1 * x + cl s.2.2 * (x * x)
theorem bb_le : bb ≤ PP := by decide
theorem q3_id (a0 a1 a2 b0 b1 b2 x b : Fp) (hx : x * (x * x) - 3 * x + b = 0) :
    (a0 * b0 + -b * (a1 * b2 + a2 * b1)) + (a0 * b1 + a1 * b0 + 3 * (a1 * b2 + a2 * b1) + -b * (a2 * b2)) * x + (a0 * b2 + a1 * b1 + a2 * b0 + 3 * (a2 * b2)) * (x * x) =
    (a0 + a1 * x + a2 * (x * x)) * (b0 + b1 * x + b2 * (x * x)) := by grobner
theorem q3_ev {x : Fp} (hx : x * (x * x) - 3 * x + fb = 0) (s t : Tr) : evq (q3 s t) x = evq s x * evq t x := by
  unfold evq q3
  simp only [cl_mod, cl_add, cl_mul, cl_neg bb_le, cl_3]
  exact q3_id _ _ _ _ _ _ _ _ hx
def qgo (e : Nat) : Nat → Tr → Tr
  | 0, t => t
  | f + 1, t => stT (q3 t t) fun s => bif Nat.beq (e / 2 ^ f % 2) 1 then stT (q3 s (0, 1, 0)) (qgo e f) else qgo e f s
theorem ev_X (x : Fp) : evq (0, 1, 0) x = x := by
  show cl 0 + cl 1 * x + cl 0 * (x * x) = x
  rw [cl_0, cl_1]; grobner
theorem lin_a (a x : Fp) : a + 0 * x + 0 * (x * x) = a := by grobner
theorem ev_1 (x : Fp) : evq (1, 0, 0) x = 1 := by
  show cl 1 + cl 0 * x + cl 0 * (x * x) = 1
  rw [cl_0, cl_1]; exact lin_a _ _
theorem ev_go {x : Fp} {e : Nat} (hx : x * (x * x) - 3 * x + fb = 0) : ∀ (f : Nat) (t : Tr) (m : Nat), evq t x = cl (x.val ^ m) → evq (qgo e f t) x = cl (x.val ^ (2 ^ f * m + e % 2 ^ f))
  | 0, t, m, h => by
    have : 2 ^ 0 * m + e % 2 ^ 0 = m := by rw [Nat.pow_zero, Nat.one_mul, Nat.mod_one, Nat.add_zero]
    rw [this]; exact h
  | f + 1, t, m, h => by
    have h2 : evq (q3 t t) x = cl (x.val ^ (m + m)) := by rw [q3_ev hx, h, Nat.pow_add, cl_mul]
    rw [qgo, stT_eq, ← bits_up]
    cases hb : Nat.beq (e / 2 ^ f % 2) 1
    · have h0 : e / 2 ^ f % 2 = 0 := by
        have := Nat.ne_of_beq_eq_false hb
        omega
      rw [h0, Nat.add_zero]
      exact ev_go hx f _ _ h2
    · have h1 : e / 2 ^ f % 2 = 1 := Nat.eq_of_beq_eq_true hb
      rw [h1]
      show evq (stT (q3 (q3 t t) (0, 1, 0)) (qgo e f)) x = _
      rw [stT_eq]
      refine ev_go hx f _ _ ?_
      rw [q3_ev hx, h2, ev_X, Nat.pow_succ, cl_mul, cl_of]
def qU : Tr := (76626890310466861426869089647039036757962535851890885406097439786770458211455, 74462945259064871768191128030512052509059297803194871526163573358218695456204, 34768139465301476436978405170953382516735956999154666452188405812258086013549)
def qR : Tr := qgo PP 256 (1, 0, 0)
def qG : Tr := (qR.1, qR.2.1 + (PP - 1), qR.2.2)
def teq (a b : Tr) : Bool := Nat.beq a.1 b.1 && Nat.beq a.2.1 b.2.1 && Nat.beq a.2.2 b.2.2
theorem teq_eq {a b : Tr} (h : teq a b = true) : a = b := by
  unfold teq at h
  simp only [Bool.and_eq_true] at h
  exact Prod.ext (Nat.eq_of_beq_eq_true h.1.1) (Prod.ext (Nat.eq_of_beq_eq_true h.1.2) (Nat.eq_of_beq_eq_true h.2))
theorem qU_1 : teq (stT qR fun r => q3 qU (r.1, r.2.1 + (PP - 1), r.2.2)) (1, 0, 0) = true := by kernel_rfl
theorem qU_G : q3 qU qG = (1, 0, 0) := by
  have h := teq_eq qU_1
  rw [stT_eq] at h
  exact h
theorem one_le_PP : 1 ≤ PP := by decide
theorem ev_lin (a b c x : Fp) (h : a + b * x + c * (x * x) = x) : a + (b + -1) * x + c * (x * x) = 0 := by grobner
theorem ev_sub {r : Tr} {x : Fp} (e : evq r x = x) : evq (r.1, r.2.1 + (PP - 1), r.2.2) x = 0 := by
  unfold evq at e
  show cl r.1 + cl (r.2.1 + (PP - 1)) * x + cl r.2.2 * (x * x) = 0
  rw [cl_add, cl_neg one_le_PP, cl_1]
  exact ev_lin _ _ _ _ e
theorem ev_P {x : Fp} {e f : Nat} (hx : x * (x * x) - 3 * x + fb = 0) (he : e < 2 ^ f) : evq (qgo e f (1, 0, 0)) x = cl (x.val ^ e) := by
  have h := ev_go (e := e) hx f (1, 0, 0) 0 (by rw [ev_1, Nat.pow_zero, cl_1])
  rw [Nat.mul_zero, Nat.zero_add, Nat.mod_eq_of_lt he] at h
  exact h
attribute [local irreducible] qgo
theorem no_root {x : Fp} (hx : x * (x * x) - 3 * x + fb = 0) : False := by
  have h1 : cl (x.val ^ PP) = x := by
    have : cl (x.val ^ PP) = cl x.val := cl_eq.2 (pr_PP.fermat _)
    rw [this, cl_of]
  have h : evq qR x = x := (ev_P (f := 256) hx PP_lt).trans h1
  have h2 : evq qG x = 0 := ev_sub h
  have h3 := q3_ev hx qU qG
  rw [qU_G, h2, ev_1, mul_0'] at h3
  exact one_ne h3
theorem on_0 {x : Fp} (h : onE x 0) : x * (x * x) - 3 * x + fb = 0 := by unfold onE at h; grobner
theorem dbl_none {P : Pt} (h : onP P) (h2 : aadd P P = none) : P = none := by
  match P with
  | none => rfl
  | some (x, y) =>
    rw [aadd_some] at h2
    by_cases hy : y = - y
    · have hon : onE x y := h
      rw [dbl0 hy] at hon
      exact (no_root (on_0 hon)).elim
    · rw [if_neg fun e => hy e.2] at h2
      cases h2
/-! ### Counting -/
theorem pigeon : ∀ (m : Nat) (f : Nat → Nat), (∀ i, i < m + 1 → f i < m) → ∃ i j, i < j ∧ j < m + 1 ∧ f i = f j
  | 0, f, h => absurd (h 0 (by omega)) (by omega)
  | m + 1, f, h => by
    by_cases hex : ∃ i, i < m + 1 ∧ f i = f (m + 1)
    · obtain ⟨i, hi, he⟩ := hex
      exact ⟨i, m + 1, hi, by omega, he⟩
    have hne : ∀ i, i < m + 1 → f i ≠ f (m + 1) := fun i hi he => hex ⟨i, hi, he⟩
    obtain ⟨i, j, hij, hj, he⟩ := pigeon m (fun i => if f i = m then f (m + 1) else f i) (fun i hi => by
      have h1 := h i (by omega)
      have h2 := h (m + 1) (by omega)
      have h3 := hne i hi
      split <;> omega)
    have hi' := hne i (by omega)
    have hj' := hne j hj
    refine ⟨i, j, hij, by omega, ?_⟩
    split at he <;> split at he <;> omega
def code : Pt → Nat
  | none => 2 * PP
  | some (x, y) => 2 * x.val + y.val % 2
theorem code_lt (P : Pt) : code P < 2 * PP + 1 := by
  match P with
  | none => show 2 * PP < _; omega
  | some (x, y) =>
    show 2 * x.val + y.val % 2 < _
    have := x.isLt
    omega
theorem neg_odd {y : Fp} (h : y ≠ 0) : (-y).val = PP - y.val := by
  have hy : y.val ≠ 0 := fun e => h (Fin.ext e)
  have h1 : - y = cl (PP - y.val) := by rw [cl_neg (Nat.le_of_lt y.isLt), cl_of]
  rw [h1, cl_val, Nat.mod_eq_of_lt]
  have := y.isLt
  omega
theorem PP_odd : PP % 2 = 1 := by decide
theorem code_inj {P Q : Pt} (hP : onP P) (hQ : onP Q) (h : code P = code Q) : P = Q := by
  match P, Q with
  | none, none => rfl
  | none, some (x, y) =>
    have h : 2 * PP = 2 * x.val + y.val % 2 := h
    have := x.isLt
    omega
  | some (x, y), none =>
    have h : 2 * x.val + y.val % 2 = 2 * PP := h
    have := x.isLt
    omega
  | some (x, y), some (u, v) =>
    have h : 2 * x.val + y.val % 2 = 2 * u.val + v.val % 2 := h
    have hx : x = u := Fin.ext (by omega)
    rcases ne_neg (y1 := y) (y2 := v) hP hQ hx with e | e
    · rw [hx, e]
    · by_cases hv : v = 0
      · rw [hx, e, hv, neg_0]
      · have h1 := neg_odd hv
        rw [← e] at h1
        have := v.isLt
        have := PP_odd
        omega
/-! ### All points are multiples of G -/
theorem lcancel {P Q R : Pt} (hP : onP P) (hQ : onP Q) (hR : onP R) (h : aadd P Q = aadd P R) : Q = R := by
  rw [← acancel hP hQ, h, acancel hP hR]
theorem N_big : 2 * PP + 2 ≤ 3 * modN 1 := by decide
theorem N_odd : modN 1 % 2 = 1 := by decide
theorem smul_Nm (c : Nat) : smul (modN 1 * c) PG = none := by rw [Nat.mul_comm, smul_mul on_PG, smul_NG, smul_none]
theorem half_c (N c : Nat) (h : N % 2 = 1) (hN : 0 < N) : ∃ d e, d + d = c + N * c ∧ d + e = N * (d + 1) := by
  have hM : (N + 1) / 2 + (N + 1) / 2 = N + 1 := by omega
  generalize (N + 1) / 2 = M at hM
  refine ⟨c * M, N * (c * M + 1) - c * M, ?_, ?_⟩
  · rw [← Nat.mul_add, hM, Nat.mul_add, Nat.mul_one, Nat.add_comm, Nat.mul_comm]
  · generalize c * M = d
    have : d ≤ N * (d + 1) := Nat.le_trans (Nat.le_succ d) (Nat.le_mul_of_pos_left _ hN)
    omega
theorem sum_half (N c d e : Nat) (hd : d + d = c + N * c) (he : d + e = N * (d + 1)) : c + (e + e) + N * c = N * (d + 1 + (d + 1)) := by rw [Nat.mul_add]; omega
theorem cyc2 {Q : Pt} (hQ : onP Q) {c : Nat} (h : aadd Q Q = smul c PG) : ∃ d, Q = smul d PG := by
  obtain ⟨d, e, hd, he⟩ := half_c (modN 1) c N_odd (modN_pos 1)
  have oe := on_smul on_PG e
  have od := on_smul on_PG d
  have hD : aadd (aadd Q (smul e PG)) (aadd Q (smul e PG)) = none := by
    rw [aassoc hQ oe (on_add hQ oe), ← aassoc oe hQ oe, aadd_comm oe hQ, aassoc hQ oe oe, ← aassoc hQ hQ (on_add oe oe), h, ← smul_add on_PG, ← smul_add on_PG]
    have e1 := sum_half (modN 1) c d e hd he
    have h2 : smul (c + (e + e) + modN 1 * c) PG = none := by rw [e1, smul_Nm]
    rw [smul_add on_PG, smul_Nm, aadd_none] at h2
    exact h2
  have h0 := dbl_none (on_add hQ oe) hD
  refine ⟨d, ?_⟩
  have h1 : aadd (aadd Q (smul e PG)) (smul d PG) = smul d PG := by rw [h0, none_aadd]
  rw [aassoc hQ oe od, ← smul_add on_PG, Nat.add_comm e d, he, smul_Nm, aadd_none] at h1
  exact h1
theorem cyc {Q : Pt} (hQ : onP Q) : ∃ c, Q = smul c PG := by
  have hN := modN_pos 1
  obtain ⟨i, j, hij, hj, he⟩ := pigeon (2 * PP + 1) (fun i => code (aadd (smul (i / modN 1) Q) (smul (i % modN 1) PG))) (fun i _ => code_lt _)
  have hj3 : j < 3 * modN 1 := Nat.lt_of_lt_of_le hj N_big
  have og := fun k => on_smul on_PG k
  have oq := fun k => on_smul hQ k
  have h := code_inj (on_add (oq _) (og _)) (on_add (oq _) (og _)) he
  have hr := Nat.mod_lt i hN
  have hs := Nat.mod_lt j hN
  have ei := Nat.div_add_mod i (modN 1)
  have ej := Nat.div_add_mod j (modN 1)
  have hab : i / modN 1 ≤ j / modN 1 := Nat.div_le_div_right (Nat.le_of_lt hij)
  have hb : j / modN 1 < 3 := (Nat.div_lt_iff_lt_mul hN).2 hj3
  generalize i / modN 1 = a at *
  generalize j / modN 1 = b at *
  generalize i % modN 1 = r at *
  generalize j % modN 1 = s at *
  by_cases hEq : a = b
  · subst hEq
    have h1 := lcancel (oq a) (og r) (og s) h
    have hrs : r < s := by omega
    have e : s = r + (s - r) := by omega
    rw [e, smul_add on_PG] at h1
    have h2 := lcancel (og r) (og (s - r)) (show onP none from trivial) (by rw [← h1, aadd_none])
    exact absurd h2 (smul_kG (by omega) (by omega))
  · have e : b = a + (b - a) := by omega
    rw [e, smul_add hQ, aassoc (oq a) (oq _) (og s)] at h
    have h1 := lcancel (oq a) (og r) (on_add (oq _) (og s)) h
    have h2 : smul (r + (modN 1 - s)) PG = smul (b - a) Q := by
      rw [smul_add on_PG, h1, aassoc (oq _) (og s) (og _), ← smul_add on_PG, show s + (modN 1 - s) = modN 1 by omega, smul_NG, aadd_none]
    have hd : b - a = 1 ∨ b - a = 2 := by omega
    rcases hd with hd | hd
    · rw [hd, smul_1] at h2
      exact ⟨_, h2.symm⟩
    · rw [hd] at h2
      refine cyc2 hQ (c := r + (modN 1 - s)) ?_
      rw [h2]
      show _ = aadd (smul 1 Q) Q
      rw [smul_1]
/-- N times any point of the curve is far out. -/
theorem smul_N {Q : Pt} (hQ : onP Q) : smul (modN 1) Q = none := by
  obtain ⟨c, rfl⟩ := cyc hQ
  rw [← smul_mul on_PG, smul_Nm]
theorem smul_mod {Q : Pt} (hQ : onP Q) (k : Nat) : smul (k % modN 1) Q = smul k Q := by
  have e := Nat.div_add_mod k (modN 1)
  have h : smul (modN 1 * (k / modN 1) + k % modN 1) Q = smul (k % modN 1) Q := by
    rw [smul_add hQ, Nat.mul_comm, smul_mul hQ, smul_N hQ, smul_none, none_aadd]
  rw [← h, e]
theorem cmul_N {p : Ap} (hp : onT p = true) : cmul (modN 1) p = (0, 0, true) := by
  rw [cmul_aff hp, smul_N (on_ofA hp)]; rfl
theorem cmul_add {p : Ap} (hp : onT p = true) (a b : Nat) : cadd (cmul a p) (cmul b p) = cmul ((a + b) % modN 1) p := by
  rw [cadd_aff (on_cmul hp a) (on_cmul hp b), cmul_aff hp, cmul_aff hp, cmul_aff hp, ofA_toA, ofA_toA, smul_mod (on_ofA hp), smul_add (on_ofA hp)]
theorem cmul_mul {p : Ap} (hp : onT p = true) (a b : Nat) : cmul (a * b % modN 1) p = cmul a (cmul b p) := by
  rw [cmul_aff (on_cmul hp b), cmul_aff hp, cmul_aff hp, ofA_toA, smul_mod (on_ofA hp), smul_mul (on_ofA hp)]
end Go.Proofs.Ytjmgilhlpohcmaa
