/- The way over three numbers and the points that it stands for: plain lemmas. Conditions: as each theorem says. -/
import Derived.Test.YtjmgilhlpohcmaaAw7
namespace Go.Proofs.Ytjmgilhlpohcmaa
open Go Go.RowKit
def Rep (t : Tr) : Pt → Prop
  | none => cl t.2.2 = 0
  | some (x, y) => cl t.2.2 ≠ 0 ∧ cl t.1 = x * (cl t.2.2 * cl t.2.2) ∧ cl t.2.1 = y * (cl t.2.2 * cl t.2.2 * cl t.2.2)
def ZL (t : Tr) : Prop := t.2.2 < PP
theorem ZL_0 : ZL (0, 0, 0) := modN_pos 0
theorem tw_m {x y z s : Fp} (h : 2 * y * s = x * x + x * x + x * x - 3) : 3 * ((x * (z * z) - z * z) * (x * (z * z) + z * z)) = 2 * y * s * (z * z * (z * z)) := by grobner
theorem tw_x (x y z s : Fp) : 2 * y * s * (z * z * (z * z)) * (2 * y * s * (z * z * (z * z))) - (4 * (x * (z * z) * (y * (z * z * z) * (y * (z * z * z)))) + 4 * (x * (z * z) * (y * (z * z * z) * (y * (z * z * z))))) =
    (s * s - x - x) * (2 * (y * (z * z * z) * z) * (2 * (y * (z * z * z) * z))) := by grobner
theorem tw_y (x y z s X : Fp) : 2 * y * s * (z * z * (z * z)) * (4 * (x * (z * z) * (y * (z * z * z) * (y * (z * z * z)))) - X * (2 * (y * (z * z * z) * z) * (2 * (y * (z * z * z) * z)))) - 8 * (y * (z * z * z) * (y * (z * z * z)) * (y * (z * z * z) * (y * (z * z * z)))) =
    (s * (x - X) - y) * (2 * (y * (z * z * z) * z) * (2 * (y * (z * z * z) * z)) * (2 * (y * (z * z * z) * z))) := by grobner
theorem mul_ne {a b : Fp} (ha : a ≠ 0) (hb : b ≠ 0) : a * b ≠ 0 := fun h => (fp_mul0 h).elim ha hb
theorem dbl0 {y : Fp} (h : y = - y) : y = 0 := by
  have h2 : 2 * y = 0 := by grobner
  exact (fp_mul0 h2).resolve_left two_ne
theorem neg_0 : - (0 : Fp) = 0 := by grobner
theorem mul_0' (a : Fp) : a * 0 = 0 := by grobner
theorem mul_00 (a b : Fp) : 2 * (a * (0 * b)) = 0 := by grobner
theorem tang2 {x y s : Fp} (h : 2 * y * s + s * s * (x - x) = x * x + x * x + x * x - 3) : 2 * y * s = x * x + x * x + x * x - 3 := by grobner
theorem cl_3 : cl 3 = 3 := rfl
theorem cl_4 : cl 4 = 4 := rfl
theorem cl_8 : cl 8 = 8 := rfl
theorem cl_2 : cl 2 = 2 := rfl
theorem cl_jtwZ (y z : Nat) : cl (jtwZ y z) = 2 * (cl y * cl z) := by rw [jtwZ, cl_fm, cl_fm, cl_2]
theorem cl_jtwX (x y z : Nat) : cl (jtwX x y z) = 3 * ((cl x - cl z * cl z) * (cl x + cl z * cl z)) * (3 * ((cl x - cl z * cl z) * (cl x + cl z * cl z))) - (4 * (cl x * (cl y * cl y)) + 4 * (cl x * (cl y * cl y))) := by
  rw [jtwX]; simp only [cl_fs, cl_fa, cl_fm, cl_3, cl_4]
theorem cl_jtwY (x y z : Nat) : cl (jtwY x y z) = 3 * ((cl x - cl z * cl z) * (cl x + cl z * cl z)) * (4 * (cl x * (cl y * cl y)) - cl (jtwX x y z)) - 8 * (cl y * cl y * (cl y * cl y)) := by
  rw [jtwY]; simp only [cl_fs, cl_fa, cl_fm, cl_3, cl_4, cl_8]
theorem rep_tw {t : Tr} {P : Pt} (h : Rep t P) (hP : onP P) : Rep (jtw t) (aadd P P) := by
  obtain ⟨X, Y, Z⟩ := t
  match P with
  | none =>
    have h0 : cl Z = 0 := h
    show cl (jtwZ Y Z) = 0
    rw [cl_jtwZ, h0, mul_0', mul_0']
  | some (x, y) =>
    obtain ⟨hz, hx, hy⟩ := h
    have hz : cl Z ≠ 0 := hz
    have hx : cl X = x * (cl Z * cl Z) := hx
    have hy : cl Y = y * (cl Z * cl Z * cl Z) := hy
    have hon : onE x y := hP
    rw [aadd_some]
    by_cases hyy : y = - y
    · rw [if_pos ⟨rfl, hyy⟩]
      have h0 := dbl0 hyy
      show cl (jtwZ Y Z) = 0
      rw [cl_jtwZ, hy, h0]
      grobner
    · rw [if_neg fun h => hyy h.2]
      have hn : ¬ (x = x ∧ y = - y) := fun h => hyy h.2
      have hs := tang2 (sl_of hon hon hn).tang
      generalize slope x y x y = s at hs
      have hm := tw_m (z := cl Z) hs
      have eZ : cl (jtwZ Y Z) = 2 * (y * (cl Z * cl Z * cl Z) * cl Z) := by rw [cl_jtwZ, hy]
      have eX : cl (jtwX X Y Z) = (s * s - x - x) * (cl (jtwZ Y Z) * cl (jtwZ Y Z)) := by
        rw [cl_jtwX, eZ, hx, hy, hm, tw_x]
      have eY : cl (jtwY X Y Z) = (s * (x - (s * s - x - x)) - y) * (cl (jtwZ Y Z) * cl (jtwZ Y Z) * cl (jtwZ Y Z)) := by
        rw [cl_jtwY, eX, eZ, hx, hy, hm, tw_y]
      refine ⟨?_, eX, eY⟩
      show cl (jtwZ Y Z) ≠ 0
      rw [eZ]
      have hy0 : y ≠ 0 := fun h => hyy (by rw [h, neg_0])
      exact mul_ne two_ne (mul_ne (mul_ne hy0 (mul_ne (mul_ne hz hz) hz)) hz)
/-! ### Sums -/
theorem ad_h {x1 x2 a b : Fp} : x2 * (b * b) * (a * a) - x1 * (a * a) * (b * b) = (x2 - x1) * (a * b * (a * b)) := by grobner
theorem ad_r {y1 y2 a b : Fp} : y2 * (b * b * b) * (a * a * a) - y1 * (a * a * a) * (b * b * b) = (y2 - y1) * (a * b * (a * b) * (a * b)) := by grobner
theorem ad_u {x1 a b : Fp} : x1 * (a * a) * (b * b) = x1 * (a * b * (a * b)) := by grobner
theorem ad_s {y1 a b : Fp} : y1 * (a * a * a) * (b * b * b) = y1 * (a * b * (a * b) * (a * b)) := by grobner
theorem ad_x (x1 d w s : Fp) : s * d * (w * w * w) * (s * d * (w * w * w)) - d * (w * w) * (d * (w * w) * (d * (w * w))) - (x1 * (w * w) * (d * (w * w) * (d * (w * w))) + x1 * (w * w) * (d * (w * w) * (d * (w * w)))) =
    (s * s - x1 - (x1 + d)) * (d * (w * w) * w * (d * (w * w) * w)) := by grobner
theorem ad_y (x1 y1 d w s X : Fp) : s * d * (w * w * w) * (x1 * (w * w) * (d * (w * w) * (d * (w * w))) - X * (d * (w * w) * w * (d * (w * w) * w))) - y1 * (w * w * w) * (d * (w * w) * (d * (w * w) * (d * (w * w)))) =
    (s * (x1 - X) - y1) * (d * (w * w) * w * (d * (w * w) * w) * (d * (w * w) * w)) := by grobner
theorem sub_d (x1 x2 : Fp) : x1 + (x2 - x1) = x2 := by grobner
theorem sub_0 {a b : Fp} (h : a - b = 0) : b = a := by grobner
theorem rep_add {p q : Tr} {P Q : Pt} (hp : Rep p P) (hq : Rep q Q) (hP : onP P) (hQ : onP Q) (zp : ZL p) (zq : ZL q) : Rep (jad p q) (aadd P Q) := by
  unfold jad
  by_cases h1 : p.2.2 = 0
  · rw [if_pos h1]
    match P with
    | none => rw [none_aadd]; exact hq
    | some (x, y) => exact absurd (by rw [h1]; exact cl_0) hp.1
  rw [if_neg h1]
  by_cases h2 : q.2.2 = 0
  · rw [if_pos h2]
    match Q with
    | none => rw [aadd_none]; exact hp
    | some (x, y) => exact absurd (by rw [h2]; exact cl_0) hq.1
  rw [if_neg h2]
  have n1 : cl p.2.2 ≠ 0 := fun h => h1 ((cl_lt0 zp).1 h)
  have n2 : cl q.2.2 ≠ 0 := fun h => h2 ((cl_lt0 zq).1 h)
  match P, Q with
  | none, _ => exact absurd hp n1
  | some _, none => exact absurd hq n2
  | some (x1, y1), some (x2, y2) =>
    obtain ⟨X1, Y1, Z1⟩ := p
    obtain ⟨X2, Y2, Z2⟩ := q
    obtain ⟨_, hx1, hy1⟩ := hp
    obtain ⟨_, hx2, hy2⟩ := hq
    dsimp only at *
    have o1 : onE x1 y1 := hP
    have o2 : onE x2 y2 := hQ
    have hw : cl Z1 * cl Z2 ≠ 0 := mul_ne n1 n2
    generalize hu : fm X1 (fm Z2 Z2) = u
    generalize hv : fm X2 (fm Z1 Z1) = v
    generalize hs : fm Y1 (fm (fm Z2 Z2) Z2) = s1
    generalize ht : fm Y2 (fm (fm Z1 Z1) Z1) = t1
    have eu : cl u = x1 * (cl Z1 * cl Z2 * (cl Z1 * cl Z2)) := by rw [← hu, cl_fm, cl_fm, hx1, ad_u]
    have es : cl s1 = y1 * (cl Z1 * cl Z2 * (cl Z1 * cl Z2) * (cl Z1 * cl Z2)) := by rw [← hs, cl_fm, cl_fm, cl_fm, hy1, ad_s]
    have eh : cl (fs v u) = (x2 - x1) * (cl Z1 * cl Z2 * (cl Z1 * cl Z2)) := by rw [cl_fs, ← hu, ← hv, cl_fm, cl_fm, cl_fm, cl_fm, hx1, hx2, ad_h]
    have er : cl (fs t1 s1) = (y2 - y1) * (cl Z1 * cl Z2 * (cl Z1 * cl Z2) * (cl Z1 * cl Z2)) := by rw [cl_fs, ← hs, ← ht, cl_fm, cl_fm, cl_fm, cl_fm, cl_fm, cl_fm, hy1, hy2, ad_r]
    have hh : fs v u < PP := fs_lt _ _
    have hr : fs t1 s1 < PP := fs_lt _ _
    generalize fs v u = H at eh hh
    generalize fs t1 s1 = R at er hr
    unfold jad2
    by_cases c1 : H = 0
    · rw [if_pos c1]
      have hx : x1 = x2 := by
        rw [c1, cl_0] at eh
        exact sub_0 ((fp_mul0 eh.symm).resolve_right (mul_ne hw hw))
      by_cases c2 : R = 0
      · rw [if_pos c2]
        have hy : y1 = y2 := by
          rw [c2, cl_0] at er
          exact sub_0 ((fp_mul0 er.symm).resolve_right (mul_ne (mul_ne hw hw) hw))
        subst hx hy
        exact rep_tw (t := (X1, Y1, Z1)) (P := some (x1, y1)) ⟨n1, hx1, hy1⟩ hP
      · rw [if_neg c2]
        have hy : y1 ≠ y2 := fun e => c2 ((cl_lt0 hr).1 (by rw [er, e]; grobner))
        rw [aadd_some, if_pos ⟨hx, (ne_neg o1 o2 hx).resolve_left hy⟩]
        exact cl_0
    · rw [if_neg c1]
      have hd : x2 - x1 ≠ 0 := fun e => c1 ((cl_lt0 hh).1 (by rw [eh, e]; grobner))
      have hn : ¬ (x1 = x2 ∧ y1 = - y2) := fun h => hd (by rw [h.1]; grobner)
      have hc := (sl_of o1 o2 hn).chord
      rw [aadd_some, if_neg hn]
      generalize slope x1 y1 x2 y2 = s at hc
      rw [← hc] at er
      have ez : cl (fm H (fm Z1 Z2)) = (x2 - x1) * (cl Z1 * cl Z2 * (cl Z1 * cl Z2)) * (cl Z1 * cl Z2) := by rw [cl_fm, cl_fm, eh]
      generalize cl Z1 * cl Z2 = w at *
      have ex : cl (fs (fs (fm R R) (fm H (fm H H))) (fa (fm u (fm H H)) (fm u (fm H H)))) = (s * s - x1 - x2) * (cl (fm H (fm Z1 Z2)) * cl (fm H (fm Z1 Z2))) := by
        have k := ad_x x1 (x2 - x1) w s
        rw [sub_d] at k
        rw [ez, ← k]
        simp only [cl_fs, cl_fa, cl_fm, eh, er, eu]
      refine ⟨?_, ex, ?_⟩
      · show cl (fm H (fm Z1 Z2)) ≠ 0
        rw [ez]; exact mul_ne (mul_ne hd (mul_ne hw hw)) hw
      · show cl (fs (fm R (fs (fm u (fm H H)) (fs (fs (fm R R) (fm H (fm H H))) (fa (fm u (fm H H)) (fm u (fm H H)))))) (fm s1 (fm H (fm H H)))) = (s * (x1 - (s * s - x1 - x2)) - y1) * (cl (fm H (fm Z1 Z2)) * cl (fm H (fm Z1 Z2)) * cl (fm H (fm Z1 Z2)))
        rw [cl_fs, cl_fm, cl_fs, ex, ez, ← ad_y]
        simp only [cl_fm, eh, er, eu, es]
/-! ### From points to what the program holds, and back -/
def toA : Pt → Ap
  | none => (0, 0, true)
  | some (x, y) => (x.val, y.val, false)
def ofA (p : Ap) : Pt := bif p.2.2 then none else some (cl p.1, cl p.2.1)
theorem fi_cl (z : Nat) : cl (invV 0 z) = fi (cl z) := cl_inv z
theorem end_x {x z i : Fp} (h : i * z = 1) : x * (z * z) * (i * i) = x := by grobner
theorem end_y {y z i : Fp} (h : i * z = 1) : y * (z * z * z) * (i * i * i) = y := by grobner
theorem val_cl {a : Nat} {x : Fp} (ha : a < PP) (h : cl a = x) : a = x.val := by
  rw [← h, cl_val, Nat.mod_eq_of_lt ha]
theorem rep_end {t : Tr} {P : Pt} (h : Rep t P) : jend t = toA P := by
  unfold jend
  match P with
  | none =>
    have h0 : t.2.2 % modN 0 = 0 := cl_eq0.1 h
    rw [if_pos h0]; rfl
  | some (x, y) =>
    obtain ⟨hz, hx, hy⟩ := h
    have h0 : t.2.2 % modN 0 ≠ 0 := fun e => hz (cl_eq0.2 e)
    rw [if_neg h0]
    have hi := fi_mul hz
    rw [← fi_cl] at hi
    have ex : fm t.1 (fm (invV 0 t.2.2) (invV 0 t.2.2)) = x.val := val_cl (fm_lt _ _) (by rw [cl_fm, cl_fm, hx, end_x hi])
    have ey : fm t.2.1 (fm (fm (invV 0 t.2.2) (invV 0 t.2.2)) (invV 0 t.2.2)) = y.val := val_cl (fm_lt _ _) (by rw [cl_fm, cl_fm, cl_fm, hy, end_y hi])
    rw [ex, ey]; rfl
theorem on_ofA {p : Ap} (h : onT p = true) : onP (ofA p) := by
  obtain ⟨x, y, i⟩ := p
  cases i
  · exact onB_on h
  · trivial
theorem on_toA {P : Pt} (h : onP P) : onT (toA P) = true := by
  match P with
  | none => rfl
  | some (x, y) => exact onB_of x.isLt y.isLt (by show onE (cl x.val) (cl y.val); rw [cl_of, cl_of]; exact h)
theorem toA_ofA {p : Ap} (h : onT p = true) : toA (ofA p) = p := by
  obtain ⟨x, y, i⟩ := p
  cases i
  · have hl := onB_lt h
    show ((cl x).val, (cl y).val, false) = _
    rw [cl_val, cl_val, Nat.mod_eq_of_lt hl.1, Nat.mod_eq_of_lt hl.2]
  · have hz : x = 0 ∧ y = 0 := by
      have : (x == 0 && y == 0) = true := h
      simpa using this
    obtain ⟨rfl, rfl⟩ := hz
    rfl
theorem ofA_toA (P : Pt) : ofA (toA P) = P := by
  match P with
  | none => rfl
  | some (x, y) =>
    show some (cl x.val, cl y.val) = _
    rw [cl_of, cl_of]
theorem mul_11 (x : Fp) : x = x * (1 * 1) := by grobner
theorem mul_111 (x : Fp) : x = x * (1 * 1 * 1) := by grobner
theorem rep_of {p : Ap} : Rep (jof p.1 p.2.1 p.2.2) (ofA p) := by
  obtain ⟨x, y, i⟩ := p
  cases i
  · refine ⟨?_, ?_, ?_⟩
    · exact one_ne
    · exact mul_11 _
    · exact mul_111 _
  · exact cl_0
theorem ZL_jof {x y : Nat} {i : Bool} : ZL (jof x y i) := by
  cases i
  · exact one_lt_modN 0
  · exact ZL_0
theorem ZL_jtw (t : Tr) : ZL (jtw t) := fm_lt _ _
theorem ZL_jad {p q : Tr} (hp : ZL p) (hq : ZL q) : ZL (jad p q) := by
  unfold jad
  split
  · exact hq
  · split
    · exact hp
    · unfold jad2
      split
      · split
        · exact ZL_jtw _
        · exact ZL_0
      · exact fm_lt _ _
theorem ZL_jmul {p : Tr} (hp : ZL p) (n : Nat) : ZL (jmul p n) := by
  rw [jmul]
  split
  · exact ZL_0
  · split
    · exact ZL_jad (ZL_jtw _) hp
    · exact ZL_jtw _
theorem cadd_aff {p q : Ap} (hp : onT p = true) (hq : onT q = true) : cadd p q = toA (aadd (ofA p) (ofA q)) := by
  rw [(cadd_t hp hq).1]
  exact rep_end (rep_add rep_of rep_of (on_ofA hp) (on_ofA hq) ZL_jof ZL_jof)
theorem toA_inj {P Q : Pt} (h : toA P = toA Q) : P = Q := by rw [← ofA_toA P, h, ofA_toA]
theorem neg_val (x : Fp) : fn x.val = (-x).val := val_cl (fn_lt _) (by rw [cl_fn, cl_of])
theorem cneg_aff {p : Ap} (hp : onT p = true) : cneg p = toA (aneg (ofA p)) := by
  rw [(cneg_t hp).1]
  obtain ⟨x, y, i⟩ := p
  cases i
  · have hl := onB_lt hp
    show (x, fn y, false) = ((cl x).val, (- cl y).val, false)
    rw [cl_val, Nat.mod_eq_of_lt hl.1, ← neg_val, cl_val, Nat.mod_eq_of_lt hl.2]
  · have hz : x = 0 ∧ y = 0 := by
      have : (x == 0 && y == 0) = true := hp
      simpa using this
    obtain ⟨rfl, rfl⟩ := hz
    show (0, fn 0, true) = (0, 0, true)
    have : fn 0 = 0 := of_decide_eq_true (by kernel_rfl)
    rw [this]
/-! ### Multiples -/
def smul : Nat → Pt → Pt
  | 0, _ => none
  | n + 1, P => aadd (smul n P) P
theorem on_smul {P : Pt} (h : onP P) : ∀ n, onP (smul n P)
  | 0 => trivial
  | n + 1 => on_add (on_smul h n) h
theorem smul_add {P : Pt} (h : onP P) (m : Nat) : ∀ n, smul (m + n) P = aadd (smul m P) (smul n P)
  | 0 => (aadd_none _).symm
  | n + 1 => by
    show aadd (smul (m + n) P) P = aadd (smul m P) (aadd (smul n P) P)
    rw [smul_add h m n, aassoc (on_smul h m) (on_smul h n) h]
theorem smul_1 (P : Pt) : smul 1 P = P := none_aadd P
theorem smul_none : ∀ n, smul n none = none
  | 0 => rfl
  | n + 1 => by show aadd (smul n none) none = none; rw [smul_none n]; rfl
theorem smul_mul {P : Pt} (h : onP P) (m : Nat) : ∀ n, smul (n * m) P = smul n (smul m P)
  | 0 => by rw [Nat.zero_mul]; rfl
  | n + 1 => by rw [Nat.succ_mul, smul_add h, smul_mul h m n]; rfl
theorem smul_aadd {P Q : Pt} (hP : onP P) (hQ : onP Q) : ∀ n, smul n (aadd P Q) = aadd (smul n P) (smul n Q)
  | 0 => rfl
  | n + 1 => by
    have a := on_smul hP n
    have b := on_smul hQ n
    show aadd (smul n (aadd P Q)) (aadd P Q) = aadd (aadd (smul n P) P) (aadd (smul n Q) Q)
    rw [smul_aadd hP hQ n, aassoc a b (on_add hP hQ), aassoc a hP (on_add b hQ), ← aassoc b hP hQ, ← aassoc hP b hQ, aadd_comm b hP]
theorem rep_mul {t : Tr} {P : Pt} (h : Rep t P) (hP : onP P) (z : ZL t) (n : Nat) : Rep (jmul t n) (smul n P) := by
  induction n using Nat.strongRecOn with
  | ind n ih =>
    by_cases h0 : n = 0
    · subst h0; rw [jmul_0]; exact cl_0
    have hr := ih (n / 2) (Nat.div_lt_self (Nat.pos_of_ne_zero h0) (by decide))
    have h2 := rep_tw hr (on_smul hP _)
    rw [← smul_add hP] at h2
    by_cases hb : n % 2 = 1
    · rw [jmul_1 hb]
      have h3 := rep_add h2 h (on_smul hP _) hP (ZL_jtw _) z
      have e : smul n P = aadd (smul (n / 2 + n / 2) P) P := by
        show _ = smul (n / 2 + n / 2 + 1) P
        congr 1; omega
      rw [e]; exact h3
    · rw [jmul_2 hb]
      have e : n = n / 2 + n / 2 := by omega
      rw [← e] at h2
      exact h2
theorem cmul_aff {p : Ap} (hp : onT p = true) (k : Nat) : cmul k p = toA (smul k (ofA p)) := by
  rw [(cmul_t hp).1]
  exact rep_end (rep_mul rep_of (on_ofA hp) ZL_jof k)
theorem on_cmul {p : Ap} (hp : onT p = true) (k : Nat) : onT (cmul k p) = true := by rw [cmul_aff hp]; exact on_toA (on_smul (on_ofA hp) k)
theorem on_cadd {p q : Ap} (hp : onT p = true) (hq : onT q = true) : onT (cadd p q) = true := by rw [cadd_aff hp hq]; exact on_toA (on_add (on_ofA hp) (on_ofA hq))
theorem on_cneg {p : Ap} (hp : onT p = true) : onT (cneg p) = true := by rw [cneg_aff hp]; exact on_toA (on_neg (on_ofA hp))
/-! ### The group -/
theorem cadd_comm {p q : Ap} (hp : onT p = true) (hq : onT q = true) : cadd p q = cadd q p := by
  rw [cadd_aff hp hq, cadd_aff hq hp, aadd_comm (on_ofA hp) (on_ofA hq)]
theorem cadd_assoc {p q r : Ap} (hp : onT p = true) (hq : onT q = true) (hr : onT r = true) : cadd (cadd p q) r = cadd p (cadd q r) := by
  rw [cadd_aff (on_cadd hp hq) hr, cadd_aff hp hq, cadd_aff hp (on_cadd hq hr), cadd_aff hq hr, ofA_toA, ofA_toA, aassoc (on_ofA hp) (on_ofA hq) (on_ofA hr)]
theorem aadd_aneg {P : Pt} : aadd P (aneg P) = none := by
  match P with
  | none => rfl
  | some (x, y) =>
    show aadd (some (x, y)) (some (x, - y)) = none
    rw [aadd_some, if_pos ⟨rfl, by grobner⟩]
theorem cadd_neg {p : Ap} (hp : onT p = true) : cadd p (cneg p) = (0, 0, true) := by
  rw [cadd_aff hp (on_cneg hp), cneg_aff hp, ofA_toA, aadd_aneg]; rfl
theorem onT_0 : onT (0, 0, true) = true := rfl
theorem cadd_0 {p : Ap} (hp : onT p = true) : cadd p (0, 0, true) = p := by
  rw [cadd_aff hp onT_0, show ofA (0, 0, true) = none from rfl, aadd_none, toA_ofA hp]
theorem cadde_t {p q : Ap} (hp : onT p = true) (hq : onT q = true) : cadde p q = 0 := (cadd_t hp hq).2
end Go.Proofs.Ytjmgilhlpohcmaa
