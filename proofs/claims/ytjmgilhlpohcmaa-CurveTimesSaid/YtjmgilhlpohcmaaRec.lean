/- The document's layer 7: multiples, bit by bit, and with one division at the end: plain laws. Conditions: as each theorem says. -/
import Derived.Test.YtjmgilhlpohcmaaRfE
import Derived.Test.YtjmgilhlpohcmaaReb
namespace Go.Proofs.Ytjmgilhlpohcmaa
open Go Go.RowKit
/-! ### Bits -/
theorem bit_ok {K i : Nat} {j : Int} (hj : j = (i : Int)) (hi : i < 16 * (digs K).length) (hl : (digs K).length ≤ 1000) : ∃ d : UInt32, idx (ud K) (w64 (Int.tdiv j 16)) = some d ∧ chk (decide (0 ≤ Int.tmod j 16)) = some () ∧
    (((((i32 (shrI .u32 ((d).toNat : Int) (Int.tmod j 16))) &&& (1 : UInt32))).toNat : Int) == 1) = decide (K / 2 ^ i % 2 = 1) ∧ (((((i32 (shrI .u32 ((d).toNat : Int) (Int.tmod j 16))) &&& (1 : UInt32))).toNat : Int) == 0) = decide (K / 2 ^ i % 2 ≠ 1) := by
  subst hj
  have hq : w64 (Int.tdiv (i : Int) 16) = ((i / 16 : Nat) : Int) := by
    rw [show (16 : Int) = ((16 : Nat) : Int) from rfl, ← Int.ofNat_tdiv]; exact w64_n rfl (by omega)
  have hr : Int.tmod (i : Int) 16 = ((i % 16 : Nat) : Int) := by rw [show (16 : Int) = ((16 : Nat) : Int) from rfl, ← Int.ofNat_tmod]
  have hdl := dg_lt K (i / 16)
  have hb : (((i32 (shrI .u32 (((UInt32.ofNat (dg K (i / 16))).toNat : Int)) ((i % 16 : Nat) : Int))) &&& (1 : UInt32))).toNat = K / 2 ^ i % 2 := by
    have hle : dg K (i / 16) / 2 ^ (i % 16) < 4294967296 := Nat.lt_of_le_of_lt (Nat.div_le_self _ _) (by omega)
    rw [un16 hdl, shr_n (by show i % 16 ≤ 32; omega), i32_n, UInt32.toNat_and, un hle, show (1 : UInt32).toNat = 2 ^ 1 - 1 from rfl, Nat.and_two_pow_sub_one_eq_mod, Nat.pow_one, bit_dg]
  refine ⟨UInt32.ofNat (dg K (i / 16)), by rw [hq]; exact idx_um rfl (digs_some (by omega)), by rw [hr]; exact chk_ok (decide_eq_true (Int.natCast_nonneg _)), ?_, ?_⟩
  · rw [hr, hb, Bool.eq_iff_iff, beq_iff_eq, decide_eq_true_iff]; omega
  · rw [hr, hb, Bool.eq_iff_iff, beq_iff_eq, decide_eq_true_iff]; omega
theorem top_bits {K : Nat} : K / 2 ^ (16 * (digs K).length) = 0 := by
  have h1 := digs_lt K
  rw [show (65536 : Nat) = 2 ^ 16 from rfl, ← Nat.pow_mul] at h1
  exact Nat.div_eq_of_lt h1
theorem bits_up1 {K i : Nat} (h : K / 2 ^ i % 2 = 1) : K / 2 ^ i = K / 2 ^ (i + 1) + K / 2 ^ (i + 1) + 1 := by
  rw [Nat.pow_succ, ← Nat.div_div_eq_div_mul]; omega
theorem bits_up0 {K i : Nat} (h : K / 2 ^ i % 2 ≠ 1) : K / 2 ^ i = K / 2 ^ (i + 1) + K / 2 ^ (i + 1) := by
  rw [Nat.pow_succ, ← Nat.div_div_eq_div_mul]; omega
theorem times_body {P : Pt} (hP : onP P) {K i : Nat} (hi : i < 16 * (digs K).length) (hl : (digs K).length ≤ 1000) :
    seneschalref07_Point_Times_b0 (rq P) (ud K) ((i : Int), rq (smul (K / 2 ^ (i + 1)) P)) = some (.inl ((i : Int) - 1, rq (smul (K / 2 ^ i) P))) := by
  obtain ⟨d, e1, e2, e3, _⟩ := bit_ok (K := K) rfl hi hl
  have hm := on_smul hP (K / 2 ^ (i + 1))
  unfold seneschalref07_Point_Times_b0
  simp only
  rw [dec_t (by omega), bind_ok (sumR_ok hm hm), bind_ok e1, bind_ok e2, e3, ← smul_add hP]
  by_cases hb : K / 2 ^ i % 2 = 1
  · rw [show decide (K / 2 ^ i % 2 = 1) = true from decide_eq_true hb, cond_true, bind_ok (sumR_ok (on_smul hP _) hP)]
    rw [bits_up1 hb, w64_i (by omega) (by omega)]; rfl
  · rw [show decide (K / 2 ^ i % 2 = 1) = false from decide_eq_false hb, cond_false]
    rw [bits_up0 hb, w64_i (by omega) (by omega)]; rfl
theorem timesR_ok {P : Pt} (hP : onP P) {K : Nat} (hl : (digs K).length ≤ 1000) : seneschalref07_Point_Times_p (rq P) (ud K) = some (rq (smul K P)) := by
  unfold seneschalref07_Point_Times_p
  simp only [um_len]
  rw [w64_n (x := (16 : Int) * ((digs K).length : Int)) (n := 16 * (digs K).length) (by omega) (by omega), w64_i (x := ((16 * (digs K).length : Nat) : Int) - 1) (by omega) (by omega)]
  have key := iter_run (body := seneschalref07_Point_Times_b0 (rq P) (ud K)) (fun k => (((16 * (digs K).length : Nat) : Int) - 1 - (k : Int), rq (smul (K / 2 ^ (16 * (digs K).length - k)) P))) (16 * (digs K).length) (by omega) (rq (smul K P)) (fun k hk => by
    have := times_body hP (K := K) (i := 16 * (digs K).length - 1 - k) (by omega) hl
    rw [show ((16 * (digs K).length - 1 - k : Nat) : Int) = ((16 * (digs K).length : Nat) : Int) - 1 - (k : Int) by omega, show 16 * (digs K).length - 1 - k + 1 = 16 * (digs K).length - k by omega] at this
    rw [this, show ((16 * (digs K).length : Nat) : Int) - 1 - (k : Int) - 1 = ((16 * (digs K).length : Nat) : Int) - 1 - ((k + 1 : Nat) : Int) by omega, show 16 * (digs K).length - (k + 1) = 16 * (digs K).length - 1 - k by omega]) (by
    unfold seneschalref07_Point_Times_b0
    simp only
    rw [dec_f (by omega), Nat.sub_self, Nat.pow_zero, Nat.div_one])
  rw [Nat.sub_zero, top_bits] at key
  have key' : iter (seneschalref07_Point_Times_b0 (rq P) (ud K)) ((((16 * (digs K).length : Nat) : Int) - 1, true, ([] : List UInt32), ([] : List UInt32))) = some (rq (smul K P)) := by
    rw [← key]
    congr 2
    simp
  rw [bind_ok (show Option.bind _ _ = some (rq (smul K P)) by rw [bind_ok key'])]
/-! ### With one division at the end -/
abbrev F3 : Type := Fp × Fp × Fp
def f3 (t : F3) : List UInt32 × List UInt32 × List UInt32 := (fd t.1, fd t.2.1, fd t.2.2)
def RF (t : F3) (P : Pt) : Prop := Rep (t.1.val, t.2.1.val, t.2.2.val) P
theorem rep_cl {s t : Tr} {P : Pt} (h : Rep s P) (h1 : cl s.1 = cl t.1) (h2 : cl s.2.1 = cl t.2.1) (h3 : cl s.2.2 = cl t.2.2) : Rep t P := by
  match P with
  | none => show cl t.2.2 = 0; rw [← h3]; exact h
  | some (x, y) =>
    obtain ⟨a, b, c⟩ := h
    exact ⟨by rw [← h3]; exact a, by rw [← h1, ← h3]; exact b, by rw [← h2, ← h3]; exact c⟩
def tw (t : F3) : F3 :=
  let a := 4 * (t.1 * (t.2.1 * t.2.1)); let b := 3 * (t.1 * t.1 - t.2.2 * t.2.2 * (t.2.2 * t.2.2)); let x := b * b - (a + a)
  (x, b * (a - x) - 8 * (t.2.1 * t.2.1 * (t.2.1 * t.2.1)), (t.2.1 + t.2.1) * t.2.2)
theorem v4 : (4 : Fp).val = 4 := by rfl
theorem v8 : (8 : Fp).val = 8 := by rfl
theorem fd_4 : ([(4 : UInt32)] : List UInt32) = fd 4 := by rw [show ([(4 : UInt32)] : List UInt32) = ud 4 from ud_k (by decide) (by decide), ← v4]
theorem fd_8 : ([(8 : UInt32)] : List UInt32) = fd 8 := by rw [show ([(8 : UInt32)] : List UInt32) = ud 8 from ud_k (by decide) (by decide), ← v8]
theorem fd_1 : ([(1 : UInt32)] : List UInt32) = fd 1 := by rw [show ([(1 : UInt32)] : List UInt32) = ud 1 from ud_k (by decide) (by decide)]; rfl
theorem fd_0 : ([] : List UInt32) = fd 0 := by show _ = um (digs 0); rw [digs_0]; rfl
theorem twice_ok (t : F3) : seneschalref07_long_twice_p (f3 t) = some (f3 (tw t)) := by
  obtain ⟨x, y, z⟩ := t
  unfold seneschalref07_long_twice_p
  simp only [f3]
  rw [fd_4, fd_3, fd_8, bind_ok (timesF y y), bind_ok (timesF z z), bind_ok (timesF x _), bind_ok (timesF 4 _), bind_ok (timesF x x), bind_ok (timesF _ _), bind_ok (minusF _ _), bind_ok (timesF _ _), bind_ok (timesF _ _),
    bind_ok (plusF _ _), bind_ok (minusF _ _), bind_ok (minusF _ _), bind_ok (timesF _ _), bind_ok (timesF _ _), bind_ok (timesF _ _), bind_ok (minusF _ _), bind_ok (plusF _ _), bind_ok (timesF _ _)]
  rfl
theorem tw_1 (x y z : Fp) : 3 * ((x - z * z) * (x + z * z)) * (3 * ((x - z * z) * (x + z * z))) - (4 * (x * (y * y)) + 4 * (x * (y * y))) = 3 * (x * x - z * z * (z * z)) * (3 * (x * x - z * z * (z * z))) - (4 * (x * (y * y)) + 4 * (x * (y * y))) := by grobner
theorem tw_2 (x y z X : Fp) : 3 * ((x - z * z) * (x + z * z)) * (4 * (x * (y * y)) - X) - 8 * (y * y * (y * y)) = 3 * (x * x - z * z * (z * z)) * (4 * (x * (y * y)) - X) - 8 * (y * y * (y * y)) := by grobner
theorem tw_3 (y z : Fp) : 2 * (y * z) = (y + y) * z := by grobner
theorem RF_tw {t : F3} {P : Pt} (h : RF t P) (hP : onP P) : RF (tw t) (aadd P P) := by
  obtain ⟨x, y, z⟩ := t
  have hX : cl (jtwX x.val y.val z.val) = (tw (x, y, z)).1 := by rw [cl_jtwX, cl_of, cl_of, cl_of, tw_1]; rfl
  refine rep_cl (rep_tw h hP) ?_ ?_ ?_
  · show cl (jtwX x.val y.val z.val) = cl (tw (x, y, z)).1.val
    rw [hX, cl_of]
  · show cl (jtwY x.val y.val z.val) = cl (tw (x, y, z)).2.1.val
    rw [cl_jtwY, hX, cl_of, cl_of, cl_of, cl_of, tw_2]; rfl
  · show cl (jtwZ y.val z.val) = cl (tw (x, y, z)).2.2.val
    rw [cl_jtwZ, cl_of, cl_of, cl_of, tw_3]; rfl
def moh (t : F3) (qx : Fp) : Fp := qx * (t.2.2 * t.2.2) - t.1
def mo (t : F3) (qx qy : Fp) : F3 :=
  let h := moh t qx; let r := qy * (t.2.2 * t.2.2 * t.2.2) - t.2.1; let x := r * r - h * (h * h) - (t.1 * (h * h) + t.1 * (h * h))
  (x, r * (t.1 * (h * h) - x) - t.2.1 * (h * (h * h)), t.2.2 * h)
theorem len_fd (x : Fp) : (((fd x).length : Int) == 0) = decide (x = 0) := by
  rw [um_len, Bool.eq_iff_iff, beq_iff_eq, decide_eq_true_iff]
  constructor
  · intro h
    have h2 := odd_none (A := x.val) (by omega)
    exact Fin.ext h2
  · intro h; subst h
    have : (0 : Fp).val = 0 := rfl
    rw [this, digs_0]; rfl
theorem more_ok (t : F3) (qx qy : Fp) : ∃ u, seneschalref07_long_more_p (f3 t) (rq (some (qx, qy))) = some (u, decide (moh t qx ≠ 0)) ∧ (moh t qx ≠ 0 → u = f3 (mo t qx qy)) := by
  obtain ⟨x, y, z⟩ := t
  have e : ∃ u, seneschalref07_long_more_p (fd x, fd y, fd z) (false, fd qx, fd qy) = some (u, decide (moh (x, y, z) qx ≠ 0)) ∧ (moh (x, y, z) qx ≠ 0 → u = f3 (mo (x, y, z) qx qy)) := by
    unfold seneschalref07_long_more_p
    simp only
    rw [bind_ok (timesF z z), bind_ok (timesF qx _), bind_ok (minusF _ x), len_fd]
    by_cases h : moh (x, y, z) qx = 0
    · have h' : qx * (z * z) - x = 0 := h
      refine ⟨([], [], []), ?_, fun h2 => absurd h h2⟩
      rw [show decide (qx * (z * z) - x = 0) = true from decide_eq_true h', cond_true, show decide (moh (x, y, z) qx ≠ 0) = false from decide_eq_false fun h2 => h2 h]
    · have h' : ¬ qx * (z * z) - x = 0 := h
      refine ⟨f3 (mo (x, y, z) qx qy), ?_, fun _ => rfl⟩
      rw [show decide (qx * (z * z) - x = 0) = false from decide_eq_false h', cond_false, show decide (moh (x, y, z) qx ≠ 0) = true from decide_eq_true h]
      rw [bind_ok (timesF _ z), bind_ok (timesF qy _), bind_ok (minusF _ y), bind_ok (timesF _ _), bind_ok (timesF _ _), bind_ok (timesF x _), bind_ok (timesF _ _), bind_ok (minusF _ _), bind_ok (plusF _ _), bind_ok (minusF _ _),
        bind_ok (minusF _ _), bind_ok (timesF _ _), bind_ok (timesF y _), bind_ok (minusF _ _), bind_ok (timesF z _)]
      rfl
  exact e
theorem mo_1 (x y z qx qy : Fp) : qx * (z * z) - x * (1 * 1) = qx * (z * z) - x := by grobner
theorem mo_2 (x y z qx qy : Fp) : qy * (z * z * z) - y * (1 * 1 * 1) = qy * (z * z * z) - y := by grobner
theorem mo_x (x h r : Fp) : r * r - h * (h * h) - (x * (1 * 1) * (h * h) + x * (1 * 1) * (h * h)) = r * r - h * (h * h) - (x * (h * h) + x * (h * h)) := by grobner
theorem mo_y (x y h r X : Fp) : r * (x * (1 * 1) * (h * h) - X) - y * (1 * 1 * 1) * (h * (h * h)) = r * (x * (h * h) - X) - y * (h * (h * h)) := by grobner
theorem mo_z (z h : Fp) : h * (z * 1) = z * h := by grobner
theorem RF_of (x y : Fp) : RF (x, y, 1) (some (x, y)) := by
  have := rep_of (p := (x.val, y.val, false))
  show Rep (x.val, y.val, (1 : Fp).val) (some (x, y))
  have e : ofA (x.val, y.val, false) = some (x, y) := by show some (cl x.val, cl y.val) = _; rw [cl_of, cl_of]
  rw [e] at this
  exact this
theorem RF_0 : RF (0, 0, 0) none := by
  show cl (0 : Fp).val = 0
  rw [cl_of]
theorem RF_z {t : F3} {P : Pt} (h : RF t P) : t.2.2 = 0 ↔ P = none := by
  match P with
  | none =>
    have h0 : cl t.2.2.val = 0 := h
    rw [cl_of] at h0
    simp [h0]
  | some (x, y) =>
    have h0 : cl t.2.2.val ≠ 0 := h.1
    rw [cl_of] at h0
    simp [h0]
theorem RF_mo {t : F3} {P : Pt} {qx qy : Fp} (h : RF t P) (hP : onP P) (hQ : onP (some (qx, qy))) (hz : t.2.2 ≠ 0) (hh : moh t qx ≠ 0) : RF (mo t qx qy) (aadd P (some (qx, qy))) := by
  obtain ⟨x, y, z⟩ := t
  have hz : z ≠ 0 := hz
  have hq : Rep (qx.val, qy.val, 1) (some (qx, qy)) := RF_of qx qy
  have hr := rep_add h hq hP hQ z.isLt (one_lt_modN 0)
  have hzv : ¬ z.val = 0 := fun e => hz (Fin.ext e)
  unfold jad at hr
  rw [if_neg (show ¬ (x.val, y.val, z.val).2.2 = 0 from hzv), if_neg (show ¬ (qx.val, qy.val, 1).2.2 = 0 from Nat.one_ne_zero)] at hr
  have eh : cl (fs (fm qx.val (fm z.val z.val)) (fm x.val (fm 1 1))) = moh (x, y, z) qx := by
    simp only [cl_fs, cl_fm, cl_of, cl_1]; exact mo_1 x y z qx qy
  have er : cl (fs (fm qy.val (fm (fm z.val z.val) z.val)) (fm y.val (fm (fm 1 1) 1))) = qy * (z * z * z) - y := by
    simp only [cl_fs, cl_fm, cl_of, cl_1]; exact mo_2 x y z qx qy
  have eu : cl (fm x.val (fm 1 1)) = x * (1 * 1) := by simp only [cl_fm, cl_of, cl_1]
  have es : cl (fm y.val (fm (fm 1 1) 1)) = y * (1 * 1 * 1) := by simp only [cl_fm, cl_of, cl_1]
  simp only at hr
  generalize fs (fm qx.val (fm z.val z.val)) (fm x.val (fm 1 1)) = H at hr eh
  generalize fs (fm qy.val (fm (fm z.val z.val) z.val)) (fm y.val (fm (fm 1 1) 1)) = R at hr er
  generalize fm x.val (fm 1 1) = U at hr eu
  generalize fm y.val (fm (fm 1 1) 1) = V at hr es
  have hH : ¬ H = 0 := fun e => hh (by rw [← eh, e]; rfl)
  unfold jad2 at hr
  rw [if_neg hH] at hr
  have ex : cl (fs (fs (fm R R) (fm H (fm H H))) (fa (fm U (fm H H)) (fm U (fm H H)))) = (mo (x, y, z) qx qy).1 := by
    simp only [cl_fs, cl_fm, cl_fa, er, eh, eu]; exact mo_x x _ _
  refine rep_cl hr ?_ ?_ ?_
  · show cl (fs (fs (fm R R) (fm H (fm H H))) (fa (fm U (fm H H)) (fm U (fm H H)))) = _
    rw [ex, cl_of]
  · show cl (fs (fm R (fs (fm U (fm H H)) (fs (fs (fm R R) (fm H (fm H H))) (fa (fm U (fm H H)) (fm U (fm H H)))))) (fm V (fm H (fm H H)))) = _
    rw [cl_fs, cl_fm, cl_fs, ex, cl_of]
    simp only [cl_fm, er, eh, eu, es]; exact mo_y x y _ _ _
  · show cl (fm H (fm z.val 1)) = _
    rw [cl_of]
    simp only [cl_fm, eh, cl_of, cl_1]; exact mo_z z _
theorem end_ok {t : F3} {P : Pt} (h : RF t P) : seneschalref07_long_end_p (f3 t) = some (rq P) := by
  obtain ⟨x, y, z⟩ := t
  have e : seneschalref07_long_end_p (fd x, fd y, fd z) = some (rq P) := by
    unfold seneschalref07_long_end_p
    simp only
    rw [len_fd]
    by_cases hz : z = 0
    · rw [show decide (z = 0) = true from decide_eq_true hz, cond_true, (RF_z h).1 hz]; rfl
    · rw [show decide (z = 0) = false from decide_eq_false hz, cond_false, bind_ok (invF hz), bind_ok (timesF _ _), bind_ok (timesF x _), bind_ok (timesF _ _), bind_ok (timesF y _)]
      match P with
      | none => exact absurd ((RF_z h).2 rfl) hz
      | some (X, Y) =>
        obtain ⟨_, hx, hy⟩ := h
        have hx : cl x.val = X * (cl z.val * cl z.val) := hx
        have hy : cl y.val = Y * (cl z.val * cl z.val * cl z.val) := hy
        rw [cl_of, cl_of] at hx hy
        have hi := fi_mul hz
        rw [hx, hy, end_x hi, end_y hi]; rfl
  exact e
theorem fast_body {x y : Fp} (hP : onP (some (x, y))) {K i : Nat} {t : F3} (hi : i < 16 * (digs K).length) (hl : (digs K).length ≤ 1000) (ht : RF t (smul (K / 2 ^ (i + 1)) (some (x, y)))) :
    ∃ t', seneschalref07_Point_Fast_b0 (rq (some (x, y))) (ud K) ((i : Int), f3 t) = some (.inl ((i : Int) - 1, f3 t')) ∧ RF t' (smul (K / 2 ^ i) (some (x, y))) := by
  obtain ⟨d, e1, e2, _, e4⟩ := bit_ok (K := K) rfl hi hl
  have hm := on_smul hP (K / 2 ^ (i + 1))
  have h3 : ∃ t3, (bif decide ((0 : Int) < ((fd t.2.2).length : Int)) then (Option.bind (seneschalref07_long_twice_p (f3 t)) fun y1 => some ((y1.1, y1.2.1, y1.2.2))) else (some (f3 t))) = some (f3 t3) ∧ RF t3 (smul (K / 2 ^ (i + 1) + K / 2 ^ (i + 1)) (some (x, y))) := by
    by_cases hz : t.2.2 = 0
    · have hn := (RF_z ht).1 hz
      refine ⟨t, ?_, ?_⟩
      · have := len_fd t.2.2
        rw [show decide (t.2.2 = 0) = true from decide_eq_true hz, beq_iff_eq] at this
        rw [dec_f (by omega)]
      · rw [smul_add hP, hn]; rw [hn] at ht; exact ht
    · refine ⟨tw t, ?_, by rw [smul_add hP]; exact RF_tw ht hm⟩
      have := len_fd t.2.2
      rw [show decide (t.2.2 = 0) = false from decide_eq_false hz] at this
      have h5 : ¬ ((fd t.2.2).length : Int) = 0 := fun e => by rw [e] at this; cases this
      rw [dec_t (by omega), bind_ok (twice_ok t)]
  obtain ⟨t3, e3, hr3⟩ := h3
  have hon2 := on_smul hP (K / 2 ^ (i + 1) + K / 2 ^ (i + 1))
  unfold seneschalref07_Point_Fast_b0
  have shape : ∀ (k : Option (List UInt32 × List UInt32 × List UInt32)) (t' : F3), k = some (f3 t') → Option.bind k (fun t2 => some (Sum.inl (β := List UInt32 × List UInt32 × List UInt32) ((w64 ((i : Int) - 1)), t2.1, t2.2.1, t2.2.2))) = some (.inl ((i : Int) - 1, f3 t')) := fun k t' h => by
    rw [h, w64_i (by omega) (by omega)]; rfl
  simp only
  rw [dec_t (by omega)]
  have e3' : (bif decide ((0 : Int) < ((f3 t).2.2.length : Int)) then (Option.bind (seneschalref07_long_twice_p (f3 t)) fun y1 => some ((y1.1, y1.2.1, y1.2.2))) else (some (((f3 t).1, (f3 t).2.1, (f3 t).2.2)))) = some (f3 t3) := e3
  by_cases hb : K / 2 ^ i % 2 = 1
  · rw [bits_up1 hb]
    have hsum : smul (K / 2 ^ (i + 1) + K / 2 ^ (i + 1) + 1) (some (x, y)) = aadd (smul (K / 2 ^ (i + 1) + K / 2 ^ (i + 1)) (some (x, y))) (some (x, y)) := rfl
    rw [hsum]
    generalize smul (K / 2 ^ (i + 1) + K / 2 ^ (i + 1)) (some (x, y)) = Q at hr3 hon2
    by_cases hz : t3.2.2 = 0
    · have hn := (RF_z hr3).1 hz
      refine ⟨(x, y, 1), ?_, by rw [hn, none_aadd]; exact RF_of x y⟩
      refine shape _ _ ?_
      rw [bind_ok e3', bind_ok e1, bind_ok e2, e4, show decide (K / 2 ^ i % 2 ≠ 1) = false from decide_eq_false fun h => h hb, cond_false]
      show (bif (((fd t3.2.2).length : Int) == 0) then _ else _) = _
      rw [len_fd, show decide (t3.2.2 = 0) = true from decide_eq_true hz, cond_true, fd_1]; rfl
    · obtain ⟨u, em, hu⟩ := more_ok t3 x y
      by_cases hh : moh t3 x = 0
      · -- the same, or the opposite
        have es := sumR_ok hon2 hP
        have ee := end_ok hr3
        cases hq : aadd Q (some (x, y)) with
        | none =>
          refine ⟨(0, 0, 0), ?_, RF_0⟩
          refine shape _ _ ?_
          rw [bind_ok e3', bind_ok e1, bind_ok e2, e4, show decide (K / 2 ^ i % 2 ≠ 1) = false from decide_eq_false fun h => h hb, cond_false]
          show (bif (((fd t3.2.2).length : Int) == 0) then _ else _) = _
          rw [len_fd, show decide (t3.2.2 = 0) = false from decide_eq_false hz, cond_false, bind_ok em, show decide (moh t3 x ≠ 0) = false from decide_eq_false fun h => h hh]
          simp only [Bool.not_false, cond_true]
          rw [bind_ok ee, bind_ok es, hq]
          simp only [rq, cond_true, Option.bind_some]
          rw [fd_0]; rfl
        | some p =>
          obtain ⟨X, Y⟩ := p
          refine ⟨(X, Y, 1), ?_, RF_of X Y⟩
          refine shape _ _ ?_
          rw [bind_ok e3', bind_ok e1, bind_ok e2, e4, show decide (K / 2 ^ i % 2 ≠ 1) = false from decide_eq_false fun h => h hb, cond_false]
          show (bif (((fd t3.2.2).length : Int) == 0) then _ else _) = _
          rw [len_fd, show decide (t3.2.2 = 0) = false from decide_eq_false hz, cond_false, bind_ok em, show decide (moh t3 x ≠ 0) = false from decide_eq_false fun h => h hh]
          simp only [Bool.not_false, cond_true]
          rw [bind_ok ee, bind_ok es, hq]
          simp only [rq, cond_false, Option.bind_some]
          rw [fd_1]; rfl
      · refine ⟨mo t3 x y, ?_, RF_mo hr3 hon2 hP hz hh⟩
        refine shape _ _ ?_
        rw [bind_ok e3', bind_ok e1, bind_ok e2, e4, show decide (K / 2 ^ i % 2 ≠ 1) = false from decide_eq_false fun h => h hb, cond_false]
        show (bif (((fd t3.2.2).length : Int) == 0) then _ else _) = _
        rw [len_fd, show decide (t3.2.2 = 0) = false from decide_eq_false hz, cond_false, bind_ok em, show decide (moh t3 x ≠ 0) = true from decide_eq_true hh, hu hh]
        rfl
  · refine ⟨t3, ?_, by rw [bits_up0 hb]; exact hr3⟩
    refine shape _ _ ?_
    rw [bind_ok e3', bind_ok e1, bind_ok e2, e4, show decide (K / 2 ^ i % 2 ≠ 1) = true from decide_eq_true hb, cond_true]
theorem fastR_ok {P : Pt} (hP : onP P) {K : Nat} (hl : (digs K).length ≤ 1000) : seneschalref07_Point_Fast_p (rq P) (ud K) = some (rq (smul K P)) := by
  unfold seneschalref07_Point_Fast_p
  match P with
  | none => rw [smul_none]; rfl
  | some (x, y) =>
    show (bif false then _ else _) = _
    rw [cond_false]
    simp only [um_len]
    rw [w64_n (x := (16 : Int) * ((digs K).length : Int)) (n := 16 * (digs K).length) (by omega) (by omega), w64_i (x := ((16 * (digs K).length : Nat) : Int) - 1) (by omega) (by omega)]
    obtain ⟨b, hb, t, rfl, ht⟩ := iter_ind (body := seneschalref07_Point_Fast_b0 (rq (some (x, y))) (ud K)) (fun s => ∃ (k : Nat) (t : F3), s = ((k : Int) - 1, f3 t) ∧ k ≤ 16 * (digs K).length ∧ RF t (smul (K / 2 ^ k) (some (x, y)))) (fun s => (s.1 + 1).toNat)
      (fun b => ∃ t, b = f3 t ∧ RF t (smul K (some (x, y)))) (((16 * (digs K).length : Nat) : Int) - 1, ([] : List UInt32), ([] : List UInt32), ([] : List UInt32))
      ⟨16 * (digs K).length, (0, 0, 0), by rw [fd_0]; rfl, Nat.le_refl _, by rw [top_bits]; exact RF_0⟩ (by
        show ((((16 * (digs K).length : Nat) : Int) - 1) + 1).toNat < _
        omega) (by
        rintro s ⟨k, t, rfl, hk, ht⟩
        by_cases h0 : k = 0
        · subst h0
          refine .inr ⟨f3 t, ?_, t, rfl, by simpa using ht⟩
          unfold seneschalref07_Point_Fast_b0
          simp only
          rw [dec_f (by omega)]
        · obtain ⟨i, rfl⟩ := Nat.exists_eq_succ_of_ne_zero h0
          obtain ⟨t', e, h'⟩ := fast_body hP (by omega) hl ht
          rw [show ((i.succ : Nat) : Int) - 1 = (i : Int) by omega]
          refine .inl ⟨_, e, ⟨i, t', rfl, by omega, h'⟩, ?_⟩
          show (((i : Int) - 1) + 1).toNat < ((i : Int) + 1).toNat
          omega)
    rw [bind_ok (show Option.bind _ _ = some (f3 t) by rw [bind_ok hb]), bind_ok (end_ok ht)]
end Go.Proofs.Ytjmgilhlpohcmaa
