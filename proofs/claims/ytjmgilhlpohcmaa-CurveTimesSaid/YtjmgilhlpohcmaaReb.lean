/- The document's layer 7: opposites and sums are the group's: plain laws. Conditions: as each theorem says. -/
import Derived.Test.YtjmgilhlpohcmaaRfD
import Derived.Test.YtjmgilhlpohcmaaRea
import Derived.Test.YtjmgilhlpohcmaaRdi
import Derived.Test.YtjmgilhlpohcmaaRep
namespace Go.Proofs.Ytjmgilhlpohcmaa
open Go Go.RowKit
abbrev R7P : Type := Bool × List UInt32 × List UInt32
/-- The digits of an element of the field. -/
abbrev fd (x : Fp) : List UInt32 := ud x.val
def rq : Pt → R7P
  | none => (true, [], [])
  | some (x, y) => (false, fd x, fd y)
theorem rq_x (x y : Fp) : (rq (some (x, y))).2.1 = fd x := rfl
theorem rq_y (x y : Fp) : (rq (some (x, y))).2.2 = fd y := rfl
theorem sv (x : Fp) : small x.val := sm0 x.isLt
theorem fm_v (x y : Fp) : fm x.val y.val = (x * y).val := val_cl (fm_lt _ _) (by rw [cl_fm, cl_of, cl_of])
theorem fa_v (x y : Fp) : fa x.val y.val = (x + y).val := val_cl (fa_lt _ _) (by rw [cl_fa, cl_of, cl_of])
theorem fs_v (x y : Fp) : fs x.val y.val = (x - y).val := val_cl (fs_lt _ _) (by rw [cl_fs, cl_of, cl_of])
theorem timesF (x y : Fp) : seneschalref07_times_p (fd x) (fd y) = some (fd (x * y)) := by rw [times_ok (sv x) (sv y), fm_v]
theorem plusF (x y : Fp) : seneschalref07_plus_p (fd x) (fd y) = some (fd (x + y)) := by rw [plus_ok (sv x) (sv y), fa_v]
theorem minusF (x y : Fp) : seneschalref07_minus_p (fd x) (fd y) = some (fd (x - y)) := by rw [minus_ok (sv x) (sv y), fs_v]
theorem oppF (x : Fp) : seneschalref06_Opposite_p 0 (fd x) = some (fd (-x)) := by
  rw [opposite_ok 0 (sv x)]
  show _ = some (ud (-x).val)
  rw [← neg_val x]; rfl
theorem invF {x : Fp} (h : x ≠ 0) : seneschalref06_Inverse_p 0 (fd x) = some (fd (fi x)) := by
  have h0 : x.val % modN 0 ≠ 0 := fun e => h (by
    have := (cl_eq0 (a := x.val)).2 e
    rwa [cl_of] at this)
  rw [inverse_ok 0 (sv x) h0]; rfl
theorem cmpF (x y : Fp) : ∃ c : Int, seneschalref06_Cmp_p (fd x) (fd y) = some c ∧ (c == 0) = decide (x = y) := by
  refine ⟨_, cmp_ok (small_lim (sv x)) (small_lim (sv y)), ?_⟩
  rw [Bool.eq_iff_iff, beq_iff_eq, decide_eq_true_iff, cmpI_eq]
  exact ⟨fun h => Fin.ext h, fun h => by rw [h]⟩
theorem v3 : (3 : Fp).val = 3 := by rfl
theorem fd_3 : ([(3 : UInt32)] : List UInt32) = fd 3 := by rw [ud_3, ← v3]
theorem opp_ok (P : Pt) : seneschalref07_Point_Opposite_p (rq P) = some (rq (aneg P)) := by
  unfold seneschalref07_Point_Opposite_p
  match P with
  | none => rfl
  | some (x, y) =>
    show (bif false then _ else Option.bind (seneschalref06_Opposite_p 0 (fd y)) fun y1 => some (false, fd x, y1)) = _
    rw [cond_false, bind_ok (oppF y)]; rfl
theorem same_ok (P Q : Pt) : seneschalref07_Point_Same_p (rq P) (rq Q) = some (decide (P = Q)) := by
  unfold seneschalref07_Point_Same_p
  match P, Q with
  | none, none => rfl
  | none, some (x, y) => rfl
  | some (x, y), none => rfl
  | some (x1, y1), some (x2, y2) =>
    obtain ⟨c, e, hc⟩ := cmpF x1 x2
    obtain ⟨d, e2, hd⟩ := cmpF y1 y2
    show Option.bind (Option.bind (some false) fun t1 => _) _ = _
    simp only [rq, cond_false, Option.bind_some, Bool.not_false, cond_true]
    rw [bind_ok e]
    simp only [Option.bind_some]
    rw [hc]
    by_cases hx : x1 = x2
    · rw [show decide (x1 = x2) = true from decide_eq_true hx, cond_true, bind_ok e2]
      simp only [Option.bind_some]
      rw [hd]
      refine congrArg some ?_
      rw [Bool.eq_iff_iff, decide_eq_true_iff, decide_eq_true_iff]
      exact ⟨fun h => by rw [hx, h], fun h => by injection h with h; injection h⟩
    · rw [show decide (x1 = x2) = false from decide_eq_false hx, cond_false]
      simp only [Option.bind_some, cond_false]
      refine congrArg some (Eq.symm (decide_eq_false fun h => hx ?_))
      injection h with h; injection h
theorem sumR_ok {P Q : Pt} (hP : onP P) (hQ : onP Q) : seneschalref07_Point_Sum_p (rq P) (rq Q) = some (rq (aadd P Q)) := by
  unfold seneschalref07_Point_Sum_p
  match P, Q with
  | none, Q => rw [none_aadd]; rfl
  | some p, none => rw [aadd_none]; rfl
  | some (x1, y1), some (x2, y2) =>
    have h1 : onE x1 y1 := hP
    have h2 : onE x2 y2 := hQ
    show (bif false then _ else bif false then _ else _) = _
    rw [cond_false, cond_false, bind_ok (opp_ok _), bind_ok (same_ok _ _)]
    rw [aadd_some]
    by_cases hopp : x1 = x2 ∧ y1 = - y2
    · rw [if_pos hopp, show decide ((some (x1, y1) : Pt) = aneg (some (x2, y2))) = true from decide_eq_true (by rw [hopp.1, hopp.2]; rfl)]
      rfl
    · rw [if_neg hopp, show decide ((some (x1, y1) : Pt) = aneg (some (x2, y2))) = false from decide_eq_false fun h => hopp (by
        have h : some (x1, y1) = some (x2, - y2) := h
        injection h with h; injection h with a b; exact ⟨a, b⟩), cond_false]
      simp only [rq_x, rq_y]
      rw [bind_ok (minusF y2 y1), bind_ok (minusF x2 x1)]
      have key : ∃ u d : Fp, d ≠ 0 ∧ slope x1 y1 x2 y2 = u * fi d ∧ (Option.bind (seneschalref07_Point_Same_p (rq (some (x1, y1))) (rq (some (x2, y2)))) fun y5 => bif y5 then (Option.bind (seneschalref07_times_p (fd x1) (fd x1)) fun y6 => Option.bind (seneschalref07_times_p ([(3 : UInt32)] : List UInt32) y6) fun y7 => Option.bind (seneschalref07_minus_p y7 ([(3 : UInt32)] : List UInt32)) fun y8 => Option.bind (seneschalref07_plus_p (fd y1) (fd y1)) fun y9 => some ((y8, y9))) else (some ((fd (y2 - y1), fd (x2 - x1))))) = some (fd u, fd d) := by
        by_cases hs : x1 = x2 ∧ y1 = y2
        · refine ⟨3 * (x1 * x1) - 3, y1 + y1, fun h => hopp ⟨hs.1, ?_⟩, by rw [slope, if_pos hs], ?_⟩
          · rw [← hs.2]; grobner
          · rw [bind_ok (same_ok _ _), show decide ((some (x1, y1) : Pt) = some (x2, y2)) = true from decide_eq_true (by rw [hs.1, hs.2]), cond_true, fd_3, bind_ok (timesF _ _), bind_ok (timesF _ _), bind_ok (minusF _ _), bind_ok (plusF _ _)]
        · refine ⟨y2 - y1, x2 - x1, fun h => ?_, by rw [slope, if_neg hs], ?_⟩
          · have hx : x1 = x2 := (lin_0 h).symm ▸ rfl
            rcases ne_neg h1 h2 hx with h3 | h3
            · exact hs ⟨hx, h3⟩
            · exact hopp ⟨hx, h3⟩
          · rw [bind_ok (same_ok _ _), show decide ((some (x1, y1) : Pt) = some (x2, y2)) = false from decide_eq_false fun h => hs (by injection h with h; injection h with a b; exact ⟨a, b⟩), cond_false]
      obtain ⟨u, d, hd, hsl, e⟩ := key
      rw [bind_ok e]
      show Option.bind (seneschalref06_Inverse_p 0 (fd d)) _ = _
      rw [bind_ok (invF hd)]
      show Option.bind (seneschalref07_times_p (fd u) (fd (fi d))) _ = _
      rw [bind_ok (timesF _ _), ← hsl, bind_ok (timesF _ _), bind_ok (minusF _ _), bind_ok (minusF _ _), bind_ok (minusF _ _), bind_ok (timesF _ _), bind_ok (minusF _ _)]
      rfl
/-- A point of the curve in words, and as one of the group. -/
def ofW (x : Pw) : Pt := ofA (apT x)
theorem inR_ok {x : Pw} (h : onT (apT x) = true) : seneschalref07_In_p x = some (rq (ofW x)) := by
  unfold seneschalref07_In_p
  rw [bind_ok (in_ok x.1), bind_ok (in_ok x.2.1)]
  have e := toA_ofA h
  unfold ofW
  cases ho : ofA (apT x) with
  | none =>
    rw [ho] at e
    have e1 : (0 : Nat) = nv x.1 := congrArg (fun t : Ap => t.1) e
    have e2 : (0 : Nat) = nv x.2.1 := congrArg (fun t : Ap => t.2.1) e
    have e3 : true = x.2.2 := congrArg (fun t : Ap => t.2.2) e
    rw [← e1, ← e2, ← e3, show ud 0 = [] by simp [digs_0, um]]; rfl
  | some p =>
    obtain ⟨a, b⟩ := p
    rw [ho] at e
    have e1 : a.val = nv x.1 := congrArg (fun t : Ap => t.1) e
    have e2 : b.val = nv x.2.1 := congrArg (fun t : Ap => t.2.1) e
    have e3 : false = x.2.2 := congrArg (fun t : Ap => t.2.2) e
    rw [← e1, ← e2, ← e3]; rfl
theorem outR_ok (P : Pt) : seneschalref07_Point_Out_p (rq P) = some (ptW (toA P)) := by
  unfold seneschalref07_Point_Out_p
  match P with
  | none => rfl
  | some (x, y) =>
    show (bif false then _ else Option.bind (seneschalref06_Out_p (fd x)) _) = _
    rw [cond_false, bind_ok (out_ok (Nat.lt_trans x.isLt PP_lt))]
    show Option.bind (seneschalref06_Out_p (fd y)) _ = _
    rw [bind_ok (out_ok (Nat.lt_trans y.isLt PP_lt))]; rfl
end Go.Proofs.Ytjmgilhlpohcmaa
