/- The law 'which points there are, and their bytes' holds of what its walk tells: plain. Conditions: as each theorem says. -/
import Derived.Test.YtjmgilhlpohcmaaLwP
namespace Go.Proofs.Ytjmgilhlpohcmaa
open Go Go.RowKit
theorem of_32b {l : List UInt8} (h : l.length = 32) : (bval l < PP ↔ (ofE 0 l == 0) = true) ∧ (bval l < PP → ofV 0 l = bval l) := by
  have hb : bval l = bval (be 32 (bval l)) := by rw [← h, be_bval]
  have e : be 32 (bval l) = l := by rw [← h, be_bval]
  refine ⟨⟨fun hlt => ?_, fun hE => ?_⟩, fun hlt => ?_⟩
  · have := (of_beV (m := 0) (X := bval l) hlt).2
    rw [e] at this; rw [this]; rfl
  · exact (of_32 (ofE_0 hE)).2
  · have := (of_beV (m := 0) (X := bval l) hlt).1
    rwa [e] at this
theorem cofB_eq (s : List UInt8) : cofB s = (decide (s.length = 65) && (s[0]? == some 4) && onB (bval ((s.take 33).drop 1)) (bval (s.drop 33)) false) ∧ (cofB s = true → cofX s = bval ((s.take 33).drop 1) ∧ cofY s = bval (s.drop 33)) := by
  have ea : (s.take 33).drop 1 = (s.drop 1).take 32 := by rw [List.drop_take]
  rw [ea]
  by_cases hl : s.length = 65
  · have l1 : ((s.drop 1).take 32).length = 32 := by rw [List.length_take, List.length_drop]; omega
    have l2 : (s.drop 33).length = 32 := by rw [List.length_drop]; omega
    have h1 := of_32b l1
    have h2 := of_32b l2
    have hd : (s.length == 65) = true := by simpa using hl
    have key : (ofE 0 ((s.drop 1).take 32) == 0 && (ofE 0 (s.drop 33) == 0 && onB (cofX s) (cofY s) false)) = onB (bval ((s.drop 1).take 32)) (bval (s.drop 33)) false ∧ ((ofE 0 ((s.drop 1).take 32) == 0 && (ofE 0 (s.drop 33) == 0 && onB (cofX s) (cofY s) false)) = true → cofX s = bval ((s.drop 1).take 32) ∧ cofY s = bval (s.drop 33)) := by
      by_cases p1 : bval ((s.drop 1).take 32) < PP
      · by_cases p2 : bval (s.drop 33) < PP
        · have e1 : cofX s = bval ((s.drop 1).take 32) := h1.2 p1
          have e2 : cofY s = bval (s.drop 33) := h2.2 p2
          rw [h1.1.1 p1, h2.1.1 p2, e1, e2]
          exact ⟨rfl, fun _ => ⟨rfl, rfl⟩⟩
        · have n2 : (ofE 0 (s.drop 33) == 0) = false := Bool.eq_false_iff.2 fun h => p2 (h2.1.2 h)
          have n3 : onB (bval ((s.drop 1).take 32)) (bval (s.drop 33)) false = false := Bool.eq_false_iff.2 fun h => p2 (onB_lt h).2
          rw [n2, n3, Bool.false_and, Bool.and_false]
          exact ⟨rfl, fun h => by cases h⟩
      · have n1 : (ofE 0 ((s.drop 1).take 32) == 0) = false := Bool.eq_false_iff.2 fun h => p1 (h1.1.2 h)
        have n3 : onB (bval ((s.drop 1).take 32)) (bval (s.drop 33)) false = false := Bool.eq_false_iff.2 fun h => p1 (onB_lt h).1
        rw [n1, n3, Bool.false_and]
        exact ⟨rfl, fun h => by cases h⟩
    unfold cofB
    rw [hd, show decide (s.length = 65) = true from decide_eq_true hl]
    cases s[0]? == some 4 with
    | true =>
      simp only [Bool.true_and]
      exact key
    | false =>
      simp only [Bool.true_and, Bool.false_and]
      exact ⟨trivial, fun h => by cases h⟩
  · have hd : (s.length == 65) = false := by simpa using hl
    unfold cofB
    rw [hd, show decide (s.length = 65) = false from decide_eq_false hl]
    simp only [Bool.false_and]
    exact ⟨trivial, fun h => by cases h⟩
theorem ofP_cof (s : List UInt8) : ofP s = (ptW (cofV s), cofE s == 0) := by
  unfold ofP cofV cofE
  cases h0 : s == [0] with
  | true => rfl
  | false =>
    simp only [cond_false]
    obtain ⟨e1, e2⟩ := cofB_eq s
    rw [← e1]
    cases hB : cofB s with
    | true => rw [(e2 hB).1, (e2 hB).2]; rfl
    | false => rfl
theorem cofE_or (s : List UInt8) : cofE s = 0 ∨ cofE s = 71 := by
  unfold cofE
  cases s == [0] <;> cases cofB s <;> simp
theorem curvePoints_plain (x0 : Pw) (x1 : List UInt8) (hl : x1.length ≤ LIM) : seneschallaw07_CurvePoints_p x0 x1 = some true := by
  unfold seneschallaw07_CurvePoints_p
  have eO : curve_Of_p x1 = some (ptW (cofV x1), cofE x1) := by
    unfold curve_Of_p
    rw [bind_ok (chk_ok (decide_eq_true hl))]
  rw [bind_ok (show curve_Bytes_p x0 = some (cby (apT x0), cerr (apT x0)) from rfl), bind_ok eO, bind_ok (of7_ok x1), bind_ok (on_ok x0), bind_ok (show awake7_p = some true from rfl)]
  rw [bind_ok (show curve_On_p x0 = some (onT (apT x0)) from rfl), ofP_cof]
  have tail : (Option.bind (bif ((cofE x1 == 0) == (cofE x1 == 0)) then some ((ptW (cofV x1) : Pw) == ptW (cofV x1)) else some false) fun t4 => some (bif t4 then (bif (cofE x1 == 0) then true else (cofE x1 == 71)) else false)) = some true := by
    rw [beq_self_eq_true, cond_true]
    rw [bind_ok rfl, beq_self_eq_true, cond_true]
    rcases cofE_or x1 with h | h <;> rw [h] <;> rfl
  have tail2 : some (bif (cofE x1 == 0) then true else (cofE x1 == 71)) = some true := by
    rcases cofE_or x1 with h | h <;> rw [h] <;> rfl
  cases h : onT (apT x0) with
  | true =>
    have h2 : cerr (apT x0) = 0 := cerr_t h
    have h3 : cby (apT x0) = (bif x0.2.2 then [0] else 4 :: (be 32 (nv x0.1) ++ be 32 (nv x0.2.1))) := by
      unfold cby; rw [h]; rfl
    rw [h2]
    simp only [Bool.not_true, cond_false, bne_self_eq_false, Option.bind_some, beq_self_eq_true, cond_true]
    rw [bind_ok (bytes7_ok x0), h3, bne_self_eq_false]
    simp only [Option.bind_some, cond_false]
    first | exact tail | exact tail2
  | false =>
    have h2 : cerr (apT x0) = 70 := cerr_f h
    have h3 : cby (apT x0) = [] := (cby_f h).1
    rw [h2, h3]
    simp only [Bool.not_true, Bool.not_false, cond_false, bne_self_eq_false, Option.bind_some, cond_true, show ((70 : Int) == 0) = false from rfl]
    first | exact tail | exact tail2 | (simp only [beq_self_eq_true, cond_true, Option.bind_some]; exact tail2)
theorem curvePoints_w (p : Ap) (hp : AL p) (l : List UInt8) (hl : l.length < 68719476736) (w : World) : Calls Try.prog 10 #[.agg (ptT p).toArray, str l] w fun e w' => e = .returned (.bool true) ∧ Ext w w' := by
  rw [← clP_W p]
  exact seneschallaw07_CurvePoints_c (S := fun _ => none) (fun _ _ h => by cases h) (curvePoints_plain (ptW p) l (by unfold LIM; omega))
end Go.Proofs.Ytjmgilhlpohcmaa
