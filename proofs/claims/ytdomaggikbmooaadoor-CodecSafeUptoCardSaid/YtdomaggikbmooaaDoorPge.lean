/- What Get answers, in package codec and in its reference. Conditions: as each theorem says. -/
import Derived.Test.YtdomaggikbmooaaDoorPha
namespace Go.Proofs.YtdomaggikbmooaaDoor
open Go Go.RowKit
abbrev Pr2 : Type := List UInt8 × List UInt8
/-- The value of the first pair of the name, and how many pairs bear it. -/
def getS (k : List UInt8) : List Pr2 → List UInt8 × Int
  | [] => ([], 0)
  | x :: r => bif x.1 == k then (x.2, (getS k r).2 + 1) else getS k r
theorem getS_range (k : List UInt8) : ∀ l : List Pr2, 0 ≤ (getS k l).2 ∧ (getS k l).2 ≤ (l.length : Int)
  | [] => by simp [getS]
  | x :: r => by
    have := getS_range k r
    simp only [getS, List.length_cons]
    cases x.1 == k
    · simp only [cond_false]; omega
    · simp only [cond_true]; omega
theorem getS_snoc (k : List UInt8) (x : Pr2) : ∀ l : List Pr2, getS k (l ++ [x]) = bif x.1 == k then (bif (getS k l).2 == 0 then x.2 else (getS k l).1, (getS k l).2 + 1) else getS k l
  | [] => by
    simp only [List.nil_append, getS]
    cases x.1 == k <;> rfl
  | y :: l => by
    have ih := getS_snoc k x l
    have hr := getS_range k l
    simp only [List.cons_append, getS, ih]
    cases hy : y.1 == k
    · simp only [cond_false]
    · simp only [cond_true]
      cases x.1 == k
      · simp only [cond_false]
      · simp only [cond_true]
        have : ((getS k l).2 + 1 == 0) = false := by rw [beq_eq_false_iff_ne]; omega
        rw [this]; rfl
theorem get_run (x0 : List Pr2) (x1 : List UInt8) (h : x0.length ≤ 4194304) : codec_Get_p x0 x1 = some (getS x1 x0) := by
  have key : iter (codec_Get_b0 x0 x1) ([], 0, (w64 ((x0.length : Int) - 1))) = some (getS x1 x0) := by
    have h0 : (([] : List UInt8), (0 : Int), (w64 ((x0.length : Int) - 1))) = (fun j : Nat => ((getS x1 (x0.drop (x0.length - j))).1, (getS x1 (x0.drop (x0.length - j))).2, (x0.length : Int) - 1 - (j : Int))) 0 := by
      rw [w64_of (by omega) (by omega)]
      simp [getS]
    rw [h0]
    refine iter_run (fun j : Nat => ((getS x1 (x0.drop (x0.length - j))).1, (getS x1 (x0.drop (x0.length - j))).2, (x0.length : Int) - 1 - (j : Int))) x0.length (by omega) _ (fun j hj => ?_) ?_
    · have hlt : x0.length - (j + 1) < x0.length := by omega
      have e1 : idx x0 ((x0.length : Int) - 1 - (j : Int)) = some x0[x0.length - (j + 1)] := idx_ok (by omega) hlt
      have hd : x0.drop (x0.length - (j + 1)) = x0[x0.length - (j + 1)] :: x0.drop (x0.length - j) := by
        rw [drop_at hlt]; congr 2; omega
      have hr := getS_range x1 (x0.drop (x0.length - j))
      have hl : (x0.drop (x0.length - j)).length ≤ x0.length := by simp
      rw [hd]
      simp only [codec_Get_b0, dec_t (show (0 : Int) ≤ (x0.length : Int) - 1 - (j : Int) by omega), e1, some_bind, getS]
      rw [w64_of (x := (x0.length : Int) - 1 - (j : Int) - 1) (by omega) (by omega), w64_of (x := (getS x1 (x0.drop (x0.length - j))).2 + 1) (by omega) (by omega)]
      have e2 : (x0.length : Int) - 1 - (j : Int) - 1 = (x0.length : Int) - 1 - ((j + 1 : Nat) : Int) := by omega
      rw [e2]
      cases (x0[x0.length - (j + 1)].1 == x1) <;> rfl
    · simp only [codec_Get_b0, Nat.sub_self, List.drop_zero]
      rw [dec_f (by omega)]
  rw [codec_Get_p, key]; rfl
theorem refGet_run (x0 : List Pr2) (x1 : List UInt8) (h : x0.length ≤ 4194304) : seneschalref01_Get_p x0 x1 = some (getS x1 x0) := by
  have key : iter (seneschalref01_Get_b0 x0 x1) ([], 0, 0) = some (getS x1 x0) := by
    refine iter_run (fun j : Nat => ((getS x1 (x0.take j)).1, (getS x1 (x0.take j)).2, (j : Int))) x0.length (by omega) _ (fun j hj => ?_) ?_
    · have e1 : idx x0 (j : Int) = some x0[j] := idx_ok rfl hj
      have hr := getS_range x1 (x0.take j)
      have hl : (x0.take j).length ≤ x0.length := by simp; omega
      rw [take_succ hj, getS_snoc]
      simp only [seneschalref01_Get_b0, dec_t (show (j : Int) < (x0.length : Int) by omega), e1, some_bind]
      rw [w64_of (x := (j : Int) + 1) (by omega) (by omega), w64_of (x := (getS x1 (x0.take j)).2 + 1) (by omega) (by omega)]
      cases (x0[j].1 == x1)
      · rfl
      · cases ((getS x1 (x0.take j)).2 == 0) <;> rfl
    · simp only [seneschalref01_Get_b0, List.take_length]
      rw [dec_f (by omega)]
  rw [seneschalref01_Get_p, key]; rfl
/-- THE LAW. -/
theorem codecGet_plain (x0 : List Pr2) (x1 : List UInt8) (h : x0.length ≤ 1048576) : seneschallaw01_CodecGet_p x0 x1 = some true := by
  rw [seneschallaw01_CodecGet_p, get_run x0 x1 (by omega), refGet_run x0 x1 (by omega), awake_true]
  simp only [some_bind, cond_true, beq_self_eq_true]
end Go.Proofs.YtdomaggikbmooaaDoor
