/- Two numbers of four words held against each other. -/
import Derived.Test.YtmbcolbbekbccaaBits
import Derived.Test.YtmbcolbbekbccaaFm
namespace Go.Proofs.Ytmbcolbbekbccaa
open Go Go.RowKit
theorem numL_eq_iff {A B : Nat} (hA : A < two256) (hB : B < two256) : (numL A = numL B) ↔ A = B := by
  refine ⟨fun h => ?_, fun h => by rw [h]⟩
  have := numL_inj h
  rwa [Nat.mod_eq_of_lt hA, Nat.mod_eq_of_lt hB] at this
theorem run_eqnumIn {P : Program} {T E : TypeId} (hu : P.underlying T = some (.array 4 E)) (he : P.underlying E = some (.int .u64)) (hs : ∀ w, (sizeOf E).run P w = .ok 1 w) (ha : ∀ w, (isAgg E).run P w = .ok false w)
    (A B : Nat) (hA : A < two256) (hB : B < two256) (d : Nat) (w : World) : (Op.equalIn (d + 2) T (.agg (numL A).toArray) (.agg (numL B).toArray)).run P w = .ok (A == B) w := by
  have key : (lm A 0 = lm B 0 ∧ lm A 1 = lm B 1 ∧ lm A 2 = lm B 2 ∧ lm A 3 = lm B 3) ↔ A = B := by
    rw [← numL_eq_iff hA hB]; unfold numL; simp
  have e2 : ∀ (a b : Int) (w : World), (Op.equalIn (d + 1) E (.int .u64 a) (.int .u64 b)).run P w = .ok (a == b) w := fun a b w => by
    simp [Op.equalIn, Go.underlying, he]
  have hb : (A == B) = (lm A 0 == lm B 0 && (lm A 1 == lm B 1 && (lm A 2 == lm B 2 && lm A 3 == lm B 3))) := by
    rw [Bool.eq_iff_iff]; simp only [beq_iff_eq, Bool.and_eq_true]; exact key.symm
  rw [hb]
  unfold Op.equalIn
  simp only [Sem.run_bind, Go.underlying, run_program, Result.andThen_ok, hu, Sem.run_pure, hs]
  simp only [numL, part, ha, Sem.run_bind, Result.andThen_ok, Bool.false_eq_true, if_false, Std.Legacy.Range.forIn_eq_forIn_range', Std.Legacy.Range.size]
  simp [e2, part, ha, List.range'_succ]
  cases h0 : lm A 0 == lm B 0 <;> cases h1 : lm A 1 == lm B 1 <;> cases h2 : lm A 2 == lm B 2 <;> cases h3 : lm A 3 == lm B 3 <;> simp_all
theorem run_eqnum {P : Program} {T E : TypeId} (hu : P.underlying T = some (.array 4 E)) (he : P.underlying E = some (.int .u64)) (hs : ∀ w, (sizeOf E).run P w = .ok 1 w) (ha : ∀ w, (isAgg E).run P w = .ok false w)
    (A B : Nat) (hA : A < two256) (hB : B < two256) (w : World) : (Op.equal T (.agg (numL A).toArray) (.agg (numL B).toArray)).run P w = .ok (A == B) w :=
  run_eqnumIn hu he hs ha A B hA hB 9998 w
section
variable {P : Program} {w : World} {e : Operand → Value} {x y : Operand} {T T' E : TypeId} {ty : TypeId} {pos : String} {aft : Array Edge} {dst : Option Tmp} {g : Option (Nat × Bool)} {t : Bool}
theorem r_eqnum (hu : P.underlying T = some (.array 4 E)) (he : P.underlying E = some (.int .u64)) (hs : ∀ w, (sizeOf E).run P w = .ok 1 w) (ha : ∀ w, (isAgg E).run P w = .ok false w) (hg : P.eqGuardType P.depth T = false)
    {A B : Nat} (hx : e x = .agg (numL A).toArray) (hy : e y = .agg (numL B).toArray) (hA : A < two256) (hB : B < two256) (h : (A == B) = t) : (execOp e ⟨dst, .binOp .eql T x y T', ty, pos, aft, g⟩).run P w = .ok (.value (.bool t)) w := by
  simp only [execOp, hx, hy, eqGuard, binOp, Sem.run_bind, run_program, Result.andThen_ok, hg, run_eqnum hu he hs ha A B hA hB, Sem.run_pure, h]
  simp [hg]
theorem r_nenum (hu : P.underlying T = some (.array 4 E)) (he : P.underlying E = some (.int .u64)) (hs : ∀ w, (sizeOf E).run P w = .ok 1 w) (ha : ∀ w, (isAgg E).run P w = .ok false w) (hg : P.eqGuardType P.depth T = false)
    {A B : Nat} (hx : e x = .agg (numL A).toArray) (hy : e y = .agg (numL B).toArray) (hA : A < two256) (hB : B < two256) (h : (A != B) = t) : (execOp e ⟨dst, .binOp .neq T x y T', ty, pos, aft, g⟩).run P w = .ok (.value (.bool t)) w := by
  have h' : (!(A == B)) = t := h
  simp only [execOp, hx, hy, eqGuard, binOp, Sem.run_bind, run_program, Result.andThen_ok, hg, run_eqnum hu he hs ha A B hA hB, Sem.run_pure, h']
  simp [hg]
end
end Go.Proofs.Ytmbcolbbekbccaa
