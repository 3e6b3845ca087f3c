/- The steps of a walk through a region that draws its order, in the order of the text. -/
import Derived.Test.YtdomaggikbmooaaDoorReg2
namespace Go.Proofs.YtdomaggikbmooaaDoor
open Go Go.RowKit

theorem on_norm {Q : Exit → Act → World → Prop} {a : Act} {w : World} (h : Q .normal a w) : OnlyNormal Q .normal a w := h
def kinds (l : List (Nat × Sum Value (Value → World → Prop))) : Kinds := fun k => (l.find? fun p => p.1 == k).map (·.2)

section
variable {P : Program} {ops : Array Oper} {n : Nat} {Φ : Kinds} {w0 : World} {vs : Nat → Value} {Fin : Act → Prop} {k : Nat} {o : Oper} {rest : List Oper} {a : Act}

theorem wpT_nil (h : Fin a) : wpT P ops n Φ w0 vs Fin k [] a := h
theorem wpT_pure {c : Value} (hk : Φ k = none) (hfl : floats ops n k = false) (hw : Region.wanted o (yielded ops a.tmps) = true)
    (h : ∀ w, Ext w0 w → factsL Φ vs w (depsOf o) → (execOp a.eval o).run P w = .ok (.value c) w) (hr : wpT P ops n Φ w0 vs Fin (k + 1) rest (a.put o.dst c)) :
    wpT P ops n Φ w0 vs Fin k (o :: rest) a := by
  unfold wpT; simp only [hk]; refine ⟨c, ?_, hr⟩; unfold pureOK; rw [if_neg (by simp [hfl])]; exact .inl ⟨hw, h⟩
theorem wpT_float {c : Value} (hk : Φ k = none) (hfl : floats ops n k = true) (hw : Region.wanted o (yielded ops a.tmps) = true)
    (h : ∀ w, (execOp a.eval o).run P w = .ok (.value c) w) (hr : wpT P ops n Φ w0 vs Fin (k + 1) rest (a.put o.dst c)) :
    wpT P ops n Φ w0 vs Fin k (o :: rest) a := by
  unfold wpT; simp only [hk]; refine ⟨c, ?_, hr⟩; unfold pureOK; rw [if_pos hfl]; exact .inl ⟨hw, fun w _ => h w⟩
theorem wpT_floatX {c : Value} (hX : (Φ xm).isSome = true) (hk : Φ k = none) (hfl : floats ops n k = true) (hw : Region.wanted o (yielded ops a.tmps) = true)
    (h : ∀ w, Ext w0 w → (execOp a.eval o).run P w = .ok (.value c) w) (hr : wpT P ops n Φ w0 vs Fin (k + 1) rest (a.put o.dst c)) :
    wpT P ops n Φ w0 vs Fin k (o :: rest) a := by
  unfold wpT; simp only [hk]; refine ⟨c, ?_, hr⟩; unfold pureOK; rw [if_pos hfl]; exact .inl ⟨hw, fun w hx => h w (hx hX)⟩
theorem wpT_skip (hk : Φ k = none) (hw : Region.wanted o (yielded ops a.tmps) = false) (hr : wpT P ops n Φ w0 vs Fin (k + 1) rest (a.put o.dst undef)) :
    wpT P ops n Φ w0 vs Fin k (o :: rest) a := by
  unfold wpT; simp only [hk]; refine ⟨undef, ?_, hr⟩; unfold pureOK; split
  · exact .inr ⟨hw, rfl⟩
  · exact .inr ⟨hw, rfl⟩
theorem wpT_det {c : Value} (hnn : isNew o = false) (hk : Φ k = some (.inl c)) (hfl : floats ops n k = false) (hw : Region.wanted o (yielded ops a.tmps) = true)
    (h : ∀ w, Ext w0 w → factsL Φ vs w (depsOf o) → ∀ R : Value → World → Prop, (∀ w', Ext w w' → R c w') → outcome P R ((execOp a.eval o).run P w))
    (hr : wpT P ops n Φ w0 vs Fin (k + 1) rest (a.put o.dst c)) : wpT P ops n Φ w0 vs Fin k (o :: rest) a := by
  unfold wpT; simp only [hk]; refine ⟨hfl, ?_, hr⟩; unfold stepOK; rw [if_pos hw]
  exact fun w hx hf R hR => h w hx hf R fun w' hx' => hR _ _ hx' rfl fun hn => absurd hn (by rw [hnn]; exact Bool.false_ne_true)
theorem wpT_rel {φ : Value → World → Prop} (hk : Φ k = some (.inr φ)) (hfl : floats ops n k = false) (hs : ∀ v w w', φ v w → Ext w w' → φ v w') (hw : Region.wanted o (yielded ops a.tmps) = true)
    (ho : isNew o = true → ∀ v w, φ v w → Old w v)
    (h : ∀ w, Ext w0 w → factsL Φ vs w (depsOf o) → ∀ R : Value → World → Prop, (∀ v w', Ext w w' → φ v w' → (isNew o = true → ¬ Old w v) → R v w') → outcome P R ((execOp a.eval o).run P w))
    (hr : wpT P ops n Φ w0 vs Fin (k + 1) rest (a.put o.dst (vs k))) : wpT P ops n Φ w0 vs Fin k (o :: rest) a := by
  unfold wpT; simp only [hk]; refine ⟨hfl, hs, ho, ?_, hr⟩; unfold stepOK; rw [if_pos hw]
  exact h
end

theorem factsL_get {Φ : Kinds} {vs : Nat → Value} {w : World} {l : List Nat} (h : factsL Φ vs w l) (j : Nat) (hj : l.contains j = true) : factAt Φ vs w j :=
  factsL_iff.1 h j (by simpa using hj)
theorem fact_rel {Φ : Kinds} {vs : Nat → Value} {w : World} {l : List Nat} (h : factsL Φ vs w l) (j : Nat) {φ : Value → World → Prop} (hk : Φ j = some (.inr φ)) (hj : l.contains j = true) : φ (vs j) w := by
  have := factsL_get h j hj
  unfold factAt at this
  rw [hk] at this
  exact this

theorem Ext.cells {w w' : World} (h : Ext w w') : (∀ b o, b < w.heap.size → w'.cell? ⟨b, o, none⟩ = w.cell? ⟨b, o, none⟩) ∧ (∀ b o, b < w.heap.size → w'.frozen? ⟨b, o, none⟩ = w.frozen? ⟨b, o, none⟩) :=
  ⟨fun b o hb => Below.cell (p := ⟨b, o, none⟩) h hb, fun b o hb => Below.frozen (p := ⟨b, o, none⟩) h hb⟩
theorem Ext.below {B : Nat} {w w' : World} (h : Ext w w') (hB : B ≤ w.heap.size) : Below B w w' := Below.mono h hB
end Go.Proofs.YtdomaggikbmooaaDoor
