/- From a walk of a law to what is said of it: points. Conditions: as each theorem says. -/
import Derived.Test.YtjmgilhlpohcmaaJoin
import Derived.Test.YtjmgilhlpohcmaaCrv
namespace Go.Proofs.Ytjmgilhlpohcmaa
open Go Go.RowKit Go.ChangeShapes Go.WideShapes Go.ChangeAt
variable {P : Program} {W : World} {b0 : Nat} {T E B : TypeId} {v : Value}
theorem cell_bool {u : Value} (he : P.underlying E = some .bool) (h : Cell.okWide P W .any b0 E u) : ∃ x, u = .bool x := by
  simp only [Cell.okWide, Cell.ok, he] at h
  cases u <;> simp_all
theorem ok_point (hu : P.underlying T = some (.struct (fieldsOf P T))) (he : P.underlying E = some (.int .u64)) (hb : P.underlying B = some .bool) (hc : P.cellsOf T = 9) (ht : P.cellTypes P.depth T = some [E, E, E, E, E, E, E, E, B]) (h : Value.okWide P W .any b0 T v) :
    ∃ p : Ap, AL p ∧ v = .agg (ptT p).toArray := by
  obtain ⟨l, rfl, hl, hall⟩ := ok_cells (.inl ⟨_, hu⟩) hc ht rfl h
  match l, hl with
  | [a1, a2, a3, a4, b1, b2, b3, b4, i], _ =>
    have get : ∀ (k : Nat) (u : Value), [a1, a2, a3, a4, b1, b2, b3, b4, i][k]? = some u → k < 8 → ∃ x, u = .int .u64 x ∧ U x := fun k u hi hk => by
      obtain ⟨t, h1, h2⟩ := hall k u hi
      have : t = E := by
        match k, h1, hk with
        | 0, h1, _ | 1, h1, _ | 2, h1, _ | 3, h1, _ | 4, h1, _ | 5, h1, _ | 6, h1, _ | 7, h1, _ => simpa using h1.symm
      subst this
      exact cell_u64 he h2
    obtain ⟨A, hA, eA⟩ := words4 (a := a1) (b := a2) (c := a3) (d := a4) fun u hm => by
      simp at hm
      rcases hm with rfl | rfl | rfl | rfl
      · exact get 0 _ rfl (by decide)
      · exact get 1 _ rfl (by decide)
      · exact get 2 _ rfl (by decide)
      · exact get 3 _ rfl (by decide)
    obtain ⟨B', hB, eB⟩ := words4 (a := b1) (b := b2) (c := b3) (d := b4) fun u hm => by
      simp at hm
      rcases hm with rfl | rfl | rfl | rfl
      · exact get 4 _ rfl (by decide)
      · exact get 5 _ rfl (by decide)
      · exact get 6 _ rfl (by decide)
      · exact get 7 _ rfl (by decide)
    obtain ⟨t, h1, h2⟩ := hall 8 i rfl
    obtain rfl : t = B := by simpa using h1.symm
    obtain ⟨j, rfl⟩ := cell_bool hb h2
    exact ⟨(A, B', j), ⟨hA, hB⟩, by
      show _ = Value.agg (ptL A B' j).toArray
      rw [ptL, ← eA, ← eB]; rfl⟩
end Go.Proofs.Ytjmgilhlpohcmaa
