/- What the codec laws' rows share: the variable of the library's is a number; a world in which the listed tables lie. Conditions: as each theorem says. -/
import Derived.Test.YtdomaggikbmooaaDoorJs
import Derived.Test.YtdomaggikbmooaaDoorShelf
namespace Go.Proofs.YtdomaggikbmooaaDoor
open Go Go.RowKit Go.ChangeShapes Go.WideShapes Go.ChangeAt
theorem gv_of {W : World} (h : W.ShapedOpen Tryd.prog) : GV (memOf W) := by
  obtain ⟨m, hm⟩ := Tryd.laysM219.s1_3 W h
  have hm : W.cell? ⟨0, 0, none⟩ = some (.int .i64 m) := hm
  unfold World.cell? at hm
  split at hm
  · rename_i c E fz hb
    simp only [Option.isSome_none, if_neg (show ¬ (false = true) by decide)] at hm
    exact ⟨c, E, fz, m, hb, hm⟩
  · cases hm
theorem own_none : ownKnob Tryd.prog.godebug = none := by kernel_rfl
/-- A datum's cells, where it is made of whole numbers. -/
def cellsD : DataW Unit → List Value
  | .lit (.int k n) => [.int k n]
  | .agg l => go l
  | _ => []
where go : List (DataW Unit) → List Value
  | [] => []
  | d :: l => cellsD d ++ go l
def layCells (l : List Value) : Obj → Obj
  | .cells _ t frozen => .cells l.toArray t frozen
  | o => o
noncomputable def laidWorld (os : Os) : World :=
  { World.holding Tryd.prog os ⟨#[], #[], []⟩ with heap := ((World.holding Tryd.prog os ⟨#[], #[], []⟩).heap.modify 1 (layCells (cellsD Go.Pinned.utf8First))).modify 2 (layCells (cellsD Rows.laid_unicode_utf8_acceptRanges)) }
end Go.Proofs.YtdomaggikbmooaaDoor
