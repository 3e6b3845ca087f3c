/- Steps of a walk: blocks that are only read any more. Conditions: as each theorem says. -/
import Derived.Test.YtmbcolbbekbccaaSlc
namespace Go.Proofs.Ytmbcolbbekbccaa
open Go Go.RowKit
/-- What a block holds, and will hold. -/
def Bk (w : World) (b : Nat) (cs : List Value) (T : TypeId) : Prop := w.heap[b]? = some (.cells cs.toArray T (0, 0))
theorem Bk.ext {w w' : World} {b : Nat} {cs : List Value} {T : TypeId} (h : Bk w b cs T) (hx : Ext w w') : Bk w' b cs T := by
  have hb := lt_of_blk h
  unfold Bk at *
  rw [Below.block hx b hb]
  exact h
theorem Bk.hp {w0 w : World} {L : List Ent} {b : Nat} {cs : List Value} {T : TypeId} (h : Bk w0 b cs T) (H : HP w0 w L) : Bk w b cs T := h.ext H.below
theorem HP.bk {w0 w : World} {L : List Ent} {k b : Nat} {cs : List Value} {T : TypeId} (H : HP w0 w L) (hk : lk L k = some (b, cs, T)) : Bk w b cs T := (H.blk k b cs T hk).1
section
variable {P : Program} {w w0 : World} {e : Operand → Value} {dst : Option Tmp} {g : Option (Nat × Bool)} {ty : TypeId} {pos : String} {aft : Array Edge} {x y : Operand} {T T' : TypeId} {b o sz : Nat} {cs l : List Value} {v : Value}
theorem r_loadB (tg : TAgg P T sz) (hp : e x = .pointer (some ⟨b, o, none⟩)) (hb : Bk w b cs T') (hl : piece cs o sz = l) (hsz : Nat.ble (o + sz) cs.length = true) :
    (execOp e ⟨dst, .load T x, ty, pos, aft, g⟩).run P w = .ok (.value (.agg l.toArray)) w := by
  simp [execOp, hp, run_loadAgg tg hb hl hsz]
theorem r_loadBW (tg : TAgg P T sz) (hp : e x = .pointer (some ⟨b, 0, none⟩)) (hb : Bk w b cs T') (hsz : cs.length = sz) :
    (execOp e ⟨dst, .load T x, ty, pos, aft, g⟩).run P w = .ok (.value (.agg cs.toArray)) w :=
  r_loadB tg hp hb (by rw [piece_eq, List.drop_zero, List.take_of_length_le (by omega)]) (by rw [Nat.zero_add, hsz]; simp)
theorem r_loadB1 (tg : TOne P T) (hp : e x = .pointer (some ⟨b, o, none⟩)) (hb : Bk w b cs T') (hv : piece cs o 1 = [v]) :
    (execOp e ⟨dst, .load T x, ty, pos, aft, g⟩).run P w = .ok (.value v) w := by
  have h1 : cs[o]? = some v := by
    rw [piece_eq] at hv
    have h2 : ((cs.drop o).take 1)[0]? = some v := by rw [hv]; rfl
    simpa using h2
  simp [execOp, hp, run_loadOne tg hb h1]
theorem run_eqB {a b : Bool} (h1 : P.underlying T = some .bool) : (Op.equal T (.bool a) (.bool b)).run P w = .ok (a == b) w := by
  have h : ∀ d, (Op.equalIn (d + 1) T (.bool a) (.bool b)).run P w = .ok (a == b) w := fun d => by simp [Op.equalIn, Go.underlying, h1]
  exact h 9999
theorem r_eqB {a b t : Bool} {T'} (h1 : P.underlying T = some .bool) (hx : e x = .bool a) (hy : e y = .bool b) (h : (a == b) = t) : (execOp e ⟨dst, .binOp .eql T x y T', ty, pos, aft, g⟩).run P w = .ok (.value (.bool t)) w := by
  simp [execOp, eqGuard, binOp, hx, hy, run_eqB h1, h]
theorem r_neB {a b t : Bool} {T'} (h1 : P.underlying T = some .bool) (hx : e x = .bool a) (hy : e y = .bool b) (h : (a != b) = t) : (execOp e ⟨dst, .binOp .neq T x y T', ty, pos, aft, g⟩).run P w = .ok (.value (.bool t)) w := by
  simp only [bne] at h
  simp [execOp, eqGuard, binOp, hx, hy, run_eqB h1, h]
end
end Go.Proofs.Ytmbcolbbekbccaa
