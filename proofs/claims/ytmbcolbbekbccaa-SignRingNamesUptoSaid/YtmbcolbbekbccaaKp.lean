/- Pointers into memory that is only read, and what stands for them; cells whose content does not matter. Conditions: as each theorem says. -/
import Derived.Test.YtmbcolbbekbccaaPu
namespace Go.Proofs.Ytmbcolbbekbccaa
open Go Go.RowKit
section
variable {α : Type} [Rp α] {S T : Mem}
instance instRpOpt : Rp (Option α) where
  sz := 1
  rep S c x := match x with
    | none => c = [.pointer none]
    | some a => ∃ b cs, c = [.pointer (some ⟨b, 0, none⟩)] ∧ CellAt S b 0 cs ∧ Rp.rep S cs a
  len {_ _ x} h := by cases x with
    | none => rw [show _ = _ from h]; rfl
    | some a => obtain ⟨b, cs, e, _⟩ := h; rw [e]; rfl
  mono {_ _ _ x} h hl := by cases x with
    | none => exact h
    | some a => obtain ⟨b, cs, e, h1, h2⟩ := h; exact ⟨b, cs, e, h1.mono hl, Rp.mono h2 hl⟩
  one {_ _ x} h u hu := by cases x with
    | none => rw [show _ = _ from h, List.mem_singleton] at hu; rw [hu]; rfl
    | some a => obtain ⟨b, cs, e, _⟩ := h; rw [e, List.mem_singleton] at hu; rw [hu]; rfl
theorem Rp.rep.mono {β : Type} [Rp β] {c : List Value} {x : β} (h : Rp.rep S c x) (hl : Mem.le S T) : Rp.rep T c x := Rp.mono h hl
theorem rpK0 : Rp.rep S [.pointer none] (none : Option α) := rfl
theorem rpK {b : Nat} {cs : List Value} {a : α} (hc : CellAt S b 0 cs) (h : Rp.rep S cs a) : Rp.rep S [.pointer (some ⟨b, 0, none⟩)] (some a) := ⟨b, cs, rfl, hc, h⟩
theorem elK {c : List Value} {x : Option α} (h : Rp.rep S c x) : ∃ v, c = [v] ∧ Rp.rep S [v] x := by
  cases x with
  | none => exact ⟨_, h, rfl⟩
  | some a => obtain ⟨b, cs, e, h1, h2⟩ := h; exact ⟨_, e, b, cs, rfl, h1, h2⟩
theorem opK {v : Value} {x : Option α} {a : α} (h : Rp.rep S [v] x) (e : x = some a) : ∃ b cs, v = .pointer (some ⟨b, 0, none⟩) ∧ CellAt S b 0 cs ∧ Rp.rep S cs a := by
  subst e
  obtain ⟨b, cs, e, h1, h2⟩ := h
  exact ⟨b, cs, (List.cons.inj e).1, h1, h2⟩
theorem opK' {b : Nat} {x : Option α} {a : α} (h : Rp.rep S [.pointer (some ⟨b, 0, none⟩)] x) (e : x = some a) : ∃ cs, CellAt S b 0 cs ∧ Rp.rep S cs a := by
  obtain ⟨b', cs, e, h1, h2⟩ := opK h e
  cases e
  exact ⟨cs, h1, h2⟩
theorem oneK {v : Value} {x : Option α} (h : Rp.rep S [v] x) : v.oneCell' = true := Rp.one h v List.mem_cons_self
theorem cellsK {v : Value} {x : Option α} (h : Rp.rep S [v] x) : v.cells.toList = [v] := by
  cases x with
  | none => rw [(List.cons.inj (show [v] = [_] from h)).1]; rfl
  | some a => obtain ⟨b, cs, e, _⟩ := h; rw [(List.cons.inj e).1]; rfl
theorem CellAt.whole {b : Nat} {cs : List Value} {E : TypeId} {fz : Nat × Nat} (h : S b = some (.cells cs.toArray E fz)) : CellAt S b 0 cs := ⟨cs, E, fz, h, by omega, by rw [piece_eq]; simp⟩
end
section
variable {P : Program} {w : World} {e : Operand → Value} {dst : Option Nat} {ty : TypeId} {pos : String} {aft : Array Edge} {g : Option (Nat × Bool)} {T T' E : TypeId} {x y : Operand}
theorem run_eqK0 {a : Option Addr} (hu : P.underlying T = some (.pointer E)) : (Op.equal T (.pointer a) (.pointer none)).run P w = .ok a.isNone w := by
  have key : ∀ d, (Op.equalIn (d + 1) T (.pointer a) (.pointer none)).run P w = .ok a.isNone w := fun d => by
    cases a <;> simp [Op.equalIn, Go.underlying, hu]
  exact key 9999
theorem r_eqPn {a : Option Addr} (hu : P.underlying T = some (.pointer E)) (hg : P.eqGuardType P.depth T = false) (h1 : e x = .pointer a) (h2 : e y = .pointer none) : (execOp e ⟨dst, .binOp .eql T x y T', ty, pos, aft, g⟩).run P w = .ok (.value (.bool a.isNone)) w := by
  have key := run_eqK0 (w := w) (a := a) hu
  simp only [execOp, h1, h2, eqGuard, binOp, Sem.run_bind, run_program, Result.andThen_ok, hg]
  simp [hg, key]
theorem r_nePn {a : Option Addr} (hu : P.underlying T = some (.pointer E)) (hg : P.eqGuardType P.depth T = false) (h1 : e x = .pointer a) (h2 : e y = .pointer none) : (execOp e ⟨dst, .binOp .neq T x y T', ty, pos, aft, g⟩).run P w = .ok (.value (.bool (!a.isNone))) w := by
  have key := run_eqK0 (w := w) (a := a) hu
  simp only [execOp, h1, h2, eqGuard, binOp, Sem.run_bind, run_program, Result.andThen_ok, hg]
  simp [hg, key]
variable {α : Type} [Rp α] {S : Mem} {v : Value} {X : Option α}
theorem ptrK (h : Rp.rep S [v] X) : ∃ a, v = .pointer a ∧ a.isNone = X.isNone := by
  cases X with
  | none => exact ⟨none, (List.cons.inj (show [v] = [_] from h)).1, rfl⟩
  | some a => obtain ⟨b, cs, e, _⟩ := h; exact ⟨_, (List.cons.inj e).1, rfl⟩
theorem r_eqK (hu : P.underlying T = some (.pointer E)) (hg : P.eqGuardType P.depth T = false) (h1 : e x = v) (h : Rp.rep S [v] X) (h2 : e y = .pointer none) : (execOp e ⟨dst, .binOp .eql T x y T', ty, pos, aft, g⟩).run P w = .ok (.value (.bool X.isNone)) w := by
  obtain ⟨a, rfl, e⟩ := ptrK h
  rw [← e]; exact r_eqPn hu hg h1 h2
theorem r_neK (hu : P.underlying T = some (.pointer E)) (hg : P.eqGuardType P.depth T = false) (h1 : e x = v) (h : Rp.rep S [v] X) (h2 : e y = .pointer none) : (execOp e ⟨dst, .binOp .neq T x y T', ty, pos, aft, g⟩).run P w = .ok (.value (.bool (!X.isNone))) w := by
  obtain ⟨a, rfl, e⟩ := ptrK h
  rw [← e]; exact r_nePn hu hg h1 h2
end
section
variable {B : Bas} {S T : Mem} {w w' : World} {L N : List Res}
theorem HS.ownCells (H : HS B S w L) {k : Nat} {v : Value} {n sz : Nat} {cs rs : List Value} {E : TypeId} (hk : lkR L k = some (.osl v n sz cs rs E)) : v.cells.toList = [v] := by
  rcases H.own k _ hk with ⟨rfl, _⟩ | ⟨b, c, fz, rfl, _⟩ <;> rfl
theorem HS.blkAt (H : HS B S w L) {k b : Nat} {cs : List Value} {E : TypeId} (hk : lkR L k = some (.blk b cs E)) : CellAt (memOf w) b 0 cs := CellAt.whole (H.own k _ hk)
/-- Behind a call to which something was lent: what it laid anew. -/
theorem HS.joinNew {S2 : Mem} (H : HS B S w L) (H2 : HS ⟨memOf w, [], w⟩ S2 w' N) : HS B S w' (N ++ L) := by
  have hx : Ext w w' := H2.fr.ext
  have H' := H.ext hx
  have hlk : ∀ k, lkR (N ++ L) k = if k < N.length then lkR N k else lkR L (k - N.length) := fun k => by
    rw [lkR_eq, lkR_eq, lkR_eq, List.getElem?_append]
  have hN : ∀ k r b, lkR N k = some r → r.key = some b → w.heap.size ≤ b := fun k r b hk hb => by
    rcases (H2.old k r b hk hb).1 with h | h
    · exact h
    · simp at h
  refine ⟨H'.fr, H'.sub, H'.keep, fun k r hk => ?_, fun k r b hk hb => ?_, fun i j r s b hi hj h1 h2 => ?_⟩
  · rw [hlk] at hk; split at hk
    · exact H2.own k r hk
    · exact H'.own _ r hk
  · rw [hlk] at hk; split at hk
    · have := hN k r b hk hb; exact ⟨.inl (Nat.le_trans H.fr.size this), H.sub.none this⟩
    · exact H'.old _ r b hk hb
  · rw [hlk] at hi hj
    split at hi <;> split at hj
    · exact H2.inj i j r s b hi hj h1 h2
    · have := hN _ r b hi h1; have := H.res_lt hj h2; omega
    · have := hN _ s b hj h2; have := H.res_lt hi h1; omega
    · have := H'.inj _ _ r s b hi hj h1 h2; omega
theorem RL.strs : ∀ {xs : List (List UInt8)} {cs : List Value}, RL S cs xs → RL T cs xs
  | [], _, h => h
  | _ :: _, _, ⟨c, d, e, h1, h2⟩ => ⟨c, d, e, h1, RL.strs h2⟩
end
/-- Three cells whose content does not matter. -/
structure Onc where
  l : List Value
  h : l.length = 3
  one : l.all (·.oneCell') = true
instance instRpOnc : Rp Onc where
  sz := 3
  rep _ c x := c = x.l
  len {_ _ x} e := by rw [e]; exact x.h
  mono e _ := e
  one {_ _ x} e u hu := by rw [e] at hu; exact List.all_eq_true.1 x.one u hu
theorem rpOnc {S : Mem} (x : Onc) : Rp.rep S x.l x := rfl
theorem elOnc {S : Mem} {c : List Value} {x : Onc} (h : Rp.rep S c x) : c = x.l := h
def onc0 : Onc := ⟨[.int .u32 0, .int .i32 0, .int .u32 0], rfl, rfl⟩
end Go.Proofs.Ytmbcolbbekbccaa
