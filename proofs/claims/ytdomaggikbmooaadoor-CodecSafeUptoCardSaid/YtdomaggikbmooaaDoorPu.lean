/- Steps of a walk: going through a text rune by rune; pairs of texts held against each other. Conditions: as each theorem says. -/
import Derived.Test.YtdomaggikbmooaaDoorPt
namespace Go.Proofs.YtdomaggikbmooaaDoor
open Go Go.RowKit
/-- An iterator over a text. -/
abbrev itT (l : List UInt8) (p : Nat) : Obj := .stringIter ⟨l.toArray⟩ p
def dec (l : List UInt8) (p : Nat) : Nat × Nat := Utf8.decode ⟨l.toArray⟩ p
/-- The rune at a place, and the place behind it. -/
def nxR (l : List UInt8) (p : Nat) : Int := ((dec l p).1 : Int)
def nxP (l : List UInt8) (p : Nat) : Nat := bif decide (p < l.length) then p + (dec l p).2 else p
def nxV (l : List UInt8) (p : Nat) : Value := bif decide (p < l.length) then .tuple #[.bool true, .int .i64 (p : Int), .int .i32 (nxR l p)] else .tuple #[.bool false]
section
variable {P : Program} {ops : Array Oper} {Q : Exit → Act → World → Prop} {rest : List Oper} {n : Nat} {m : FM} {w : World} {B : Bas} {S : Mem} {L : List Res}
variable {d : Nat} {op : Op} {ty : TypeId} {pos : String} {aft : Array Edge} {c v : Value} {x y : Operand} {T T' : TypeId} {e : Operand → Value} {dst : Option Tmp} {g : Option (Nat × Bool)}
theorem p_ofc {φ : World → Prop} (h : ∃ w', (execOp (ev n m) ⟨some d, op, ty, pos, aft, none⟩).run P w = .ok (.value c) w' ∧ φ w') (hr : ∀ w', φ w' → wpList P ops Q rest (fr n ((d, c) :: m)) w') :
    wpList P ops Q (⟨some d, op, ty, pos, aft, none⟩ :: rest) (fr n m) w := by
  obtain ⟨w', h1, h2⟩ := h
  exact p_new h1 (hr w' h2)
theorem run_getIt {s : ByteArray} {p b : Nat} (h : w.heap[b]? = some (.stringIter s p)) : (getObj b).run P w = .ok (.stringIter s p) w := by
  simp [getObj, Sem.run, h]
theorem run_setIt {s : ByteArray} {p b : Nat} {o : Obj} (h : w.heap[b]? = some (.stringIter s p)) : (setObj b o).run P w = .ok () { w with heap := w.heap.setIfInBounds b o } := by
  simp [setObj, Sem.run, h]
theorem a_rangeT {l : List UInt8} (H : HS B S w L) (hu : P.underlying T = some .string) (hx : e x = str l) :
    ∃ w' b, (execOp e ⟨dst, .range T x, ty, pos, aft, g⟩).run P w = .ok (.value (.pointer (some ⟨b, 0, none⟩))) w' ∧ HS B S w' (.obj b (itT l 0) :: L) := by
  refine ⟨w.alloc (itT l 0), w.heap.size, ?_, H.push (Ext.alloc w _) (heap_alloc_self w _) fun b hb => by cases hb; exact Nat.le_refl _⟩
  simp [execOp, Instr.range, Go.underlying, hu, hx, str, itT]
theorem a_nextT {l : List UInt8} {p k b : Nat} (H : HS B S w L) (hx : e x = .pointer (some ⟨b, 0, none⟩)) (hk : lkR L k = some (.obj b (itT l p))) :
    ∃ w', (execOp e ⟨dst, .next x true, ty, pos, aft, g⟩).run P w = .ok (.value (nxV l p)) w' ∧ HS B S w' (stR L k (.obj b (itT l (nxP l p)))) := by
  have hb : w.heap[b]? = some (itT l p) := H.own k _ hk
  have hsz : (⟨l.toArray⟩ : ByteArray).size = l.length := str_size l
  by_cases hp : p < l.length
  · have hblt := lt_of_heap hb
    refine ⟨{ w with heap := w.heap.setIfInBounds b (itT l (nxP l p)) }, ?_, H.upd hk (by simp) rfl rfl rfl (fun i _ hne => ?_) ?_ fun b' hb' => .inl hb'⟩
    · simp [execOp, Instr.next, hx, run_getIt hb, hsz, hp, nxV, nxP, nxR, dec, run_setIt hb, goInt]
    · have hib : i ≠ b := fun e => hne (by rw [e]; rfl)
      show (w.heap.setIfInBounds b _)[i]? = _
      rw [Array.getElem?_setIfInBounds_ne (Ne.symm hib)]
    · show (w.heap.setIfInBounds b _)[b]? = _
      simp [hblt]
  · refine ⟨w, ?_, ?_⟩
    · simp [execOp, Instr.next, hx, run_getIt hb, hsz, hp, nxV]
    · have e1 : nxP l p = p := by simp [nxP, hp]
      rw [e1]
      have e2 : stR L k (.obj b (itT l p)) = L := by
        clear H
        induction L generalizing k with
        | nil => rfl
        | cons r L ih =>
          cases k with
          | zero => simp only [lkR, Option.some.injEq] at hk; rw [hk]; rfl
          | succ k => simp only [lkR] at hk; simp only [stR]; rw [ih hk]
      rw [e2]; exact H
theorem r_nx0 {l : List UInt8} {p : Nat} (hx : e x = nxV l p) : (execOp e ⟨dst, .extract x 0, ty, pos, aft, g⟩).run P w = .ok (.value (.bool (decide (p < l.length)))) w := by
  by_cases hp : p < l.length <;> simp [execOp, Instr.extract, hx, nxV, hp]
theorem r_nx1 {l : List UInt8} {p : Nat} (hx : e x = nxV l p) (hp : decide (p < l.length) = true) : (execOp e ⟨dst, .extract x 1, ty, pos, aft, g⟩).run P w = .ok (.value (.int .i64 (p : Int))) w := by
  simp [execOp, Instr.extract, hx, nxV, hp]
theorem r_nx2 {l : List UInt8} {p : Nat} (hx : e x = nxV l p) (hp : decide (p < l.length) = true) : (execOp e ⟨dst, .extract x 2, ty, pos, aft, g⟩).run P w = .ok (.value (.int .i32 (nxR l p))) w := by
  simp [execOp, Instr.extract, hx, nxV, hp]
theorem r_nilck {a : Addr} (hx : e x = .pointer (some a)) : (execOp e ⟨dst, .nilCheck x, ty, pos, aft, g⟩).run P w = .ok (.value (.pointer (some a))) w := by
  simp [execOp, hx]
/-- All of a memory, for a call that only reads. -/
def memOf (w : World) : Mem := fun b => w.heap[b]?
theorem subMem (w : World) : Sub (memOf w) w := fun _ _ h => h
theorem RdS.ofOwn {α : Type} [Rp α] {xs : List α} {k sz : Nat} {cs rs : List Value} (H : HS B S w L) (hk : lkR L k = some (.osl v xs.length sz cs rs T)) (hr : RL S cs xs) (hs : Rp.sz α = sz := by rfl) : RdS (memOf w) v xs := by
  subst hs
  exact ⟨cs, H.slW hk, hr.mono H.sub⟩
theorem args_nil : args? n m [] = [] := rfl
theorem args_cons {l : List Operand} {vs : List Value} (h : ev n m x = v) (t : args? n m l = vs) : args? n m (x :: l) = v :: vs := by rw [← h, ← t]; rfl
theorem HS.ownOne {k N sz : Nat} {cs rs : List Value} (H : HS B S w L) (hk : lkR L k = some (.osl v N sz cs rs T)) : v.oneCell' = true := by
  rcases H.own k _ hk with ⟨h, _⟩ | ⟨b, c, fz, h, _⟩ <;> rw [h] <;> rfl
/-- What a builder's first cell holds. -/
def BA (b : Nat) (a : Value) : Prop := a = .pointer none ∨ a = .pointer (some ⟨b, 0, none⟩)
/-- A variable of the library's holds a number. -/
def GV (S : Mem) : Prop := ∃ ds T fz m, S 0 = some (.cells ds T fz) ∧ ds[0]? = some (.int .i64 m)
theorem GV.mono {S T : Mem} (h : GV S) (hl : Mem.le S T) : GV T := by
  obtain ⟨ds, E, fz, m, h1, h2⟩ := h
  exact ⟨ds, E, fz, m, hl _ _ h1, h2⟩
theorem GV.cell (h : GV S) (hS : Sub S w) : ∃ m, w.cell? ⟨0, 0, none⟩ = some (.int .i64 m) := by
  obtain ⟨ds, E, fz, m, h1, h2⟩ := h
  exact ⟨m, by simp [World.cell?, hS _ _ h1, h2]⟩
/-! ### Pairs of texts -/
theorem run_eqP2 {fs0 : Array Field} {A : TypeId} {n1 n2 : String} (hu : P.underlying T = some (.struct fs0)) (hf : fs0.toList.map (fun f => (f.name, f.type, f.offset)) = [(n1, A, 0), (n2, A, 1)]) (h1 : (n1 == "_") = false) (h2 : (n2 == "_") = false) (hst : P.stoodInHeld T = false) (hA : P.underlying A = some .string) (gA : ∀ w, (isAgg A).run P w = .ok false w) (sA : ∀ w, (sizeOf A).run P w = .ok 1 w)
    (a b a' b' : List UInt8) (d : Nat) (w : World) : (Op.equalIn (d + 2) T (.agg ([str a] ++ [str b]).toArray) (.agg ([str a'] ++ [str b']).toArray)).run P w = .ok ((a == a') && (b == b')) w := by
  have hl : fs0 = fs0.toList.toArray := by simp
  rcases hfl : fs0.toList with _ | ⟨f1, _ | ⟨f2, _ | ⟨f3, rest⟩⟩⟩ <;> rw [hfl] at hf <;> simp at hf
  obtain ⟨⟨e1, e2, e3⟩, e4, e5, e6⟩ := hf
  have e2s : ∀ (p q : List UInt8) (w : World), (Op.equalIn (d + 1) A (str p) (str q)).run P w = .ok (p == q) w := fun p q w => by
    have hb : ((⟨p.toArray⟩ : ByteArray) == ⟨q.toArray⟩) = (p == q) := by
      show (p.toArray == q.toArray) = _
      simp
    simp [Op.equalIn, Go.underlying, hA, str, hb]
  have hn1 : ¬ n1 = "_" := by simpa using h1
  have hn2 : ¬ n2 = "_" := by simpa using h2
  unfold Op.equalIn
  simp only [Sem.run_bind, Go.underlying, run_program, Result.andThen_ok, hu, hst, Sem.run_pure]
  rw [hl, hfl]
  simp [e1, e2, e3, e4, e5, e6, hn1, hn2, part, gA, sA, e2s]
  by_cases ha : a = a' <;> by_cases hb : b = b' <;> simp [ha, hb]
theorem r_eqP2 {fs0 : Array Field} {A : TypeId} {n1 n2 : String} {a b a' b' : List UInt8} {t : Bool} (hu : P.underlying T = some (.struct fs0)) (hf : fs0.toList.map (fun f => (f.name, f.type, f.offset)) = [(n1, A, 0), (n2, A, 1)]) (h1 : (n1 == "_") = false) (h2 : (n2 == "_") = false) (hst : P.stoodInHeld T = false) (hg : P.eqGuardType P.depth T = false) (hA : P.underlying A = some .string) (tA : TOne P A)
    (hx : e x = .agg ([str a] ++ [str b]).toArray) (hy : e y = .agg ([str a'] ++ [str b']).toArray) (h : ((a == a') && (b == b')) = t) : (execOp e ⟨dst, .binOp .eql T x y T', ty, pos, aft, g⟩).run P w = .ok (.value (.bool t)) w := by
  have key : (Op.equal T (.agg ([str a] ++ [str b]).toArray) (.agg ([str a'] ++ [str b']).toArray)).run P w = .ok ((a == a') && (b == b')) w := run_eqP2 hu hf h1 h2 hst hA tA.1 tA.2 a b a' b' 9998 w
  simp only [List.cons_append, List.nil_append] at key hx hy
  rw [← h]
  simp only [execOp, hx, hy, eqGuard, binOp, Sem.run_bind, run_program, Result.andThen_ok, hg]
  simp [hg, key]
theorem r_neP2 {fs0 : Array Field} {A : TypeId} {n1 n2 : String} {a b a' b' : List UInt8} {t : Bool} (hu : P.underlying T = some (.struct fs0)) (hf : fs0.toList.map (fun f => (f.name, f.type, f.offset)) = [(n1, A, 0), (n2, A, 1)]) (h1 : (n1 == "_") = false) (h2 : (n2 == "_") = false) (hst : P.stoodInHeld T = false) (hg : P.eqGuardType P.depth T = false) (hA : P.underlying A = some .string) (tA : TOne P A)
    (hx : e x = .agg ([str a] ++ [str b]).toArray) (hy : e y = .agg ([str a'] ++ [str b']).toArray) (h : (!((a == a') && (b == b'))) = t) : (execOp e ⟨dst, .binOp .neq T x y T', ty, pos, aft, g⟩).run P w = .ok (.value (.bool t)) w := by
  have key : (Op.equal T (.agg ([str a] ++ [str b]).toArray) (.agg ([str a'] ++ [str b']).toArray)).run P w = .ok ((a == a') && (b == b')) w := run_eqP2 hu hf h1 h2 hst hA tA.1 tA.2 a b a' b' 9998 w
  simp only [List.cons_append, List.nil_append] at key hx hy
  rw [← h]
  simp only [execOp, hx, hy, eqGuard, binOp, Sem.run_bind, run_program, Result.andThen_ok, hg]
  simp [hg, key]
end
end Go.Proofs.YtdomaggikbmooaaDoor
