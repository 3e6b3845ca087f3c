/- Steps of a walk: what each operation leaves. Conditions: as each theorem says. -/
import Derived.Test.YtmbcolbbekbccaaEng
namespace Go.Proofs.Ytmbcolbbekbccaa
open Go Go.RowKit

def fieldsOf (P : Program) (T : TypeId) : Array Field := match P.underlying T with
  | some (.struct fs) => fs
  | _ => #[]
/-- Where field i of a struct lies. -/
def TField (P : Program) (T : TypeId) (i off : Nat) : Prop := ∀ b o (w : World), (Instr.fieldAt T (.pointer (some ⟨b, o, none⟩)) i).run P w = .ok (.pointer (some ⟨b, o + off, none⟩)) w
theorem wr64 {x : Int} (h0 : -9223372036854775808 ≤ x) (h1 : x < 9223372036854775808) : IntKind.i64.wrap x = x := by
  have hb : (2 : Int) ^ IntKind.i64.bits = 18446744073709551616 := by decide
  have hb2 : (2 : Int) ^ (IntKind.i64.bits - 1) = 9223372036854775808 := by decide
  simp only [IntKind.wrap, hb, hb2, show IntKind.i64.signed = true from rfl, Bool.true_and, decide_eq_true_eq]
  split <;> omega
theorem wru {k : IntKind} (hk : k.signed = false) {x : Int} (h0 : 0 ≤ x) (h1 : x < 2 ^ k.bits) : k.wrap x = x := by
  simp only [IntKind.wrap, hk, Bool.false_and, Bool.false_eq_true, if_false]
  exact Int.emod_eq_of_lt h0 h1

def lkp : List (Nat × Nat) → Nat → Option (Nat × Nat)
  | [], _ => none
  | p :: _, 0 => some p
  | _ :: l, k + 1 => lkp l k
/-- Function f has a body: a call of it enters it. -/
def IsFn (P : Program) (f : FuncId) : Prop := ∀ (args : Array Value) (w : World), (callFunc f args).run P w = .ok (.enter f args) w
theorem isFn {P : Program} {f : FuncId} {fn : Func} (hf : P.funcs[f]? = some fn) (hn : (fn.name == "runtime.NumGoroutine") = false) (hb : fn.body.isNone = false) : IsFn P f := fun args w => by
  simp only [callFunc, Sem.run_bind, run_program, Result.andThen, hf, hn, hb, Bool.false_eq_true, if_false, Sem.run_pure]

section
variable {P : Program} {ops : Array Oper} {Q : Exit → Act → World → Prop} {rest : List Oper} {n : Nat} {m : FM} {w w0 : World} {L : List Ent}
variable {d : Nat} {op : Op} {ty : TypeId} {pos : String} {aft : Array Edge} {c v : Value} {x y : Operand} {T : TypeId}

/-! ### A plain region -/
theorem p_val (h : (execOp (ev n m) ⟨some d, op, ty, pos, aft, none⟩).run P w = .ok (.value c) w) (hr : wpList P ops Q rest (fr n ((d, c) :: m)) w) :
    wpList P ops Q (⟨some d, op, ty, pos, aft, none⟩ :: rest) (fr n m) w :=
  wpList_plain rfl fun K hK => by
    unfold Oper.wp; rw [eval_fr, h]; simp only [Oper.upon, put_fr]; exact hK _ _ hr
theorem p_none (h : ∃ c, (execOp (ev n m) ⟨none, op, ty, pos, aft, none⟩).run P w = .ok (.value c) w) (hr : wpList P ops Q rest (fr n m) w) :
    wpList P ops Q (⟨none, op, ty, pos, aft, none⟩ :: rest) (fr n m) w :=
  wpList_plain rfl fun K hK => by
    obtain ⟨c, h⟩ := h
    unfold Oper.wp; rw [eval_fr, h]; simp only [Oper.upon, put_fr_none]; exact hK _ _ hr
/-- What is yielded in the slot of operation j. -/
def gval (ops : Array Oper) (n : Nat) (m : FM) (j : Nat) : Option Bool :=
  match (ops[j]?).bind (·.dst) with
  | some t => match ev n m (.tmp t) with
    | .bool b => some b
    | _ => none
  | none => none
theorem yielded_fr (j : Nat) : yielded ops (fr n m).tmps j = gval ops n m j := by
  unfold yielded gval
  cases (ops[j]?).bind (·.dst) with
  | none => rfl
  | some t =>
    simp only [Option.bind_some, tmps_fr, ev, nat_blt]
    by_cases h : t < n
    · simp only [h, if_true, decide_true, cond_true]
      cases look m t <;> rfl
    · simp only [h, if_false, decide_false, cond_false]
      rfl
def lko : List Oper → Nat → Option Oper
  | [], _ => none
  | o :: _, 0 => some o
  | _ :: l, k + 1 => lko l k
theorem lko_eq : ∀ (l : List Oper) (j : Nat), lko l j = l[j]?
  | [], j => by simp [lko]
  | o :: l, 0 => by simp [lko]
  | o :: l, k + 1 => by simp [lko, lko_eq l k]
def gvo (n : Nat) (m : FM) : Option Oper → Option Bool
  | some ⟨some t, _, _, _, _, _⟩ => match ev n m (.tmp t) with
    | .bool b => some b
    | _ => none
  | _ => none
/-- The same, of a list. -/
def gvl (l : List Oper) (n : Nat) (m : FM) (j : Nat) : Option Bool := gvo n m (lko l j)
theorem gvl_eq (l : List Oper) (j : Nat) : gval l.toArray n m j = gvl l n m j := by
  unfold gval gvl
  rw [lko_eq, List.getElem?_toArray]
  cases l[j]? with
  | none => rfl
  | some o =>
    obtain ⟨dst, _, _, _, _, _⟩ := o
    cases dst <;> rfl
variable {ol : List Oper}
/-- A guard that is not decided. -/
theorem p_gs {j : Nat} {t : Bool} (_hg : gvl ol n m j = some t) (h1 : t = true → wpList P ol.toArray Q rest (fr n m) w) (h0 : t = false → wpList P ol.toArray Q rest (fr n m) w) : wpList P ol.toArray Q rest (fr n m) w := by cases t; exact h0 rfl; exact h1 rfl
theorem p_skip {dst : Option Nat} {j : Nat} {b t : Bool} (hg' : gvl ol n m j = some t) (ht : t = !b) (hr : wpList P ol.toArray Q rest ((fr n m).put dst undef) w) :
    wpList P ol.toArray Q (⟨dst, op, ty, pos, aft, some (j, b)⟩ :: rest) (fr n m) w := by
  refine wpList_skip ?_ hr
  simp only [Region.wanted, yielded_fr, gvl_eq, hg', ht]
  cases b <;> rfl
theorem p_want {dst : Option Nat} {j : Nat} {b t : Bool} (hg' : gvl ol n m j = some t) (ht : t = b) (h : wpList P ol.toArray Q (⟨dst, op, ty, pos, aft, none⟩ :: rest) (fr n m) w) :
    wpList P ol.toArray Q (⟨dst, op, ty, pos, aft, some (j, b)⟩ :: rest) (fr n m) w := by
  have hw : Region.wanted ⟨dst, op, ty, pos, aft, some (j, b)⟩ (yielded ol.toArray (fr n m).tmps) = true := by
    simp only [Region.wanted, yielded_fr, gvl_eq, hg', ht]; simp
  unfold wpList at h ⊢
  rw [if_pos hw]
  rw [if_pos (by rfl)] at h
  exact h

theorem p_callf {args : Array Operand} {at_ : Array TypeId} {f : FuncId} {first cap : Array Value} {l : List Value} (hf : IsFn P f) (hx : ev n m x = .func (.func f) first cap)
    (ha : first.toList ++ args.toList.map (ev n m) ++ cap.toList = l)
    (h : Calls P f l.toArray w fun e w' => match e with
      | .returned v => wpList P ops Q rest (fr n ((d, v) :: m)) w'
      | _ => False) :
    wpList P ops Q (⟨some d, .call ⟨.value x, args, at_⟩, ty, pos, aft, none⟩ :: rest) (fr n m) w :=
  wpList_plain rfl fun K hK => by
    have hargs : (first ++ args.map (ev n m)) ++ cap = l.toArray := by rw [← ha]; apply Array.ext'; simp
    have hrun : (execOp (ev n m) ⟨some d, .call ⟨.value x, args, at_⟩, ty, pos, aft, none⟩).run P w = .ok (.enter f l.toArray) w := by
      simp only [execOp, resolve, hx, Deferred.ofValue, Sem.run_bind, Sem.run_pure, Result.andThen, invoke]
      rw [hargs]; exact hf _ _
    unfold Oper.wp; rw [eval_fr, hrun]
    simp only [Oper.upon]
    refine h.mono fun e w' he => ?_
    cases e with
    | returned v => show K ((fr n m).put (some d) v) w'; rw [put_fr]; exact hK _ _ he
    | panicked c => exact he.elim
    | outgrown => exact he.elim
/-- The arguments' values, one by one. -/
def args? (n : Nat) (m : FM) : List Operand → List Value
  | [] => []
  | x :: l => ev n m x :: args? n m l
theorem args_eq (l : List Operand) : l.map (ev n m) = args? n m l := by
  induction l with
  | nil => rfl
  | cons x l ih => simp [args?, ih]
theorem p_call {args : List Operand} {at_ : Array TypeId} {f : FuncId} {l : List Value} (hf : IsFn P f) (ha : args? n m args = l)
    (h : Calls P f l.toArray w fun e w' => match e with
      | .returned v => wpList P ops Q rest (fr n ((d, v) :: m)) w'
      | _ => False) :
    wpList P ops Q (⟨some d, .call ⟨.value (.func f), args.toArray, at_⟩, ty, pos, aft, none⟩ :: rest) (fr n m) w :=
  p_callf (first := #[]) (cap := #[]) hf rfl (by simp [args_eq, ha]) h
/-- A call of a function that the model answers by itself. -/
theorem p_callv {args : List Operand} {at_ : Array TypeId} {f : FuncId} {l : List Value} (ha : args? n m args = l) (hrun : (callFunc f l.toArray).run P w = .ok (.value v) w)
    (hr : wpList P ops Q rest (fr n ((d, v) :: m)) w) :
    wpList P ops Q (⟨some d, .call ⟨.value (.func f), args.toArray, at_⟩, ty, pos, aft, none⟩ :: rest) (fr n m) w :=
  p_val (by
    have hargs : args.toArray.map (ev n m) = l.toArray := by rw [← ha, ← args_eq]; simp
    simp only [execOp, resolve, ev, Deferred.ofValue, Sem.run_bind, Sem.run_pure, Result.andThen, invoke, hargs]
    simpa using hrun) hr

theorem p_box {l : List Value} (H : HP w0 w L) (hx : ev n m x = .agg l.toArray) (h : ∀ w' b, HP w0 w' ((b, l, T) :: L) → wpList P ops Q rest (fr n ((d, .pointer (some ⟨b, 0, none⟩)) :: m)) w') :
    wpList P ops Q (⟨some d, .box T x, ty, pos, aft, none⟩ :: rest) (fr n m) w :=
  wpList_plain rfl fun K hK => by
    have hrun : (execOp (ev n m) ⟨some d, .box T x, ty, pos, aft, none⟩).run P w = .ok (.value (.pointer (some ⟨w.heap.size, 0, none⟩))) (w.alloc (.cells l.toArray T)) := by
      simp [execOp, run_box, hx, Value.cells]
    unfold Oper.wp; rw [eval_fr, hrun]; simp only [Oper.upon, put_fr]
    exact hK _ _ (h _ _ (H.alloc l T))
theorem p_box1 (H : HP w0 w L) (hx : ev n m x = v) (hv : v.oneCell' = true) (h : ∀ w' b, HP w0 w' ((b, [v], T) :: L) → wpList P ops Q rest (fr n ((d, .pointer (some ⟨b, 0, none⟩)) :: m)) w') :
    wpList P ops Q (⟨some d, .box T x, ty, pos, aft, none⟩ :: rest) (fr n m) w :=
  wpList_plain rfl fun K hK => by
    have hc : v.cells = #[v] := by cases v <;> first | rfl | simp [Value.oneCell'] at hv
    have hrun : (execOp (ev n m) ⟨some d, .box T x, ty, pos, aft, none⟩).run P w = .ok (.value (.pointer (some ⟨w.heap.size, 0, none⟩))) (w.alloc (.cells [v].toArray T)) := by
      simp [execOp, run_box, hx, hc]
    unfold Oper.wp; rw [eval_fr, hrun]; simp only [Oper.upon, put_fr]
    exact hK _ _ (h _ _ (H.alloc [v] T))
theorem p_alloc {l : List Value} {z : Value} (H : HP w0 w L) (hz : TZero P T z) (hl : z.cells.toList = l) (h : ∀ w' b, HP w0 w' ((b, l, T) :: L) → wpList P ops Q rest (fr n ((d, .pointer (some ⟨b, 0, none⟩)) :: m)) w') :
    wpList P ops Q (⟨some d, .alloc T, ty, pos, aft, none⟩ :: rest) (fr n m) w :=
  wpList_plain rfl fun K hK => by
    have hrun : (execOp (ev n m) ⟨some d, .alloc T, ty, pos, aft, none⟩).run P w = .ok (.value (.pointer (some ⟨w.heap.size, 0, none⟩))) (w.alloc (.cells l.toArray T)) := by
      simp [execOp, run_allocZ hz, ← hl]
    unfold Oper.wp; rw [eval_fr, hrun]; simp only [Oper.upon, put_fr]
    exact hK _ _ (h _ _ (H.alloc l T))
theorem p_store {sz b o k : Nat} {cs l : List Value} {T' : TypeId} (tg : TAgg P T sz) (H : HP w0 w L) (hp : ev n m x = .pointer (some ⟨b, o, none⟩)) (hk : lk L k = some (b, cs, T')) (hy : ev n m y = .agg l.toArray)
    (hlen : l.length = sz) (hone : l.all (·.oneCell') = true) (hsz : Nat.ble (o + sz) cs.length = true)
    (h : ∀ w', HP w0 w' (st L k (b, lay cs o l, T')) → wpList P ops Q rest (fr n m) w') :
    wpList P ops Q (⟨none, .store T x y, ty, pos, aft, none⟩ :: rest) (fr n m) w :=
  wpList_plain rfl fun K hK => by
    obtain ⟨w', e, hb, hs, h4, h5, h6, h7⟩ := run_storeAgg tg (H.blk k b cs T' hk).1 hlen (fun v hv => List.all_eq_true.1 hone v hv) hsz
    have hrun : (execOp (ev n m) ⟨none, .store T x y, ty, pos, aft, none⟩).run P w = .ok .skip w' := by
      simp only [execOp, hp, hy, Sem.run_bind, e, Result.andThen, Sem.run_pure]
    unfold Oper.wp; rw [eval_fr, hrun]; simp only [Oper.upon, put_fr_none]
    exact hK _ _ (h w' (H.set hk hs h4 h5 h6 hb h7))
theorem p_store1 {b o k : Nat} {cs : List Value} {T' : TypeId} (tg : TOne P T) (H : HP w0 w L) (hp : ev n m x = .pointer (some ⟨b, o, none⟩)) (hk : lk L k = some (b, cs, T')) (hy : ev n m y = v) (hone : v.oneCell' = true) (hsz : Nat.blt o cs.length = true)
    (h : ∀ w', HP w0 w' (st L k (b, lay cs o [v], T')) → wpList P ops Q rest (fr n m) w') :
    wpList P ops Q (⟨none, .store T x y, ty, pos, aft, none⟩ :: rest) (fr n m) w :=
  wpList_plain rfl fun K hK => by
    obtain ⟨w', e, hb, hs, h4, h5, h6, h7⟩ := run_storeOne tg (H.blk k b cs T' hk).1 hone hsz
    have hrun : (execOp (ev n m) ⟨none, .store T x y, ty, pos, aft, none⟩).run P w = .ok .skip w' := by
      simp only [execOp, hp, hy, Sem.run_bind, e, Result.andThen, Sem.run_pure]
    unfold Oper.wp; rw [eval_fr, hrun]; simp only [Oper.upon, put_fr_none]
    exact hK _ _ (h w' (H.set hk hs h4 h5 h6 hb h7))

/-- A whole block written. -/
theorem lay_whole {cs l : List Value} (h : cs.length = l.length) : lay cs 0 l = l := by
  apply List.ext_getElem?
  intro j
  rw [lay_get]
  by_cases hj : j < l.length
  · rw [if_pos (by omega)]; simp
  · rw [if_neg (by omega), List.getElem?_eq_none (by omega), List.getElem?_eq_none (by omega)]
theorem p_storeW {b k : Nat} {cs l : List Value} {T' : TypeId} {sz : Nat} (tg : TAgg P T sz) (H : HP w0 w L) (hp : ev n m x = .pointer (some ⟨b, 0, none⟩)) (hk : lk L k = some (b, cs, T')) (hy : ev n m y = .agg l.toArray)
    (hlen : l.length = sz) (hone : l.all (·.oneCell') = true) (hsz : cs.length = sz)
    (h : ∀ w', HP w0 w' (st L k (b, l, T')) → wpList P ops Q rest (fr n m) w') :
    wpList P ops Q (⟨none, .store T x y, ty, pos, aft, none⟩ :: rest) (fr n m) w :=
  p_store tg H hp hk hy hlen hone (by rw [Nat.ble_eq]; omega) fun w' H' => h w' (by
    have e : lay cs 0 l = l := lay_whole (by omega)
    rw [e] at H'; exact H')

/-! ### What an operation that works on no world leaves -/
variable {dst : Option Tmp} {e : Operand → Value} {k : IntKind} {a b r : Int} {g : Option (Nat × Bool)}
theorem r_move (hx : e x = v) : (execOp e ⟨dst, .move x, ty, pos, aft, g⟩).run P w = .ok (.value v) w := by simp [execOp, hx]
theorem r_assign (hx : e x = v) : (execOp e ⟨dst, .assign x, ty, pos, aft, g⟩).run P w = .ok (.value v) w := by simp [execOp, hx]
theorem r_load {sz b o k : Nat} {cs l : List Value} {T' : TypeId} (tg : TAgg P T sz) (H : HP w0 w L) (hp : e x = .pointer (some ⟨b, o, none⟩)) (hk : lk L k = some (b, cs, T')) (hl : piece cs o sz = l) (hsz : Nat.ble (o + sz) cs.length = true) :
    (execOp e ⟨dst, .load T x, ty, pos, aft, g⟩).run P w = .ok (.value (.agg l.toArray)) w := by
  simp only [execOp, hp, Sem.run_bind, run_loadAgg tg (H.blk k b cs T' hk).1 hl hsz, Result.andThen, Sem.run_pure]
theorem r_loadW {sz b k : Nat} {cs : List Value} {T' : TypeId} (tg : TAgg P T sz) (H : HP w0 w L) (hp : e x = .pointer (some ⟨b, 0, none⟩)) (hk : lk L k = some (b, cs, T')) (hsz : cs.length = sz) :
    (execOp e ⟨dst, .load T x, ty, pos, aft, g⟩).run P w = .ok (.value (.agg cs.toArray)) w :=
  r_load tg H hp hk (by rw [piece_eq]; simp [← hsz]) (by rw [Nat.ble_eq]; omega)
theorem r_as {o : Oper} {l l' : List Value} (h : (execOp e o).run P w = .ok (.value (.agg l.toArray)) w) (he : l = l') : (execOp e o).run P w = .ok (.value (.agg l'.toArray)) w := by rw [h, he]
theorem r_load1 {b o k : Nat} {cs : List Value} {T' : TypeId} (tg : TOne P T) (H : HP w0 w L) (hp : e x = .pointer (some ⟨b, o, none⟩)) (hk : lk L k = some (b, cs, T')) (hv : piece cs o 1 = [v]) :
    (execOp e ⟨dst, .load T x, ty, pos, aft, g⟩).run P w = .ok (.value v) w := by
  have hv' : cs[o]? = some v := by
    rw [piece_eq] at hv
    have := congrArg (·[0]?) hv
    simpa using this
  simp only [execOp, hp, Sem.run_bind, run_loadOne tg (H.blk k b cs T' hk).1 hv', Result.andThen, Sem.run_pure]
theorem r_add {T'} (hx : e x = .int k a) (hy : e y = .int k b) (h : k.wrap (a + b) = r) : (execOp e ⟨dst, .binOp .add T x y T', ty, pos, aft, g⟩).run P w = .ok (.value (.int k r)) w := by
  simp [execOp, hx, hy, eqGuard, binOp, Op.intArith, h]
theorem r_sub {T'} (hx : e x = .int k a) (hy : e y = .int k b) (h : k.wrap (a - b) = r) : (execOp e ⟨dst, .binOp .sub T x y T', ty, pos, aft, g⟩).run P w = .ok (.value (.int k r)) w := by
  simp [execOp, hx, hy, eqGuard, binOp, Op.intArith, h]
theorem r_mul {T'} (hx : e x = .int k a) (hy : e y = .int k b) (h : k.wrap (a * b) = r) : (execOp e ⟨dst, .binOp .mul T x y T', ty, pos, aft, g⟩).run P w = .ok (.value (.int k r)) w := by
  simp [execOp, hx, hy, eqGuard, binOp, Op.intArith, h]
theorem r_quo {T'} (hx : e x = .int k a) (hy : e y = .int k b) (h0 : b ≠ 0) (h : k.wrap (a.tdiv b) = r) : (execOp e ⟨dst, .binOp .quo T x y T', ty, pos, aft, g⟩).run P w = .ok (.value (.int k r)) w := by
  simp [execOp, hx, hy, eqGuard, binOp, Op.intDiv, h, h0]
theorem r_rem {T'} (hx : e x = .int k a) (hy : e y = .int k b) (h0 : b ≠ 0) (h : a.tmod b = r) : (execOp e ⟨dst, .binOp .rem T x y T', ty, pos, aft, g⟩).run P w = .ok (.value (.int k r)) w := by
  simp [execOp, hx, hy, eqGuard, binOp, Op.intDiv, h, h0]
theorem r_bits {bo : BinOp} (hbo : bo = .and ∨ bo = .or ∨ bo = .xor ∨ bo = .andNot) {T'} (hx : e x = .int k a) (hy : e y = .int k b) (h : bits bo k a b = r) : (execOp e ⟨dst, .binOp bo T x y T', ty, pos, aft, g⟩).run P w = .ok (.value (.int k r)) w := by
  rcases hbo with rfl | rfl | rfl | rfl <;> simp [execOp, hx, hy, eqGuard, binOp, Op.intBits, ← h, bits]
theorem r_shl {T'} {k' : IntKind} (hx : e x = .int k a) (hy : e y = .int k' b) (h0 : ¬ b < 0) (h : k.wrap (a * 2 ^ (min b.toNat k.bits)) = r) : (execOp e ⟨dst, .binOp .shl T x y T', ty, pos, aft, g⟩).run P w = .ok (.value (.int k r)) w := by
  simp [execOp, hx, hy, eqGuard, binOp, Op.shift, h, h0]
theorem r_shr {T'} {k' : IntKind} (hx : e x = .int k a) (hy : e y = .int k' b) (h0 : ¬ b < 0) (h : a.fdiv (2 ^ (min b.toNat k.bits)) = r) : (execOp e ⟨dst, .binOp .shr T x y T', ty, pos, aft, g⟩).run P w = .ok (.value (.int k r)) w := by
  simp [execOp, hx, hy, eqGuard, binOp, Op.shift, h, h0]
variable {t s : Bool}
theorem r_eql {T'} (hx : e x = .int k a) (hy : e y = .int k b) (h : (a == b) = t) : (execOp e ⟨dst, .binOp .eql T x y T', ty, pos, aft, g⟩).run P w = .ok (.value (.bool t)) w := by
  simp [execOp, hx, hy, eqGuard, binOp, Op.intCmp, h]
theorem r_neq {T'} (hx : e x = .int k a) (hy : e y = .int k b) (h : (a != b) = t) : (execOp e ⟨dst, .binOp .neq T x y T', ty, pos, aft, g⟩).run P w = .ok (.value (.bool t)) w := by
  simp [execOp, hx, hy, eqGuard, binOp, Op.intCmp, h]
theorem r_lss {T'} (hx : e x = .int k a) (hy : e y = .int k b) (h : decide (a < b) = t) : (execOp e ⟨dst, .binOp .lss T x y T', ty, pos, aft, g⟩).run P w = .ok (.value (.bool t)) w := by
  simp [execOp, hx, hy, eqGuard, binOp, Op.intCmp, h]
theorem r_leq {T'} (hx : e x = .int k a) (hy : e y = .int k b) (h : decide (a ≤ b) = t) : (execOp e ⟨dst, .binOp .leq T x y T', ty, pos, aft, g⟩).run P w = .ok (.value (.bool t)) w := by
  simp [execOp, hx, hy, eqGuard, binOp, Op.intCmp, h]
theorem r_gtr {T'} (hx : e x = .int k a) (hy : e y = .int k b) (h : decide (b < a) = t) : (execOp e ⟨dst, .binOp .gtr T x y T', ty, pos, aft, g⟩).run P w = .ok (.value (.bool t)) w := by
  simp [execOp, hx, hy, eqGuard, binOp, Op.intCmp, h]
theorem r_geq {T'} (hx : e x = .int k a) (hy : e y = .int k b) (h : decide (b ≤ a) = t) : (execOp e ⟨dst, .binOp .geq T x y T', ty, pos, aft, g⟩).run P w = .ok (.value (.bool t)) w := by
  simp [execOp, hx, hy, eqGuard, binOp, Op.intCmp, h]
theorem r_not {T'} (hx : e x = .bool s) (h : (!s) = t) : (execOp e ⟨dst, .unOp .not T' x, ty, pos, aft, g⟩).run P w = .ok (.value (.bool t)) w := by
  simp [execOp, hx, Op.unary, h]
theorem r_neg {T'} (hx : e x = .int k a) (h : k.wrap (0 - a) = r) : (execOp e ⟨dst, .unOp .neg T' x, ty, pos, aft, g⟩).run P w = .ok (.value (.int k r)) w := by
  simp only [execOp, hx, Op.unary, Op.intArith, h, Sem.run_bind, Sem.run_pure, Result.andThen]
theorem r_pickt {z : Operand} (hz : e z = .bool t) (ht : t = true) (hx : e x = v) : (execOp e ⟨dst, .pick z x y, ty, pos, aft, g⟩).run P w = .ok (.value v) w := by
  subst ht; simp [execOp, hz, hx, asBool]
theorem r_pickf {z : Operand} (hz : e z = .bool t) (ht : t = false) (hy : e y = v) : (execOp e ⟨dst, .pick z x y, ty, pos, aft, g⟩).run P w = .ok (.value v) w := by
  subst ht; simp [execOp, hz, hy, asBool]
theorem r_pick {z : Operand} {s1 s2 : Bool} (hz : e z = .bool s) (hx : e x = .bool s1) (hy : e y = .bool s2) (h : (bif s then s1 else s2) = t) : (execOp e ⟨dst, .pick z x y, ty, pos, aft, g⟩).run P w = .ok (.value (.bool t)) w := by
  subst h; cases s <;> simp [execOp, hz, hx, hy, asBool]
theorem r_extract {i : Nat} {l : List Value} (hx : e x = .tuple l.toArray) (h : l[i]? = some v) : (execOp e ⟨dst, .extract x i, ty, pos, aft, g⟩).run P w = .ok (.value v) w := by
  simp [execOp, hx, Instr.extract, h]
theorem r_conv {T1 T2 : TypeId} {dd : TypeDesc} {k' : IntKind} (h1 : P.underlying T1 = some dd) (h2 : P.underlying T2 = some (.int k')) (hx : e x = .int k a) (h : k'.wrap a = r) : (execOp e ⟨dst, .convert T1 T2 x, ty, pos, aft, g⟩).run P w = .ok (.value (.int k' r)) w := by
  simp [execOp, hx, convert, Go.underlying, h1, h2, Conv.intToInt, h]
/-- An element's address, in an array. -/
theorem r_addrA {T' : TypeId} {len : Nat} {sz b o i : Nat} (h1 : P.underlying T = some (.array len T')) (h2 : ∀ w, (sizeOf T').run P w = .ok sz w) (hx : e x = .pointer (some ⟨b, o, none⟩)) (hy : e y = .int k a) (ha : a.toNat = i) (h0 : 0 ≤ a) (hi : a < len) :
    (execOp e ⟨dst, .indexAddr T x y, ty, pos, aft, g⟩).run P w = .ok (.value (.pointer (some ⟨b, o + i * sz, none⟩))) w := by
  simp only [execOp, hx, hy, Instr.indexAt, Sem.run_bind]
  simp [asIntOf, Go.underlying, h1, Instr.sureAddr, h0, hi, h2, ha, add_addr]
/-- An element of an array. -/
theorem r_idxA {T' : TypeId} {len sz i : Nat} {l : List Value} (h1 : P.underlying T = some (.array len T')) (h2 : ∀ w, (sizeOf T').run P w = .ok sz w) (h3 : ∀ w, (isAgg T').run P w = .ok false w) (hx : e x = .agg l.toArray) (hy : e y = .int k a) (ha : a.toNat = i) (h0 : 0 ≤ a) (hi : a < len) (hv : piece l (i * sz) 1 = [v]) :
    (execOp e ⟨dst, .index T x y, ty, pos, aft, g⟩).run P w = .ok (.value v) w := by
  have hv' : l[i * sz]? = some v := by
    rw [piece_eq] at hv
    have := congrArg (·[0]?) hv
    simpa using this
  simp only [execOp, hx, hy, Instr.index, Sem.run_bind]
  simp [asIntOf, Go.underlying, h1, h0, hi, h2, ha, part, h3, hv']
/-- A field's address. -/
theorem r_addrF {fs : Array Field} {f : Field} {i sz b o : Nat} (h1 : P.underlying T = some (.struct fs)) (h2 : fs[i]? = some f) (h3 : ∀ w, (sizeOf f.type).run P w = .ok (sz + 1) w) (hx : e x = .pointer (some ⟨b, o, none⟩)) :
    (execOp e ⟨dst, .fieldAddr T x i, ty, pos, aft, g⟩).run P w = .ok (.value (.pointer (some ⟨b, o + f.offset, none⟩))) w := by
  simp [execOp, hx, Instr.fieldAt, Go.underlying, h1, h2, Instr.sureAddr, fieldPlace, h3, add_addr]
theorem r_field {i off b o : Nat} (tf : ∀ b o (w : World), (Instr.fieldAt T (.pointer (some ⟨b, o, none⟩)) i).run P w = .ok (.pointer (some ⟨b, o + off, none⟩)) w) (hx : e x = .pointer (some ⟨b, o, none⟩)) :
    (execOp e ⟨dst, .fieldAddr T x i, ty, pos, aft, g⟩).run P w = .ok (.value (.pointer (some ⟨b, o + off, none⟩))) w := by
  simp only [execOp, hx, Sem.run_bind, tf, Result.andThen, Sem.run_pure]
/-- What a literal's cells are: each part laid at its place. -/
def fillL (pl : List (Nat × Nat)) (cs : List Value) : List (Nat × Value) → Option (List Value)
  | [] => some cs
  | (i, v) :: l => match lkp pl i with
    | none => none
    | some (off, sz) => bif Nat.beq v.cells.toList.length sz && Nat.ble (off + sz) cs.length then fillL pl (lay cs off v.cells.toList) l else none
def TBuild (P : Program) (T : TypeId) (z : Value) (pl : List (Nat × Nat)) : Prop := ∀ (ps : List (Nat × Value)) (l : List Value) (w : World), fillL pl z.cells.toList ps = some l → (Instr.build T ps.toArray).run P w = .ok (.agg l.toArray) w
def bparts (e : Operand → Value) : List (Nat × Operand) → List (Nat × Value)
  | [] => []
  | (i, x) :: l => (i, e x) :: bparts e l
theorem bparts_eq (ps : List (Nat × Operand)) : (ps.map fun (i, x) => (i, e x)) = bparts e ps := by
  induction ps with
  | nil => rfl
  | cons p ps ih => obtain ⟨i, x⟩ := p; simp [bparts, ← ih]
theorem r_build {z : Value} {pl : List (Nat × Nat)} {ps : List (Nat × Operand)} {vals : List (Nat × Value)} {l : List Value} (hT : TBuild P T z pl) (hp : bparts e ps = vals) (hl : fillL pl z.cells.toList vals = some l) :
    (execOp e ⟨dst, .build T ps.toArray, ty, pos, aft, g⟩).run P w = .ok (.value (.agg l.toArray)) w := by
  have e1 : (ps.toArray.map fun (i, x) => (i, e x)) = vals.toArray := by
    rw [← hp, ← bparts_eq]; simp
  simp only [execOp, Sem.run_bind]
  rw [e1, hT vals l w hl]
  simp
theorem r_lenS {args : List Operand} {at_ : List TypeId} {sv : ByteArray} {tt : TypeId} (h1 : P.underlying tt = some .string) (hx : e x = .string sv) :
    (execOp e ⟨dst, .call ⟨.builtin .len, #[x], #[tt]⟩, ty, pos, aft, g⟩).run P w = .ok (.value (.int .i64 sv.size)) w := by
  simp [execOp, resolve, invoke, builtin, Builtin.len_, Go.underlying, h1, hx, goInt]
theorem r_lenL {sv : Option Addr} {tt T' : TypeId} {ln cp : Nat} (h1 : P.underlying tt = some (.slice T')) (hx : e x = .slice sv ln cp) :
    (execOp e ⟨dst, .call ⟨.builtin .len, #[x], #[tt]⟩, ty, pos, aft, g⟩).run P w = .ok (.value (.int .i64 ln)) w := by
  simp [execOp, resolve, invoke, builtin, Builtin.len_, Go.underlying, h1, hx, goInt]
end

/-! ### A region that draws its order -/
section
variable {P : Program} {ops : Array Oper} {nh : Nat} {Φ : Kinds} {W w0 : World} {vs : Nat → Gv} {Fin : Act → Prop} {i : Nat} {rest : List Oper} {n : Nat} {m : FM} {L : List Ent}
variable {d : Nat} {op : Op} {ty : TypeId} {pos : String} {aft : Array Edge} {c v : Value} {x y : Operand} {T : TypeId}

theorem t_val (h : ∀ w, Ext W w → (execOp (ev n m) ⟨some d, op, ty, pos, aft, none⟩).run P w = .ok (.value c) w) (hk : Φ i = none) (hf : floats ops nh i = false)
    (hr : wpT P ops nh Φ W vs Fin (i + 1) rest (fr n ((d, c) :: m))) : wpT P ops nh Φ W vs Fin i (⟨some d, op, ty, pos, aft, none⟩ :: rest) (fr n m) :=
  wpT_pure hk hf rfl (fun w hx _ => by rw [eval_fr]; exact h w hx) (by rw [put_fr]; exact hr)
theorem t_v (h : ∀ w, Ext W w → (execOp (ev n m) ⟨some d, op, ty, pos, aft, none⟩).run P w = .ok (.value c) w)
    (hr : wpT P ops nh Φ W vs Fin (i + 1) rest (fr n ((d, c) :: m))) (hk : Φ i = none := by rfl) (hf : floats ops nh i = false := by rfl) : wpT P ops nh Φ W vs Fin i (⟨some d, op, ty, pos, aft, none⟩ :: rest) (fr n m) := t_val h hk hf hr
theorem t_valF (h : ∀ w, Ext W w → factsL Φ vs w (depsOf ⟨some d, op, ty, pos, aft, none⟩) → (execOp (ev n m) ⟨some d, op, ty, pos, aft, none⟩).run P w = .ok (.value c) w) (hk : Φ i = none) (hf : floats ops nh i = false)
    (hr : wpT P ops nh Φ W vs Fin (i + 1) rest (fr n ((d, c) :: m))) : wpT P ops nh Φ W vs Fin i (⟨some d, op, ty, pos, aft, none⟩ :: rest) (fr n m) :=
  wpT_pure hk hf rfl (fun w hx hf => by rw [eval_fr]; exact h w hx hf) (by rw [put_fr]; exact hr)
theorem t_float (h : ∀ w, (execOp (ev n m) ⟨some d, op, ty, pos, aft, none⟩).run P w = .ok (.value c) w) (hk : Φ i = none) (hf : floats ops nh i = true)
    (hr : wpT P ops nh Φ W vs Fin (i + 1) rest (fr n ((d, c) :: m))) : wpT P ops nh Φ W vs Fin i (⟨some d, op, ty, pos, aft, none⟩ :: rest) (fr n m) :=
  wpT_float hk hf rfl (fun w => by rw [eval_fr]; exact h w) (by rw [put_fr]; exact hr)
theorem t_skip {ol : List Oper} {dst : Option Nat} {j : Nat} {b t : Bool} (hg' : gvl ol n m j = some t) (ht : t = !b) (hk : Φ i = none) (hr : wpT P ol.toArray nh Φ W vs Fin (i + 1) rest ((fr n m).put dst undef)) :
    wpT P ol.toArray nh Φ W vs Fin i (⟨dst, op, ty, pos, aft, some (j, b)⟩ :: rest) (fr n m) :=
  wpT_skip hk (by simp only [Region.wanted, yielded_fr, gvl_eq, hg', ht]; cases b <;> rfl) hr
theorem t_valG {ol : List Oper} {j : Nat} {b t : Bool} (hg' : gvl ol n m j = some t) (ht : t = b) (h : ∀ w, Ext W w → (execOp (ev n m) ⟨some d, op, ty, pos, aft, some (j, b)⟩).run P w = .ok (.value c) w) (hk : Φ i = none) (hf : floats ol.toArray nh i = false)
    (hr : wpT P ol.toArray nh Φ W vs Fin (i + 1) rest (fr n ((d, c) :: m))) : wpT P ol.toArray nh Φ W vs Fin i (⟨some d, op, ty, pos, aft, some (j, b)⟩ :: rest) (fr n m) :=
  wpT_pure hk hf (by simp only [Region.wanted, yielded_fr, gvl_eq, hg', ht]; simp) (fun w hx _ => by rw [eval_fr]; exact h w hx) (by rw [put_fr]; exact hr)

theorem outcome_call {args : Array Operand} {at_ : Array TypeId} {f : FuncId} {first cap : Array Value} {l : List Value} {R : Value → World → Prop} {w : World} {dst : Option Tmp} {g : Option (Nat × Bool)} (hf : IsFn P f) (hx : ev n m x = .func (.func f) first cap)
    (ha : first.toList ++ args.toList.map (ev n m) ++ cap.toList = l) (h : Calls P f l.toArray w fun e w' => ∃ v, e = .returned v ∧ R v w') :
    outcome P R ((execOp (ev n m) ⟨dst, .call ⟨.value x, args, at_⟩, ty, pos, aft, g⟩).run P w) := by
  have hargs : (first ++ args.map (ev n m)) ++ cap = l.toArray := by rw [← ha]; apply Array.ext'; simp
  have hrun : (execOp (ev n m) ⟨dst, .call ⟨.value x, args, at_⟩, ty, pos, aft, g⟩).run P w = .ok (.enter f l.toArray) w := by
    simp only [execOp, resolve, hx, Deferred.ofValue, Sem.run_bind, Sem.run_pure, Result.andThen, invoke]
    rw [hargs]; exact hf _ _
  rw [hrun]
  exact h.mono fun e w' ⟨v, he, hR⟩ => by subst he; exact hR

theorem t_call {args : List Operand} {at_ : Array TypeId} {f : FuncId} {l : List Value} (hk : Φ i = some (.inl c)) (hf : floats ops nh i = false) (hfn : IsFn P f) (ha : args? n m args = l)
    (h : ∀ w, Ext W w → factsL Φ vs w (depsOf ⟨some d, .call ⟨.value (.func f), args.toArray, at_⟩, ty, pos, aft, none⟩) → Calls P f l.toArray w fun e w' => e = .returned c ∧ Ext w w') (hr : wpT P ops nh Φ W vs Fin (i + 1) rest (fr n ((d, c) :: m))) :
    wpT P ops nh Φ W vs Fin i (⟨some d, .call ⟨.value (.func f), args.toArray, at_⟩, ty, pos, aft, none⟩ :: rest) (fr n m) :=
  wpT_det rfl hk hf rfl (fun w hx hF R hR => by
    rw [eval_fr]
    exact outcome_call (first := #[]) (cap := #[]) hfn rfl (by simp [args_eq, ha]) ((h w hx hF).mono fun e w' ⟨he, hx'⟩ => ⟨c, he, hR w' hx'⟩)) (by rw [put_fr]; exact hr)
theorem t_callG {ol : List Oper} {args : List Operand} {at_ : Array TypeId} {f : FuncId} {l : List Value} {j : Nat} {b t : Bool} (hg' : gvl ol n m j = some t) (ht : t = b) (hk : Φ i = some (.inl c)) (hf : floats ol.toArray nh i = false) (hfn : IsFn P f) (ha : args? n m args = l)
    (h : ∀ w, Ext W w → factsL Φ vs w (depsOf ⟨some d, .call ⟨.value (.func f), args.toArray, at_⟩, ty, pos, aft, some (j, b)⟩) → Calls P f l.toArray w fun e w' => e = .returned c ∧ Ext w w') (hr : wpT P ol.toArray nh Φ W vs Fin (i + 1) rest (fr n ((d, c) :: m))) :
    wpT P ol.toArray nh Φ W vs Fin i (⟨some d, .call ⟨.value (.func f), args.toArray, at_⟩, ty, pos, aft, some (j, b)⟩ :: rest) (fr n m) :=
  wpT_det rfl hk hf (by simp only [Region.wanted, yielded_fr, gvl_eq, hg', ht]; simp) (fun w hx hF R hR => by
    rw [eval_fr]
    exact outcome_call (first := #[]) (cap := #[]) hfn rfl (by simp [args_eq, ha]) ((h w hx hF).mono fun e w' ⟨he, hx'⟩ => ⟨c, he, hR w' hx'⟩)) (by rw [put_fr]; exact hr)
theorem t_callrG {ol : List Oper} {φ : Value → World → Prop} {args : List Operand} {at_ : Array TypeId} {f : FuncId} {l : List Value} {j : Nat} {b t : Bool} (hg' : gvl ol n m j = some t) (ht : t = b) (hk : Φ i = some (.inr (lowR φ))) (hf : floats ol.toArray nh i = false) (hs : ∀ v w w', φ v w → Ext w w' → φ v w') (hfn : IsFn P f) (ha : args? n m args = l)
    (h : ∀ w, Ext W w → factsL Φ vs w (depsOf ⟨some d, .call ⟨.value (.func f), args.toArray, at_⟩, ty, pos, aft, some (j, b)⟩) → Calls P f l.toArray w fun e w' => ∃ v, e = .returned v ∧ φ v w' ∧ Ext w w') (hr : wpT P ol.toArray nh Φ W vs Fin (i + 1) rest (fr n ((d, vs i) :: m))) :
    wpT P ol.toArray nh Φ W vs Fin i (⟨some d, .call ⟨.value (.func f), args.toArray, at_⟩, ty, pos, aft, some (j, b)⟩ :: rest) (fr n m) :=
  wpT_low hk hf hs (by simp only [Region.wanted, yielded_fr, gvl_eq, hg', ht]; simp) (fun h => by cases h) (fun w hx hF R hR => by
    rw [eval_fr]
    exact outcome_call (first := #[]) (cap := #[]) hfn rfl (by simp [args_eq, ha]) ((h w hx hF).mono fun e w' ⟨v, he, hv, hx'⟩ => ⟨v, he, hR v w' hx' hv fun h => by cases h⟩)) (by rw [put_fr]; exact hr)
theorem t_callr {φ : Value → World → Prop} {args : List Operand} {at_ : Array TypeId} {f : FuncId} {l : List Value} (hk : Φ i = some (.inr (lowR φ))) (hf : floats ops nh i = false) (hs : ∀ v w w', φ v w → Ext w w' → φ v w') (hfn : IsFn P f) (ha : args? n m args = l)
    (h : ∀ w, Ext W w → factsL Φ vs w (depsOf ⟨some d, .call ⟨.value (.func f), args.toArray, at_⟩, ty, pos, aft, none⟩) → Calls P f l.toArray w fun e w' => ∃ v, e = .returned v ∧ φ v w' ∧ Ext w w') (hr : wpT P ops nh Φ W vs Fin (i + 1) rest (fr n ((d, vs i) :: m))) :
    wpT P ops nh Φ W vs Fin i (⟨some d, .call ⟨.value (.func f), args.toArray, at_⟩, ty, pos, aft, none⟩ :: rest) (fr n m) :=
  wpT_low hk hf hs rfl (fun h => by cases h) (fun w hx hF R hR => by
    rw [eval_fr]
    exact outcome_call (first := #[]) (cap := #[]) hfn rfl (by simp [args_eq, ha]) ((h w hx hF).mono fun e w' ⟨v, he, hv, hx'⟩ => ⟨v, he, hR v w' hx' hv fun h => by cases h⟩)) (by rw [put_fr]; exact hr)
/-- A call of a function that the model answers by itself. -/
theorem t_callv {args : List Operand} {at_ : Array TypeId} {f : FuncId} {l : List Value} (ha : args? n m args = l) (hrun : ∀ w, (callFunc f l.toArray).run P w = .ok (.value v) w) (hk : Φ i = none) (hf : floats ops nh i = false)
    (hr : wpT P ops nh Φ W vs Fin (i + 1) rest (fr n ((d, v) :: m))) : wpT P ops nh Φ W vs Fin i (⟨some d, .call ⟨.value (.func f), args.toArray, at_⟩, ty, pos, aft, none⟩ :: rest) (fr n m) :=
  t_val (fun w _ => by
    have hargs : args.toArray.map (ev n m) = l.toArray := by rw [← ha, ← args_eq]; simp
    simp only [execOp, resolve, ev, Deferred.ofValue, Sem.run_bind, Sem.run_pure, Result.andThen, invoke, hargs]
    simpa using hrun w) hk hf hr

/-- A new block: known behind it wherever it lies. -/
def NewAt (W : World) (l : List Value) (T : TypeId) (v : Value) (w : World) : Prop := ∃ b, v = .pointer (some ⟨b, 0, none⟩) ∧ W.heap.size ≤ b ∧ w.heap[b]? = some (.cells l.toArray T (0, 0))
theorem NewAt.ext {W : World} {l : List Value} {T : TypeId} (v : Value) (w w' : World) (h : NewAt W l T v w) (hx : Ext w w') : NewAt W l T v w' := by
  obtain ⟨b, h1, h2, h3⟩ := h
  exact ⟨b, h1, h2, by rw [Below.block hx b (lt_of_blk h3)]; exact h3⟩
theorem NewAt.old {W : World} {l : List Value} {T : TypeId} {v : Value} {w : World} (h : NewAt W l T v w) : Old w v := by
  obtain ⟨b, h1, _, h3⟩ := h
  exact ⟨b, 0, h1, lt_of_blk h3⟩
theorem t_alloc {l : List Value} {z : Value} (hk : Φ i = some (.inr (lowR (NewAt W l T)))) (hf : floats ops nh i = false) (hz : TZero P T z) (hl : z.cells.toList = l) (hr : wpT P ops nh Φ W vs Fin (i + 1) rest (fr n ((d, vs i) :: m))) :
    wpT P ops nh Φ W vs Fin i (⟨some d, .alloc T, ty, pos, aft, none⟩ :: rest) (fr n m) :=
  wpT_low hk hf (fun v w w' h hx => NewAt.ext v w w' h hx) rfl (fun _ v w h => NewAt.old h) (fun w hx _ R hR => by
    have hrun : (execOp (fr n m).eval ⟨some d, .alloc T, ty, pos, aft, none⟩).run P w = .ok (.value (.pointer (some ⟨w.heap.size, 0, none⟩))) (w.alloc (.cells l.toArray T)) := by
      simp [execOp, run_allocZ hz, ← hl]
    rw [hrun]
    exact hR _ _ (Ext.alloc w _) ⟨_, rfl, hx.size, heap_alloc_self w _⟩ fun _ ⟨b, o, he, hlt⟩ => by
      injection he with he; injection he with he; injection he with he _
      exact absurd hlt (by rw [← he]; exact Nat.lt_irrefl _)) (by rw [put_fr]; exact hr)

/-- The end of a region's head: what is known of all, and the tail. -/
theorem t_nil {Q' : Exit → Act → World → Prop} {tl : List Oper} (h : ∀ w, Ext W w → factsL Φ vs w (List.range nh) → Apart ops nh Φ vs → wpList P ops Q' tl (fr n m) w) : wpT P ops nh Φ W vs (fun a' => ∀ w', Ext W w' → factsL Φ vs w' (List.range nh) → Apart ops nh Φ vs → wpList P ops Q' tl a' w') i [] (fr n m) := h
end

/-! ### Literals -/
theorem lay_fold : ∀ (cs : List Value) (off : Nat) (vs : List Value) (k : Nat), off + k + vs.length ≤ cs.length →
    (vs.zipIdx k).foldl (fun (a : Array Value) (p : Value × Nat) => a.setIfInBounds (off + p.2) p.1) cs.toArray = (lay cs (off + k) vs).toArray
  | cs, off, [], k, _ => by
    have : lay cs (off + k) [] = cs := by cases cs <;> rfl
    simp [this]
  | cs, off, v :: vs, k, h => by
    have hk : off + k < cs.length := by simp only [List.length_cons] at h; omega
    have ih := lay_fold (cs.set (off + k) v) off vs (k + 1) (by simp only [List.length_cons, List.length_set] at *; omega)
    simp only [List.zipIdx_cons, List.foldl_cons]
    have e1 : cs.toArray.setIfInBounds (off + k) v = (cs.set (off + k) v).toArray := by simp
    rw [e1, ih]
    congr 1
    apply List.ext_getElem?
    intro j
    rw [lay_get, lay_get]
    simp only [List.length_cons, List.length_set]
    by_cases h1 : off + (k + 1) ≤ j ∧ j < off + (k + 1) + vs.length ∧ j < cs.length
    · rw [if_pos h1, if_pos (by omega), show j - (off + k) = (j - (off + (k + 1))) + 1 by omega]; simp
    · rw [if_neg h1]
      by_cases h3 : j = off + k
      · subst h3; rw [if_pos (by omega)]; simp [hk]
      · rw [if_neg (by omega), List.getElem?_set_ne (by omega)]
theorem fill_of {pl : List (Nat × Nat)} {place : Nat → Option (Nat × Nat)} (hpl : ∀ i, lkp pl i = none ∨ lkp pl i = place i) : ∀ (ps : List (Nat × Value)) (cs l : List Value), fillL pl cs ps = some l → Instr.fill place cs.toArray ps = some l.toArray
  | [], cs, l, h => by simp only [fillL, Option.some.injEq] at h; simp [Instr.fill, h]
  | (i, v) :: ps, cs, l, h => by
    unfold fillL at h
    rcases hpl i with h1 | h1
    · simp [h1] at h
    · cases h2 : lkp pl i with
      | none => simp [h2] at h
      | some q =>
        obtain ⟨off, sz⟩ := q
        simp only [h2] at h
        have h3 : place i = some (off, sz) := by rw [← h1, h2]
        cases hc : Nat.beq v.cells.toList.length sz && Nat.ble (off + sz) cs.length with
        | false => rw [hc] at h; cases h
        | true =>
          rw [hc] at h
          simp only [cond_true] at h
          simp only [Bool.and_eq_true, Nat.ble_eq] at hc
          have hlen : v.cells.toList.length = sz := by have := hc.1; rw [nat_beq] at this; simpa using this
          unfold Instr.fill
          simp only [h3]
          have hsz : v.cells.size = sz := by simpa using hlen
          rw [if_neg (by simp [hsz]; omega)]
          have hf := lay_fold cs off v.cells.toList 0 (by rw [hlen]; omega)
          have e1 : v.cells.zipIdx.foldl (fun cs (c, j) => cs.setIfInBounds (off + j) c) cs.toArray = (lay cs off v.cells.toList).toArray := by
            rw [← Array.foldl_toList]
            simpa using hf
          rw [e1]
          exact fill_of hpl ps _ l h
theorem lkp_array (sz : Nat) : ∀ (n k i : Nat), lkp ((List.range' k n).map fun i => (i * sz, sz)) i = none ∨ lkp ((List.range' k n).map fun i => (i * sz, sz)) i = some ((k + i) * sz, sz)
  | 0, k, i => .inl (by simp [lkp])
  | n + 1, k, 0 => .inr (by simp [List.range'_succ, lkp])
  | n + 1, k, i + 1 => by
    have := lkp_array sz n (k + 1) i
    simp only [List.range'_succ, List.map_cons, lkp]
    rw [show k + (i + 1) = k + 1 + i by omega]
    exact this
theorem tbuildA {P : Program} {T E : TypeId} {z : Value} {len sz : Nat} {pl : List (Nat × Nat)} (hu : P.underlying T = some (.array len E)) (hz : TZero P T z) (hs : ∀ w, (sizeOf E).run P w = .ok sz w) (hpl : (List.range' 0 len).map (fun i => (i * sz, sz)) = pl) : TBuild P T z pl := by
  intro ps l w h
  have hf := fill_of (place := fun i => some (i * sz, sz)) (fun i => by subst hpl; simpa using lkp_array sz len 0 i) ps z.cells.toList l h
  have e1 : z.cells.toList.toArray = z.cells := by simp
  rw [e1] at hf
  simp [Instr.build, hz w, Go.underlying, hu, hs, hf]
theorem tbuildS {P : Program} {T : TypeId} {z : Value} {fs : Array Field} {pl : List (Nat × Nat)} (hu : P.underlying T = some (.struct fs)) (hz : TZero P T z) (hs : ∀ w, (fs.mapM fun f => do pure (f.offset, ← sizeOf f.type) : Sem (Array (Nat × Nat))).run P w = .ok pl.toArray w) : TBuild P T z pl := by
  intro ps l w h
  have hlk : ∀ (pl : List (Nat × Nat)) (i : Nat), lkp pl i = pl[i]? := fun pl => by
    induction pl with
    | nil => intro i; simp [lkp]
    | cons p pl ih => intro i; cases i with
      | zero => simp [lkp]
      | succ i => simp [lkp, ih]
  have hf := fill_of (place := (pl.toArray[·]?)) (fun i => by right; simp [hlk]) ps z.cells.toList l h
  have e1 : z.cells.toList.toArray = z.cells := by simp
  rw [e1] at hf
  have hs' := hs w
  simp only [Instr.build, Sem.run_bind, hz w, Result.andThen_ok, Go.underlying, run_program, hu, Sem.run_pure, hs', hf]

theorem p_mv {P : Program} {ops : Array Oper} {Q : Exit → Act → World → Prop} {rest : List Oper} {n : Nat} {m : FM} {w : World} {d : Nat} {ty : TypeId} {pos : String} {aft : Array Edge} {x : Operand} {v : Value} (hx : ev n m x = v) (hr : wpList P ops Q rest (fr n ((d, v) :: m)) w) : wpList P ops Q (⟨some d, .move x, ty, pos, aft, none⟩ :: rest) (fr n m) w := p_val (r_move hx) hr
theorem p_as {P : Program} {ops : Array Oper} {Q : Exit → Act → World → Prop} {rest : List Oper} {n : Nat} {m : FM} {w : World} {d : Nat} {ty : TypeId} {pos : String} {aft : Array Edge} {x : Operand} {v : Value} (hx : ev n m x = v) (hr : wpList P ops Q rest (fr n ((d, v) :: m)) w) : wpList P ops Q (⟨some d, .assign x, ty, pos, aft, none⟩ :: rest) (fr n m) w := p_val (r_assign hx) hr
/-! ### Structure -/
section
variable {P : Program} {Q : Exit → Act → World → Prop} {K : Act → World → Prop} {n : Nat} {m : FM} {w w0 : World} {L : List Ent} {id id' : Nat} {a : Act}
theorem x_norm (h : K a w) : Exit.then K Q .normal a w := h
theorem sr {c2 : Code} {l : List Oper} (h : ∀ K : Act → World → Prop, (∀ a w, c2.wp P Q a w → K a w) → wpList P l.toArray (Exit.then K Q) l a w) : (Code.seq (.region id l.toArray false) c2).wp P Q a w := wp_seq_k fun K hK => wp_region_lit (h K hK)
theorem xk {c2 : Code} {ops : Array Oper} (hK : ∀ a w, c2.wp P Q a w → K a w) (h : c2.wp P Q a w) : wpList P ops (Exit.then K Q) [] a w := wpList_nil (x_norm (hK _ _ h))
theorem xn {c2 : Code} (hK : ∀ a w, c2.wp P Q a w → K a w) (h : c2.wp P Q a w) : Exit.then K Q .normal a w := x_norm (hK _ _ h)
theorem x_ret (h : Q .ret a w) : Exit.then K Q .ret a w := h
theorem x_exit (h : Q (.exit id) a w) : Exit.then K Q (.exit id) a w := h
theorem b_norm (h : Q .normal a w) : Exit.inBlock id Q .normal a w := h
theorem b_ret (h : Q .ret a w) : Exit.inBlock id Q .ret a w := h
theorem b_hit (h : Q .normal a w) : Exit.inBlock id Q (.exit id) a w := by simp only [Exit.inBlock, if_true]; exact h
theorem b_miss (hne : Nat.beq id' id = false) (h : Q (.exit id') a w) : Exit.inBlock id Q (.exit id') a w := by
  have : id' ≠ id := fun e => by rw [nat_beq] at hne; simp at hne; exact hne e
  simp only [Exit.inBlock, this, if_false]; exact h
theorem c_split {c : Operand} {x y : Code} {t : Bool} (hc : ev n m c = .bool t) (ht : t = true → x.wp P Q (fr n m) w) (hf : t = false → y.wp P Q (fr n m) w) : (Code.cond c x y).wp P Q (fr n m) w :=
  wp_cond_split (by rw [eval_fr]; exact hc) ht hf
theorem c_true {c : Operand} {x y : Code} {t : Bool} (hc : ev n m c = .bool t) (ht : t = true) (h : x.wp P Q (fr n m) w) : (Code.cond c x y).wp P Q (fr n m) w :=
  wp_cond_true (by rw [eval_fr, hc, ht]) h
theorem c_false {c : Operand} {x y : Code} {t : Bool} (hc : ev n m c = .bool t) (ht : t = false) (h : y.wp P Q (fr n m) w) : (Code.cond c x y).wp P Q (fr n m) w :=
  wp_cond_false (by rw [eval_fr, hc, ht]) h

/-- A loop: G a number that falls. -/
theorem loopg {c : Code} (I : Nat → Act → World → Prop) (g0 : Nat) (h0 : I g0 a w)
    (round : ∀ g a w, I g a w → c.wp P (Exit.then (fun a' w' => ∃ g', g' < g ∧ I g' a' w') Q) a w) : (Code.loop c).wp P Q a w := by
  let I' : Act → World → Prop := fun a w => ∃ g, I g a w
  have hleast : ∀ a w, ∃ g, (∃ g, I g a w) → I g a w ∧ ∀ g', g' < g → ¬ I g' a w := fun a w => by
    by_cases h : ∃ g, I g a w
    · have : ∃ g, I g a w ∧ ∀ g', g' < g → ¬ I g' a w := by
        obtain ⟨g, hg⟩ := h
        induction g using Nat.strongRecOn with
        | _ g ih =>
          by_cases h2 : ∃ g', g' < g ∧ I g' a w
          · obtain ⟨g', h3, h4⟩ := h2; exact ih g' h3 h4
          · exact ⟨g, hg, fun g' h3 h4 => h2 ⟨g', h3, h4⟩⟩
      obtain ⟨g, h1⟩ := this
      exact ⟨g, fun _ => h1⟩
    · exact ⟨0, fun h2 => absurd h2 h⟩
  let μ : Act → World → Nat := fun a w => Classical.choose (hleast a w)
  have hμ : ∀ a w (h : ∃ g, I g a w), I (μ a w) a w ∧ ∀ g', g' < μ a w → ¬ I g' a w := fun a w h => Classical.choose_spec (hleast a w) h
  refine wp_loop I' μ ⟨g0, h0⟩ fun a w hI => ?_
  refine wp_mono (round (μ a w) a w (hμ a w hI).1) fun e a' w' hq => ?_
  cases e with
  | normal =>
    obtain ⟨g', hlt, hg'⟩ := hq
    have h1 : ∃ g, I g a' w' := ⟨g', hg'⟩
    refine ⟨h1, ?_⟩
    rcases Nat.lt_or_ge g' (μ a' w') with h2 | h2
    · exact absurd hg' ((hμ a' w' h1).2 g' h2)
    · omega
  | _ => exact hq

/-- A list has a number. -/
def has : List Nat → Nat → Bool
  | [], _ => false
  | d :: l, t => bif Nat.beq d t then true else has l t
theorem keep_cons {D : List Nat} {d : Nat} {v : Value} {X : Nat → Value} (hd : has D d = true) (h : ∀ t, has D t = false → look m t = X t) : ∀ t, has D t = false → look ((d, v) :: m) t = X t := fun t ht => by
  have hne : d ≠ t := fun e => by rw [e, ht] at hd; cases hd
  simp only [look, nat_beq, hne, decide_false, cond_false]
  exact h t ht
def subl (D : List Nat) : List Nat → Bool
  | [] => true
  | d :: l => bif has D d then subl D l else false
theorem subl_spec {D : List Nat} : ∀ {l : List Nat}, subl D l = true → ∀ t, has D t = false → has l t = false
  | [], _, t, _ => rfl
  | d :: l, h, t, ht => by
    unfold subl at h
    cases hd : has D d with
    | false => rw [hd] at h; cases h
    | true =>
      rw [hd] at h
      have hne : d ≠ t := fun e => by rw [e, ht] at hd; cases hd
      simp only [has, nat_beq, hne, decide_false, cond_false]
      exact subl_spec h t ht
/-- Behind a loop in the loop. -/
theorem keep_sub {D l : List Nat} {m1 : FM} {X Y : Nat → Value} (hi : ∀ t, has l t = false → look m1 t = Y t) (hs : subl D l = true) (h : ∀ t, has D t = false → Y t = X t) : ∀ t, has D t = false → look m1 t = X t :=
  fun t ht => (hi t (subl_spec hs t ht)).trans (h t ht)
/-- A loop that writes the slots D alone. -/
theorem loopF {c : Code} {m0 : FM} (D : List Nat) (I : Nat → FM → World → Prop) (g0 : Nat) (h0 : I g0 m0 w)
    (round : ∀ g m w, (∀ t, has D t = false → look m t = look m0 t) → I g m w →
      c.wp P (Exit.then (fun a' w' => ∃ g' m', g' < g ∧ a' = fr n m' ∧ (∀ t, has D t = false → look m' t = look m0 t) ∧ I g' m' w') Q) (fr n m) w) : (Code.loop c).wp P Q (fr n m0) w := by
  refine loopg (fun g a w => ∃ m, a = fr n m ∧ (∀ t, has D t = false → look m t = look m0 t) ∧ I g m w) g0 ⟨m0, rfl, fun _ _ => rfl, h0⟩ ?_
  rintro g a w ⟨m, rfl, hk, hI⟩
  refine wp_mono (round g m w hk hI) fun e a' w' hq => ?_
  cases e with
  | normal =>
    obtain ⟨g', m', h1, h2, h3, h4⟩ := hq
    exact ⟨g', h1, m', h2, h3, h4⟩
  | _ => exact hq

/-! ### The end of a function -/
def resS (tmps : Array Value) : ResultVar → Sem Value
  | .tmp t => pure (tmps.getD t undef)
  | .cell a t => do loadVar t (← asAddr (tmps.getD a undef))
def resOK (P : Program) (n : Nat) (m : FM) (w : World) (r : ResultVar) (v : Value) : Prop := (resS (fr n m).tmps r).run P w = .ok v w
theorem results_eq (fn : Func) (tmps : Array Value) : results fn tmps = (do let vs ← fn.results.mapM (resS tmps); pure (if h : vs.size = 1 then vs[0] else .tuple vs)) := by
  unfold results
  rfl
theorem q_tmp {t : Nat} {v : Value} (hv : ev n m (.tmp t) = v) : resOK P n m w (.tmp t) v := by
  show (pure ((fr n m).tmps.getD t undef) : Sem Value).run P w = _
  rw [getD_fr, hv]; rfl
theorem q_cell {t k b o sz : Nat} {T T' : TypeId} {cs l : List Value} (tg : TAgg P T sz) (H : HP w0 w L) (hp : ev n m (.tmp t) = .pointer (some ⟨b, o, none⟩)) (hk : lk L k = some (b, cs, T')) (hl : piece cs o sz = l)
    (hsz : Nat.ble (o + sz) cs.length = true) : resOK P n m w (.cell t T) (.agg l.toArray) := by
  have hrun := run_loadAgg (P := P) (w := w) tg (H.blk k b cs T' hk).1 hl hsz
  unfold resOK resS
  simp only [getD_fr, hp]
  simpa [Instr.loadAt, Instr.sureAddr, asAddr] using hrun
theorem q_cellW {t k b sz : Nat} {T T' : TypeId} {cs : List Value} (tg : TAgg P T sz) (H : HP w0 w L) (hp : ev n m (.tmp t) = .pointer (some ⟨b, 0, none⟩)) (hk : lk L k = some (b, cs, T')) (hsz : cs.length = sz) : resOK P n m w (.cell t T) (.agg cs.toArray) :=
  q_cell tg H hp hk (by rw [piece_eq]; simp [← hsz]) (by rw [Nat.ble_eq]; omega)
theorem q_cell1 {t k b o : Nat} {v : Value} {T T' : TypeId} {cs : List Value} (tg : TOne P T) (H : HP w0 w L) (hp : ev n m (.tmp t) = .pointer (some ⟨b, o, none⟩)) (hk : lk L k = some (b, cs, T')) (hv : piece cs o 1 = [v]) : resOK P n m w (.cell t T) v := by
  have hv' : cs[o]? = some v := by
    rw [piece_eq] at hv
    have := congrArg (·[0]?) hv
    simpa using this
  have hrun := run_loadOne (P := P) (w := w) tg (H.blk k b cs T' hk).1 hv'
  unfold resOK resS
  simp only [getD_fr, hp]
  simpa [Instr.loadAt, Instr.sureAddr, asAddr] using hrun
theorem e_0 {fn : Func} {R : Ending → World → Prop} (hr : fn.results = #[]) (h : R (.returned (.tuple #[])) w) : bodyPost P fn R .ret (fr n m) w :=
  ⟨rfl, _, by simp [results, hr], h⟩
theorem e_00 {fn : Func} {R : Ending → World → Prop} (hr : fn.results = #[]) (h : R (.returned (.tuple #[])) w) : bodyPost P fn R .normal (fr n m) w :=
  ⟨rfl, _, by simp [results, hr], h⟩
theorem e_1 {fn : Func} {R : Ending → World → Prop} {r1 : ResultVar} {v1 : Value} (hr : fn.results = #[r1]) (h1 : resOK P n m w r1 v1) (h : R (.returned v1) w) : bodyPost P fn R .ret (fr n m) w := by
  refine ⟨rfl, v1, ?_, h⟩
  unfold resOK at h1
  rw [results_eq, hr]
  simp only [List.mapM_toArray, List.mapM_cons, List.mapM_nil, Sem.run_bind, Sem.run_map, h1, Result.andThen_ok, Sem.run_pure]
  rfl
theorem e_2 {fn : Func} {R : Ending → World → Prop} {r1 r2 : ResultVar} {v1 v2 : Value} (hr : fn.results = #[r1, r2]) (h1 : resOK P n m w r1 v1) (h2 : resOK P n m w r2 v2) (h : R (.returned (.tuple #[v1, v2])) w) : bodyPost P fn R .ret (fr n m) w := by
  refine ⟨rfl, .tuple #[v1, v2], ?_, h⟩
  unfold resOK at h1 h2
  rw [results_eq, hr]
  simp only [List.mapM_toArray, List.mapM_cons, List.mapM_nil, Sem.run_bind, Sem.run_map, h1, h2, Result.andThen_ok, Sem.run_pure]
  rfl
theorem e_3 {fn : Func} {R : Ending → World → Prop} {r1 r2 r3 : ResultVar} {v1 v2 v3 : Value} (hr : fn.results = #[r1, r2, r3]) (h1 : resOK P n m w r1 v1) (h2 : resOK P n m w r2 v2) (h3 : resOK P n m w r3 v3)
    (h : R (.returned (.tuple #[v1, v2, v3])) w) : bodyPost P fn R .ret (fr n m) w := by
  refine ⟨rfl, .tuple #[v1, v2, v3], ?_, h⟩
  unfold resOK at h1 h2 h3
  rw [results_eq, hr]
  simp only [List.mapM_toArray, List.mapM_cons, List.mapM_nil, Sem.run_bind, Sem.run_map, h1, h2, h3, Result.andThen_ok, Sem.run_pure]
  rfl
end
end Go.Proofs.Ytmbcolbbekbccaa
