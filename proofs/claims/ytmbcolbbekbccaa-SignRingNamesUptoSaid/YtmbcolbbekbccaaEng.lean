/- Steps of a walk: frames as lists of slots, memory as a list of the call's own blocks. Conditions: as each theorem says. -/
import Derived.Test.YtmbcolbbekbccaaReg3
import Derived.WalkKit
namespace Go.Proofs.Ytmbcolbbekbccaa
open Go Go.RowKit

/-! ### Frames -/
abbrev FM := List (Nat × Value)
def look : FM → Nat → Value
  | [], _ => undef
  | (d, v) :: m, t => bif Nat.beq d t then v else look m t
def fr (n : Nat) (m : FM) : Act := { tmps := Array.ofFn (n := n) fun i => look m i.val, defers := [] }
def ev (n : Nat) (m : FM) : Operand → Value
  | .tmp t => bif Nat.blt t n then look m t else undef
  | .const v => v
  | .global g => .pointer (some ⟨g, 0, none⟩)
  | .func f => .func (.func f) #[] #[]

theorem nat_blt {a b : Nat} : Nat.blt a b = decide (a < b) := by
  rw [Bool.eq_iff_iff]; simp [Nat.blt, Nat.succ_le_iff, Nat.ble_eq]
theorem nat_beq {a b : Nat} : Nat.beq a b = decide (a = b) := by
  rw [Bool.eq_iff_iff]; simp

theorem eval_fr (n : Nat) (m : FM) : (fr n m).eval = ev n m := by
  funext x
  cases x with
  | tmp t =>
    simp only [Act.eval, fr, ev, nat_blt]
    by_cases h : t < n
    · simp [h]
    · simp [h]
  | _ => rfl
theorem put_fr (n : Nat) (m : FM) (d : Nat) (v : Value) : (fr n m).put (some d) v = fr n ((d, v) :: m) := by
  have e : (Array.ofFn (n := n) fun i => look m i.val).setIfInBounds d v = Array.ofFn (n := n) fun i => look ((d, v) :: m) i.val := by
    apply Array.ext_getElem?
    intro i
    simp only [Array.getElem?_setIfInBounds, Array.getElem?_ofFn, look, nat_beq, Array.size_ofFn]
    by_cases h : d = i <;> by_cases hi : i < n <;> simp_all
  simp only [fr, Act.put, e]
theorem put_fr_none (n : Nat) (m : FM) (v : Value) : (fr n m).put none v = fr n m := rfl
theorem tmps_fr (n : Nat) (m : FM) (t : Nat) : (fr n m).tmps[t]? = if t < n then some (look m t) else none := by
  simp [fr, Array.getElem?_ofFn]
theorem getD_fr (n : Nat) (m : FM) (t : Nat) : (fr n m).tmps.getD t undef = ev n m (.tmp t) := by
  rw [← eval_fr]; rfl
theorem defers_fr (n : Nat) (m : FM) : (fr n m).defers = [] := rfl

def argm : List Value → Nat → FM
  | [], _ => []
  | v :: l, i => (i, v) :: argm l (i + 1)
theorem look_argm (l : List Value) : ∀ (i t : Nat), look (argm l i) t = if i ≤ t then l.getD (t - i) undef else undef := by
  induction l with
  | nil => intro i t; simp [argm, look]
  | cons v l ih =>
    intro i t
    simp only [argm, look, nat_beq, ih]
    by_cases h : i = t
    · subst h; simp
    · by_cases h2 : i ≤ t
      · have e : t - i = (t - (i + 1)) + 1 := by omega
        simp [h, h2, show i + 1 ≤ t by omega, e]
      · simp [h, h2, show ¬ i + 1 ≤ t by omega]

theorem enter {P : Program} {f : FuncId} {fn : Func} {c : Code} {n : Nat} {args : List Value} {w : World} {R : Ending → World → Prop}
    (hf : P.funcs[f]? = some fn) (hb : fn.body = some c) (hn : fn.ntmps = n) (hl : Nat.ble args.length n = true)
    (h : c.wp P (bodyPost P fn R) (fr n (argm args 0)) w) : Calls P f args.toArray w R := by
  refine calls_of_wp hf hb ?_
  have hl' : args.length ≤ n := Nat.le_of_ble_eq_true hl
  have e : ({ tmps := args.toArray ++ Array.replicate (fn.ntmps - args.toArray.size) undef, defers := [] } : Act) = fr n (argm args 0) := by
    unfold fr
    congr 1
    apply Array.ext
    · simp [hn]; omega
    · intro i h1 h2
      simp only [Array.getElem_append, Array.getElem_replicate, Array.getElem_ofFn, look_argm, Nat.zero_le, if_true, Nat.sub_zero]
      by_cases hi : i < args.length
      · simp [hi, List.getD]
      · simp [hi, List.getD, List.getElem?_eq_none (Nat.le_of_not_lt hi)]
  rw [e]
  exact h

/-! ### Memory: the blocks of the call's own -/
abbrev Ent := Nat × List Value × TypeId
def lk : List Ent → Nat → Option Ent
  | [], _ => none
  | e :: _, 0 => some e
  | _ :: l, k + 1 => lk l k
def st : List Ent → Nat → Ent → List Ent
  | [], _, _ => []
  | _ :: l, 0, e => e :: l
  | x :: l, k + 1, e => x :: st l k e
theorem lk_st_same {e : Ent} : ∀ {l : List Ent} {k : Nat} {x : Ent}, lk l k = some x → lk (st l k e) k = some e
  | [], _, _, h => by cases h
  | _ :: _, 0, _, _ => rfl
  | _ :: l, k + 1, _, h => lk_st_same (l := l) (k := k) h
theorem lk_st_other {e : Ent} : ∀ {l : List Ent} {k j : Nat}, j ≠ k → lk (st l k e) j = lk l j
  | [], _, _, _ => rfl
  | _ :: _, 0, 0, h => absurd rfl h
  | _ :: _, 0, _ + 1, _ => rfl
  | _ :: _, _ + 1, 0, _ => rfl
  | _ :: l, k + 1, j + 1, h => lk_st_other (l := l) (by omega)

/-- w is w0 with new blocks, among them those of the list, each at its own place, none frozen. -/
structure HP (w0 w : World) (L : List Ent) : Prop where
  below : Below w0.heap.size w0 w
  blk : ∀ k b cs T, lk L k = some (b, cs, T) → w.heap[b]? = some (.cells cs.toArray T (0, 0)) ∧ w0.heap.size ≤ b
  inj : ∀ i j b cs T cs' T', lk L i = some (b, cs, T) → lk L j = some (b, cs', T') → i = j

theorem lt_of_blk {w : World} {b : Nat} {o : Obj} (h : w.heap[b]? = some o) : b < w.heap.size := by
  rcases Nat.lt_or_ge b w.heap.size with h' | h'
  · exact h'
  · simp [Array.getElem?_eq_none h'] at h

theorem HP.start (w : World) : HP w w [] := ⟨Below.refl _ _, fun _ _ _ _ h => (by cases h), fun _ _ _ _ _ _ _ h => (by cases h)⟩
theorem HP.ext {w0 w w' : World} {L : List Ent} (h : HP w0 w L) (hx : Ext w w') : HP w0 w' L :=
  ⟨h.below.trans (Below.mono hx h.below.size), fun k b cs T hk => by
    obtain ⟨h1, h2⟩ := h.blk k b cs T hk
    exact ⟨by rw [Below.block hx b (lt_of_blk h1)]; exact h1, h2⟩, h.inj⟩
theorem Ext.drew (w : World) : Ext w w.drew := Below.drew (Below.refl _ _)
theorem Ext.alloc (w : World) (o : Obj) : Ext w (w.alloc o) := Below.alloc (Below.refl _ _) (Nat.le_refl _) o
theorem HP.drew {w0 w : World} {L : List Ent} (h : HP w0 w L) : HP w0 w.drew L := h.ext (Ext.drew w)
theorem heap_alloc_self (w : World) (o : Obj) : (w.alloc o).heap[w.heap.size]? = some o := by
  show (w.heap.push o)[w.heap.size]? = _; simp
theorem HP.push {w0 w w' : World} {L : List Ent} {b : Nat} {cs : List Value} {T : TypeId} (h : HP w0 w L) (hx : Ext w w') (hb : w.heap.size ≤ b) (hh : w'.heap[b]? = some (.cells cs.toArray T (0, 0))) :
    HP w0 w' ((b, cs, T) :: L) := by
  have h' := h.ext hx
  refine ⟨h'.below, ?_, ?_⟩
  · intro k b' cs' T' hk
    cases k with
    | zero =>
      simp only [lk, Option.some.injEq, Prod.mk.injEq] at hk
      obtain ⟨rfl, rfl, rfl⟩ := hk
      exact ⟨hh, Nat.le_trans h.below.size hb⟩
    | succ k => exact h'.blk k b' cs' T' hk
  · intro i j b' cs1 T1 cs2 T2 hi hj
    cases i with
    | zero =>
      cases j with
      | zero => rfl
      | succ j =>
        simp only [lk, Option.some.injEq, Prod.mk.injEq] at hi
        obtain ⟨rfl, _, _⟩ := hi
        have := lt_of_blk (h.blk j b cs2 T2 hj).1
        omega
    | succ i =>
      cases j with
      | zero =>
        simp only [lk, Option.some.injEq, Prod.mk.injEq] at hj
        obtain ⟨rfl, _, _⟩ := hj
        have := lt_of_blk (h.blk i b cs1 T1 hi).1
        omega
      | succ j => rw [h.inj i j b' cs1 T1 cs2 T2 hi hj]
theorem HP.alloc {w0 w : World} {L : List Ent} (h : HP w0 w L) (cs : List Value) (T : TypeId) : HP w0 (w.alloc (.cells cs.toArray T)) ((w.heap.size, cs, T) :: L) :=
  h.push (Ext.alloc w _) (Nat.le_refl _) (heap_alloc_self w _)

/-- nothing but block b is other. -/
theorem HP.set {w0 w w' : World} {L : List Ent} {k b : Nat} {cs cs' : List Value} {T : TypeId} (h : HP w0 w L) (hk : lk L k = some (b, cs, T)) (hsz : w'.heap.size = w.heap.size) (hos : w'.os = w.os) (htp : w'.tape = w.tape) (hop : w'.output = w.output)
    (hb : w'.heap[b]? = some (.cells cs'.toArray T (0, 0))) (ho : ∀ i, i ≠ b → w'.heap[i]? = w.heap[i]?) : HP w0 w' (st L k (b, cs', T)) := by
  have hB := (h.blk k b cs T hk).2
  refine ⟨⟨hos.trans h.below.os, htp.trans h.below.tape, hop.trans h.below.output, by rw [hsz]; exact h.below.size, fun i hi => by rw [ho i (by omega)]; exact h.below.block i hi⟩, ?_, ?_⟩
  · intro j b' c T' hj
    by_cases hjk : j = k
    · subst hjk
      rw [lk_st_same hk] at hj
      simp only [Option.some.injEq, Prod.mk.injEq] at hj
      obtain ⟨rfl, rfl, rfl⟩ := hj
      exact ⟨hb, hB⟩
    · rw [lk_st_other hjk] at hj
      obtain ⟨h1, h2⟩ := h.blk j b' c T' hj
      have hne : b' ≠ b := fun e => hjk (h.inj j k b' c T' cs T hj (e ▸ hk))
      exact ⟨by rw [ho b' hne]; exact h1, h2⟩
  · intro i j b' c1 T1 c2 T2 hi hj
    have key : ∀ i c T1, lk (st L k (b, cs', T)) i = some (b', c, T1) → ∃ c2 T2, lk L i = some (b', c2, T2) := fun i c T1 hi => by
      by_cases hik : i = k
      · subst hik
        rw [lk_st_same hk] at hi
        simp only [Option.some.injEq, Prod.mk.injEq] at hi
        exact ⟨cs, T, hi.1 ▸ hk⟩
      · rw [lk_st_other hik] at hi; exact ⟨_, _, hi⟩
    obtain ⟨x, y, hx⟩ := key i _ _ hi
    obtain ⟨x', y', hx'⟩ := key j _ _ hj
    exact h.inj i j b' x y x' y' hx hx'

/-- b is none of the list's blocks. -/
def neL : List Ent → Nat → Prop
  | [], _ => True
  | e :: l, b => e.1 ≠ b ∧ neL l b
theorem neL_lk : ∀ {L : List Ent} {b k : Nat} {e : Ent}, neL L b → lk L k = some e → e.1 ≠ b
  | [], _, _, _, _, h => by cases h
  | _ :: _, _, 0, _, hn, h => by injection h with h; rw [← h]; exact hn.1
  | _ :: _, _, _ + 1, _, hn, h => neL_lk hn.2 h
theorem neL_of {b : Nat} : ∀ {L : List Ent}, (∀ k e, lk L k = some e → e.1 ≠ b) → neL L b
  | [], _ => trivial
  | _ :: _, h => ⟨h 0 _ rfl, neL_of fun k e hk => h (k + 1) e hk⟩
theorem HP.neL {w0 w : World} {L : List Ent} (h : HP w0 w L) {b : Nat} (hb : w.heap.size ≤ b) : neL L b :=
  neL_of fun k ⟨b', cs, T⟩ hk e => by
    have := lt_of_blk (h.blk k b' cs T hk).1
    simp only at e
    omega
theorem lk_append : ∀ (N L : List Ent) (k : Nat), lk (N ++ L) k = if k < N.length then lk N k else lk L (k - N.length)
  | [], L, k => by simp
  | e :: N, L, 0 => rfl
  | e :: N, L, k + 1 => by
    rw [List.cons_append, lk, lk_append N L k, lk]
    simp only [List.length_cons, Nat.add_lt_add_iff_right, Nat.add_sub_add_right]
theorem HP.join {w0 W w : World} {L N : List Ent} (h : HP w0 W L) (k : HP W w N) : HP w0 w (N ++ L) := by
  refine ⟨Below.trans h.below (k.below.mono h.below.size), fun j b cs T hj => ?_, fun i j b c1 T1 c2 T2 hi hj => ?_⟩
  · rw [lk_append] at hj
    split at hj
    · have := k.blk j b cs T hj
      exact ⟨this.1, Nat.le_trans h.below.size this.2⟩
    · have h1 := h.blk _ b cs T hj
      exact ⟨by rw [k.below.block b (lt_of_blk h1.1)]; exact h1.1, h1.2⟩
  · rw [lk_append] at hi hj
    split at hi <;> split at hj
    · exact k.inj i j b c1 T1 c2 T2 hi hj
    · have h1 := (k.blk i b c1 T1 hi).2
      have h2 := lt_of_blk (h.blk _ b c2 T2 hj).1
      omega
    · have h1 := (k.blk j b c2 T2 hj).2
      have h2 := lt_of_blk (h.blk _ b c1 T1 hi).1
      omega
    · have := h.inj _ _ b c1 T1 c2 T2 hi hj
      omega
theorem HP.push1 {w0 w : World} {L : List Ent} {b : Nat} {cs : List Value} {T : TypeId} (h : HP w0 w L) (hw : w0.heap.size ≤ b) (hn : Go.Proofs.Ytmbcolbbekbccaa.neL L b) (hh : w.heap[b]? = some (.cells cs.toArray T (0, 0))) : HP w0 w ((b, cs, T) :: L) := by
  refine ⟨h.below, fun k b' cs' T' hk => ?_, fun i j b' c1 T1 c2 T2 hi hj => ?_⟩
  · cases k with
    | zero => cases hk; exact ⟨hh, hw⟩
    | succ k => exact h.blk k b' cs' T' hk
  · cases i with
    | zero => cases j with
      | zero => rfl
      | succ j => cases hi; exact absurd rfl (neL_lk (L := L) (k := j) hn hj)
    | succ i => cases j with
      | zero => cases hj; exact absurd rfl (neL_lk (L := L) (k := i) hn hi)
      | succ j => rw [h.inj i j b' c1 T1 c2 T2 hi hj]
/-- nothing of the list counts any more but its head. -/
theorem HP.tail {w0 w : World} {e : Ent} {L : List Ent} (h : HP w0 w (e :: L)) : HP w0 w L :=
  ⟨h.below, fun k => h.blk (k + 1), fun i j b cs T cs' T' hi hj => by have := h.inj (i + 1) (j + 1) b cs T cs' T' hi hj; omega⟩
theorem HP.nil {w0 w : World} {L : List Ent} (h : HP w0 w L) : HP w0 w [] := ⟨h.below, fun _ _ _ _ h => (by cases h), fun _ _ _ _ _ _ _ h => (by cases h)⟩

/-! ### Cells of a block: a piece read, a piece written -/
def piece : List Value → Nat → Nat → List Value
  | _, _, 0 => []
  | [], _, _ + 1 => []
  | v :: l, 0, n + 1 => v :: piece l 0 n
  | _ :: l, o + 1, n + 1 => piece l o (n + 1)
def lay : List Value → Nat → List Value → List Value
  | l, _, [] => l
  | [], _, _ => []
  | _ :: l, 0, x :: xs => x :: lay l 0 xs
  | v :: l, o + 1, x :: xs => v :: lay l o (x :: xs)
theorem piece_eq : ∀ (l : List Value) (o n : Nat), piece l o n = (l.drop o).take n
  | _, _, 0 => by simp [piece]
  | [], _, _ + 1 => by simp [piece]
  | v :: l, 0, n + 1 => by simp [piece, piece_eq l 0 n]
  | _ :: l, o + 1, n + 1 => by simp [piece, piece_eq l o (n + 1)]
theorem lay_length : ∀ (l : List Value) (o : Nat) (xs : List Value), (lay l o xs).length = l.length
  | l, _, [] => by cases l <;> simp [lay]
  | [], _, _ :: _ => by simp [lay]
  | _ :: l, 0, x :: xs => by simp [lay, lay_length l 0 xs]
  | v :: l, o + 1, x :: xs => by simp [lay, lay_length l o (x :: xs)]
theorem lay_get : ∀ (l : List Value) (o : Nat) (xs : List Value) (i : Nat), (lay l o xs)[i]? = if o ≤ i ∧ i < o + xs.length ∧ i < l.length then xs[i - o]? else l[i]?
  | l, o, [], i => by
    have : lay l o [] = l := by cases l <;> rfl
    rw [this, if_neg (by simp; omega)]
  | [], o, _ :: _, i => by simp [lay]
  | v :: l, 0, x :: xs, i => by
    cases i with
    | zero => simp [lay]
    | succ i =>
      have := lay_get l 0 xs i
      simp only [lay, List.getElem?_cons_succ, this, Nat.zero_le, true_and, List.length_cons, Nat.sub_zero]
      by_cases h : i < 0 + xs.length ∧ i < l.length
      · rw [if_pos h, if_pos (by omega)]
      · rw [if_neg h, if_neg (by omega)]
  | v :: l, o + 1, x :: xs, i => by
    cases i with
    | zero => simp [lay]
    | succ i =>
      have := lay_get l o (x :: xs) i
      simp only [lay, List.getElem?_cons_succ, this, List.length_cons, Nat.add_sub_add_right]
      by_cases h : o ≤ i ∧ i < o + (xs.length + 1) ∧ i < l.length
      · rw [if_pos h, if_pos (by omega)]
      · rw [if_neg h, if_neg (by omega)]

def TAgg (P : Program) (T : TypeId) (sz : Nat) : Prop := (∀ w, (isAgg T).run P w = .ok true w) ∧ (∀ w, (sizeOf T).run P w = .ok sz w)
def TOne (P : Program) (T : TypeId) : Prop := (∀ w, (isAgg T).run P w = .ok false w) ∧ (∀ w, (sizeOf T).run P w = .ok 1 w)
def TZero (P : Program) (T : TypeId) (z : Value) : Prop := ∀ w, (zeroValue T).run P w = .ok z w

theorem add_addr (b o i : Nat) : ((⟨b, o, none⟩ : Addr).add i) = ⟨b, o + i, none⟩ := by simp [Addr.add]
section runs
variable {P : Program} {w : World}

theorem run_box (T : TypeId) (v : Value) : (Instr.box T v).run P w = .ok (.pointer (some ⟨w.heap.size, 0, none⟩)) (w.alloc (.cells v.cells T)) := by
  simp [Instr.box, newVar, newRow]
theorem run_allocZ {T : TypeId} {z : Value} (hz : TZero P T z) : (Instr.alloc T true (.tuple #[])).run P w = .ok (.pointer (some ⟨w.heap.size, 0, none⟩)) (w.alloc (.cells z.cells T)) := by
  simp [Instr.alloc, hz w, newVar, newRow]
theorem cell_of_blk {b : Nat} {cs : List Value} {T : TypeId} {fz : Nat × Nat} (h : w.heap[b]? = some (.cells cs.toArray T fz)) (i : Nat) : w.cell? ⟨b, i, none⟩ = cs[i]? := by
  simp [World.cell?, h]
theorem frozen_of_blk {b : Nat} {cs : List Value} {T : TypeId} (h : w.heap[b]? = some (.cells cs.toArray T (0, 0))) (i : Nat) : w.frozen? ⟨b, i, none⟩ = false := by
  simp [World.frozen?, h]
theorem run_loadAgg {T T' : TypeId} {sz b o : Nat} {cs l : List Value} {fz : Nat × Nat} (ty : TAgg P T sz) (h : w.heap[b]? = some (.cells cs.toArray T' fz)) (hl : piece cs o sz = l) (hsz : Nat.ble (o + sz) cs.length = true) :
    (Instr.loadAt T (.pointer (some ⟨b, o, none⟩))).run P w = .ok (.agg l.toArray) w := by
  have hsz' : o + sz ≤ cs.length := Nat.le_of_ble_eq_true hsz
  have hlen : l.length = sz := by rw [← hl, piece_eq]; simp; omega
  have := run_loadCells_list (P := P) w ⟨b, o, none⟩ l (fun j v hj => by
    rw [add_addr, cell_of_blk h, ← hj, ← hl, piece_eq]
    have : j < sz := by rw [← hlen]; exact (List.getElem?_eq_some_iff.1 hj).1
    simp [this])
  rw [hlen] at this
  simp [Instr.loadAt, Instr.sureAddr, loadVar, ty.1 w, ty.2 w, this]
theorem run_loadOne {T T' : TypeId} {b o : Nat} {cs : List Value} {v : Value} {fz : Nat × Nat} (ty : TOne P T) (h : w.heap[b]? = some (.cells cs.toArray T' fz)) (hv : cs[o]? = some v) :
    (Instr.loadAt T (.pointer (some ⟨b, o, none⟩))).run P w = .ok v w := by
  simp [Instr.loadAt, Instr.sureAddr, loadVar, ty.1 w, cell_of_blk h, hv]

theorem heap_setCell_self {b i : Nat} {v : Value} {cs : List Value} {T : TypeId} (h : w.heap[b]? = some (.cells cs.toArray T (0, 0))) :
    (w.setCell ⟨b, i, none⟩ v).heap[b]? = some (.cells (cs.set i v).toArray T (0, 0)) := by
  have hlt := lt_of_blk h
  have h' : w.heap[b] = .cells cs.toArray T (0, 0) := by simpa [Array.getElem?_eq_getElem hlt] using h
  show (w.heap.modify b _)[b]? = _
  rw [Array.getElem?_eq_getElem (by simpa using hlt), Array.getElem_modify_self, h']
  simp

/-- Storing a row of cells, one by one. -/
theorem run_storeCells {T : TypeId} {b o : Nat} : ∀ (vs : List Value) (i : Nat) (w : World) (cs : List Value), (∀ v ∈ vs, v.oneCell' = true) → w.heap[b]? = some (.cells cs.toArray T (0, 0)) → o + i + vs.length ≤ cs.length →
    ∃ w', (storeCells ⟨b, o, none⟩ vs i).run P w = .ok () w' ∧ w'.heap[b]? = some (.cells (lay cs (o + i) vs).toArray T (0, 0)) ∧ w'.heap.size = w.heap.size ∧ w'.os = w.os ∧ w'.tape = w.tape ∧ w'.output = w.output ∧ ∀ j, j ≠ b → w'.heap[j]? = w.heap[j]?
  | [], i, w, cs, _, h, _ => ⟨w, by simp [storeCells], by have : lay cs (o + i) [] = cs := by cases cs <;> rfl
                                                          rw [this]; exact h, rfl, rfl, rfl, rfl, fun _ _ => rfl⟩
  | v :: vs, i, w, cs, hone, h, hlen => by
    have hi : o + i < cs.length := by simp only [List.length_cons] at hlen; omega
    have hc : w.cell? ⟨b, o + i, none⟩ = some cs[o + i] := by rw [cell_of_blk h]; simp [hi]
    have hst := run_store P w ⟨b, o + i, none⟩ v .plain (hone v (by simp))
    rw [hc] at hst
    simp only [frozen_of_blk h, Bool.false_eq_true, if_false] at hst
    have h2 := heap_setCell_self (i := o + i) (v := v) h
    have hlen2 : o + (i + 1) + vs.length ≤ (cs.set (o + i) v).length := by rw [List.length_set]; simp only [List.length_cons] at hlen; omega
    obtain ⟨w', e, hb, hs, h4, h5, h6, h7⟩ := run_storeCells vs (i + 1) (w.setCell ⟨b, o + i, none⟩ v) (cs.set (o + i) v) (fun u hu => hone u (by simp [hu])) h2 hlen2
    refine ⟨w', ?_, ?_, ?_, h4, h5, h6, ?_⟩
    · show (do store ((⟨b, o, none⟩ : Addr).add i) v; storeCells ⟨b, o, none⟩ vs (i + 1) : Sem Unit).run P w = _
      rw [add_addr, Sem.run_bind, hst]
      exact e
    · rw [hb]
      congr 2
      apply congrArg List.toArray
      apply List.ext_getElem?
      intro j
      rw [lay_get, lay_get]
      simp only [List.length_cons, List.length_set]
      by_cases h1 : o + (i + 1) ≤ j ∧ j < o + (i + 1) + vs.length ∧ j < cs.length
      · rw [if_pos h1, if_pos (by omega), show j - (o + i) = (j - (o + (i + 1))) + 1 by omega]; simp
      · rw [if_neg h1]
        by_cases h3 : j = o + i
        · subst h3; rw [if_pos (by omega)]; simp [hi]
        · rw [if_neg (by omega), List.getElem?_set_ne (by omega)]
    · rw [hs]; simp [World.setCell]
    · intro j hj; rw [h7 j hj]; exact Below.heap_setCell _ _ _ _ (by simpa using hj)

theorem run_storeAgg {T T' : TypeId} {sz b o : Nat} {cs l : List Value} (ty : TAgg P T sz) (h : w.heap[b]? = some (.cells cs.toArray T' (0, 0))) (hlen : l.length = sz) (hone : ∀ v ∈ l, v.oneCell' = true) (hsz : Nat.ble (o + sz) cs.length = true) :
    ∃ w', (Instr.storeAt T (.pointer (some ⟨b, o, none⟩)) (.agg l.toArray)).run P w = .ok () w' ∧ w'.heap[b]? = some (.cells (lay cs o l).toArray T' (0, 0)) ∧ w'.heap.size = w.heap.size ∧ w'.os = w.os ∧ w'.tape = w.tape ∧ w'.output = w.output ∧ ∀ j, j ≠ b → w'.heap[j]? = w.heap[j]? := by
  have hsz' : o + sz ≤ cs.length := Nat.le_of_ble_eq_true hsz
  obtain ⟨w', e, hb, rest⟩ := run_storeCells (P := P) (o := o) l 0 w cs hone h (by omega)
  refine ⟨w', ?_, hb, rest⟩
  simp [Instr.storeAt, Instr.sureAddr, storeVar, ty.2 w, Value.cells, hlen, e]
theorem run_storeOne {T T' : TypeId} {b o : Nat} {cs : List Value} {v : Value} (ty : TOne P T) (h : w.heap[b]? = some (.cells cs.toArray T' (0, 0))) (hone : v.oneCell' = true) (hsz : Nat.blt o cs.length = true) :
    ∃ w', (Instr.storeAt T (.pointer (some ⟨b, o, none⟩)) v).run P w = .ok () w' ∧ w'.heap[b]? = some (.cells (lay cs o [v]).toArray T' (0, 0)) ∧ w'.heap.size = w.heap.size ∧ w'.os = w.os ∧ w'.tape = w.tape ∧ w'.output = w.output ∧ ∀ j, j ≠ b → w'.heap[j]? = w.heap[j]? := by
  have hsz' : o < cs.length := by rw [nat_blt] at hsz; simpa using hsz
  obtain ⟨w', e, hb, rest⟩ := run_storeCells (P := P) (o := o) [v] 0 w cs (by simpa using hone) h (by simp; omega)
  refine ⟨w', ?_, hb, rest⟩
  have hc : v.cells = #[v] := by cases v <;> first | rfl | simp [Value.oneCell'] at hone
  simp [Instr.storeAt, Instr.sureAddr, storeVar, ty.2 w, hc, e]
end runs
end Go.Proofs.Ytmbcolbbekbccaa
