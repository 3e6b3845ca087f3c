/- A region that draws its order, walked in the order of the text, where every operation that works on the world only adds new blocks to it. Conditions: as each theorem says. -/
import Derived.StillTail
import Derived.Below
import Derived.KernelRfl
namespace Go.Proofs.YtdomaggikbmooaaDoor
open Go Go.RowKit

/-- What is known of an operation ahead of the walk: nothing (it is reckoned); its very value; or a relation that lasts. -/
abbrev Kinds := Nat → Option (Sum Value (Value → World → Prop))

/-- w' is w with new blocks. -/
def Ext (w w' : World) : Prop := Below w.heap.size w w'
theorem Ext.refl (w : World) : Ext w w := Below.refl _ _
theorem Ext.trans {a b c : World} (h : Ext a b) (k : Ext b c) : Ext a c := Below.trans h (Below.mono k h.size)

def factAt (Φ : Kinds) (vs : Nat → Value) (w : World) (j : Nat) : Prop :=
  match Φ j with
  | some (.inr φ) => φ (vs j) w
  | _ => True
def factsL (Φ : Kinds) (vs : Nat → Value) (w : World) : List Nat → Prop
  | [] => True
  | j :: l => factAt Φ vs w j ∧ factsL Φ vs w l
theorem factsL_iff {Φ : Kinds} {vs : Nat → Value} {w : World} {l : List Nat} : factsL Φ vs w l ↔ ∀ j ∈ l, factAt Φ vs w j := by
  induction l with
  | nil => simp [factsL]
  | cons j l ih => simp [factsL, ih]
def depsOf (o : Oper) : List Nat := (o.after.toList.filter (Region.binds .any)).map (·.on)
theorem mem_depsOf {o : Oper} {j : Nat} : j ∈ depsOf o ↔ ∃ e ∈ o.after, Region.binds .any e = true ∧ e.on = j := by
  simp only [depsOf, List.mem_map, List.mem_filter, Array.mem_toList_iff]
  constructor
  · rintro ⟨e, ⟨h1, h2⟩, h3⟩; exact ⟨e, h1, h2, h3⟩
  · rintro ⟨e, h1, h2, h3⟩; exact ⟨e, ⟨h1, h2⟩, h3⟩

/-- What must be done ahead of all of the list, among the operations below the number. -/
def anc (ops : Array Oper) : Nat → List Nat → List Nat
  | 0, l => l
  | i + 1, l => anc ops i (bif l.contains i then (match ops[i]? with
    | some o => depsOf o ++ l
    | none => l) else l)
def floats (ops : Array Oper) (n k : Nat) : Bool :=
  match ops[n]? with
  | some o => !(anc ops n (depsOf o)).contains k
  | none => false
theorem anc_all {ops : Array Oper} {p : Nat → Prop} {N : Nat} (hp : ∀ i o, i < N → p i → ops[i]? = some o → ∀ j ∈ depsOf o, p j) : ∀ (i : Nat) (l : List Nat), i ≤ N → (∀ j ∈ l, p j) → ∀ j ∈ anc ops i l, p j
  | 0, _, _, h => h
  | i + 1, l, hi', h => by
    rw [anc]
    refine anc_all hp i _ (by omega) ?_
    cases hc : l.contains i with
    | false => simpa using h
    | true =>
      have hi : p i := h i (by simpa using hc)
      cases ho : ops[i]? with
      | none => simpa using h
      | some o =>
        intro j hj
        simp only [cond_true, List.mem_append] at hj
        rcases hj with hj | hj
        · exact hp i o (by omega) hi ho j hj
        · exact h j hj

/-- What an operation leaves: a value and a world. -/
def outcome (P : Program) (R : Value → World → Prop) : Result Next → Prop
  | .ok (.value v) w' => R v w'
  | .ok .skip w' => R undef w'
  | .ok (.enter f args) w' => Calls P f args w' fun e w'' => match e with
    | .returned v => R v w''
    | _ => False
  | .ok (.row row args) w' => Rows P row args w' R
  | _ => False
section
variable (P : Program) (R : Value → World → Prop) (w : World)
@[go_sem] theorem outcome_value (v : Value) : outcome P R (.ok (.value v) w) = R v w := rfl
@[go_sem] theorem outcome_skip : outcome P R (.ok .skip w) = R undef w := rfl
@[go_sem] theorem outcome_enter (f : FuncId) (args : Array Value) : outcome P R (.ok (.enter f args) w) = Calls P f args w fun e w'' => match e with
    | .returned v => R v w''
    | _ => False := rfl
@[go_sem] theorem outcome_row (row : String) (args : Array Value) : outcome P R (.ok (.row row args) w) = Rows P row args w R := rfl
end
theorem outcome_wp {P : Program} {R : Value → World → Prop} {o : Oper} {a : Act} {w : World} {K : Act → World → Prop} {Q : Exit → Act → World → Prop}
    (h : outcome P R ((execOp a.eval o).run P w)) (hK : ∀ v w', R v w' → K (a.put o.dst v) w') : o.wp P a w K Q := by
  unfold Oper.wp
  generalize (execOp a.eval o).run P w = r at *
  cases r with
  | ok x w' =>
    cases x <;> simp only [outcome] at h <;> simp only [Oper.upon] <;>
      first
        | exact hK _ _ h
        | exact Calls.mono h (fun e w'' he => by cases e <;> first | exact hK _ _ he | exact he.elim)
        | exact Rows.mono h (fun _ _ he => hK _ _ he)
  | halt x w' => simp only [outcome] at h

section
variable (P : Program) (ops : Array Oper) (n : Nat) (Φ : Kinds) (w0 : World)

/-- The mark of a region whose tail stores into new blocks alone. -/
def xm : Nat := 1000000007
def pureOK (vs : Nat → Value) (k : Nat) (o : Oper) (a : Act) (c : Value) : Prop :=
  if floats ops n k then
    (Region.wanted o (yielded ops a.tmps) = true ∧ ∀ w, ((Φ xm).isSome = true → Ext w0 w) → (execOp a.eval o).run P w = .ok (.value c) w) ∨
    (Region.wanted o (yielded ops a.tmps) = false ∧ c = undef)
  else
  (Region.wanted o (yielded ops a.tmps) = true ∧ ∀ w, Ext w0 w → factsL Φ vs w (depsOf o) → (execOp a.eval o).run P w = .ok (.value c) w) ∨
  (Region.wanted o (yielded ops a.tmps) = false ∧ c = undef)
/-- A pointer to a block that is there. -/
def Old (w : World) (v : Value) : Prop := ∃ b o, v = .pointer (some ⟨b, o, none⟩) ∧ b < w.heap.size
def isNew (o : Oper) : Bool := match o.op with
  | .alloc _ => true
  | _ => false
def stepOK (vs : Nat → Value) (o : Oper) (a : Act) (φ : Value → World → Prop) : Prop :=
  if Region.wanted o (yielded ops a.tmps) then
    ∀ w, Ext w0 w → factsL Φ vs w (depsOf o) → ∀ R : Value → World → Prop, (∀ v w', Ext w w' → φ v w' → (isNew o = true → ¬ Old w v) → R v w') → outcome P R ((execOp a.eval o).run P w)
  else ∀ w, φ undef w

def wpT (vs : Nat → Value) (Fin : Act → Prop) : Nat → List Oper → Act → Prop
  | _, [], a => Fin a
  | k, o :: rest, a =>
    match Φ k with
    | none => ∃ c, pureOK P ops n Φ w0 vs k o a c ∧ wpT vs Fin (k + 1) rest (a.put o.dst c)
    | some (.inl c) => floats ops n k = false ∧ stepOK P ops Φ w0 vs o a (fun v _ => v = c) ∧ wpT vs Fin (k + 1) rest (a.put o.dst c)
    | some (.inr φ) => floats ops n k = false ∧ (∀ v w w', φ v w → Ext w w' → φ v w') ∧ (isNew o = true → ∀ v w, φ v w → Old w v) ∧ stepOK P ops Φ w0 vs o a φ ∧ wpT vs Fin (k + 1) rest (a.put o.dst (vs k))
end

/-- The structure that the theorem asks of the region, as a Bool. -/
def extB (ops : Array Oper) (n : Nat) : Bool :=
  Region.noSelect ops && decide (n ≤ ops.size) &&
  ((List.range n).all fun i => match ops[i]? with
    | none => false
    | some oi =>
      (depsOf oi).all (fun j => decide (j < i)) &&
      ((List.range n).all fun j => match (ops[j]?).bind (·.dst) with
        | none => true
        | some d => (j == i || ((ops[i]?).bind (·.dst)) != some d) && (!(oi.looksAt ops).contains d || (depsOf oi).contains j))) &&
  ((List.range (ops.size - n)).all fun t => match ops[n + t]? with
    | none => false
    | some o => t == 0 || (depsOf o).contains (n + t - 1)) &&
  ((List.range n).all fun i => !floats ops n i || Region.free .any ops ((Array.range ops.size).map fun j => decide (j < n) && (!floats ops n j || decide (j < i))) i) &&
  Region.seqB .any ops (ops.size - n) n ((Array.range ops.size).map fun j => decide (j < n))

section
variable {P : Program} {ops : Array Oper} {n : Nat} {Φ : Kinds} {w0 : World}

structure ExtS (ops : Array Oper) (n : Nat) : Prop where
  sel : Region.noSelect ops = true
  le : n ≤ ops.size
  deps : ∀ i oi, i < n → ops[i]? = some oi → ∀ j ∈ depsOf oi, j < i
  dst : ∀ i j oi oj d, i < n → j < n → ops[i]? = some oi → ops[j]? = some oj → oj.dst = some d → j ≠ i → oi.dst ≠ some d
  look : ∀ i j oi oj d, i < n → j < n → ops[i]? = some oi → ops[j]? = some oj → oj.dst = some d → d ∈ oi.looksAt ops → j ∈ depsOf oi
  chain : ∀ t o, n < t → ops[t]? = some o → t - 1 ∈ depsOf o
  free : ∀ i, i < n → floats ops n i = true → Region.free .any ops ((Array.range ops.size).map fun j => decide (j < n) && (!floats ops n j || decide (j < i))) i = true
  seq : Region.seqB .any ops (ops.size - n) n ((Array.range ops.size).map fun j => decide (j < n)) = true

theorem extS_of {ops : Array Oper} {n : Nat} (h : extB ops n = true) : ExtS ops n := by
  unfold extB at h
  simp only [Bool.and_eq_true, decide_eq_true_eq, List.all_eq_true, List.mem_range] at h
  obtain ⟨⟨⟨⟨⟨h1, h2⟩, h3⟩, h4⟩, h5⟩, h6⟩ := h
  refine ⟨h1, h2, ?_, ?_, ?_, ?_, ?_, h6⟩
  · intro i oi hi hoi j hj
    have := h3 i hi
    simp only [hoi, Bool.and_eq_true, List.all_eq_true, decide_eq_true_eq] at this
    exact this.1 j hj
  · intro i j oi oj d hi hj hoi hoj hd hne
    have := h3 i hi
    simp only [hoi, Bool.and_eq_true, List.all_eq_true, decide_eq_true_eq, List.mem_range] at this
    have := this.2 j hj
    simp only [hoj, Option.bind_some, hd, Bool.and_eq_true, Bool.or_eq_true, beq_iff_eq, hne, false_or, bne_iff_ne] at this
    exact this.1
  · intro i j oi oj d hi hj hoi hoj hd hm
    have := h3 i hi
    simp only [hoi, Bool.and_eq_true, List.all_eq_true, decide_eq_true_eq, List.mem_range] at this
    have := this.2 j hj
    simp only [hoj, Option.bind_some, hd, Bool.and_eq_true, Bool.or_eq_true, Bool.not_eq_true', List.contains_eq_mem, decide_eq_false_iff_not, decide_eq_true_eq, hm, not_true_eq_false, false_or] at this
    exact this.2
  · intro t o ht ho
    have hlt : t < ops.size := (Array.getElem?_eq_some_iff.1 ho).1
    have := h4 (t - n) (by omega)
    rw [show n + (t - n) = t by omega] at this
    simp only [ho, Bool.or_eq_true, beq_iff_eq, List.contains_eq_mem, decide_eq_true_eq] at this
    rcases this with h | h
    · omega
    · exact h
  · intro i hi hf
    have := h5 i hi
    simpa [hf] using this

/-- The value that stands in a slot, if there is such a slot. -/
theorem put_look (a : Act) (d : Option Tmp) (v : Value) (t : Nat) :
    (a.put d v).tmps[t]? = if d = some t then (a.tmps[t]?).map (fun _ => v) else a.tmps[t]? := by
  cases d with
  | none => simp [Act.put]
  | some d =>
    simp only [Act.put, Option.some.injEq]
    by_cases h : d = t
    · subst h
      simp only [if_true]
      by_cases h2 : d < a.tmps.size
      · simp [h2]
      · simp [Array.getElem?_eq_none (Nat.le_of_not_lt h2), Array.getElem?_eq_none (xs := a.tmps.setIfInBounds d v) (by simpa using h2)]
    · rw [if_neg h, Array.getElem?_setIfInBounds_ne h]

/-- Frame a is frame a0 with the values C in the slots of the operations that are listed. -/
structure Holds (ops : Array Oper) (n : Nat) (a0 a : Act) (C : Nat → Value) (L : Nat → Prop) : Prop where
  defers : a.defers = a0.defers
  other : ∀ t, (∀ j oj, j < n → L j → ops[j]? = some oj → oj.dst ≠ some t) → a.tmps[t]? = a0.tmps[t]?
  at_ : ∀ j oj t, j < n → L j → ops[j]? = some oj → oj.dst = some t → a.tmps[t]? = (a0.tmps[t]?).map (fun _ => C j)

theorem Holds.put {a0 a : Act} {C : Nat → Value} {L : Nat → Prop} (S : ExtS ops n) (h : Holds ops n a0 a C L) {i : Nat} {oi : Oper} (hi : i < n) (hoi : ops[i]? = some oi) (hL : ¬ L i) :
    Holds ops n a0 (a.put oi.dst (C i)) C (fun j => L j ∨ j = i) := by
  refine ⟨?_, ?_, ?_⟩
  · rw [← h.defers]; cases oi.dst <;> rfl
  · intro t ht
    rw [put_look, if_neg (ht i oi hi (.inr rfl) hoi)]
    exact h.other t fun j oj hj hl => ht j oj hj (.inl hl)
  · intro j oj t hj hl hoj hd
    rw [put_look]
    rcases hl with hl | rfl
    · have hne : i ≠ j := fun e => hL (e ▸ hl)
      rw [if_neg (S.dst i j oi oj t hi hj hoi hoj hd (Ne.symm hne))]
      exact h.at_ j oj t hj hl hoj hd
    · have : oi = oj := Option.some.inj (hoi.symm.trans hoj)
      subst this
      rw [if_pos hd]
      rw [h.other t fun k ok hk hlk hok hdk => S.dst k j ok oi t hk hj hok hoj hd (fun e => hL (e ▸ hlk)) hdk]

theorem Holds.congrC {a0 a : Act} {C C' : Nat → Value} {L : Nat → Prop} (h : Holds ops n a0 a C L) (hc : ∀ j, j < n → L j → C j = C' j) : Holds ops n a0 a C' L :=
  ⟨h.defers, h.other, fun j oj t hj hl hoj hd => by rw [h.at_ j oj t hj hl hoj hd, hc j hj hl]⟩

theorem Holds.congrL {a0 a : Act} {C : Nat → Value} {L L' : Nat → Prop} (h : Holds ops n a0 a C L) (hc : ∀ j, j < n → (L j ↔ L' j)) : Holds ops n a0 a C L' :=
  ⟨h.defers, fun t ht => h.other t fun j oj hj hl => ht j oj hj ((hc j hj).1 hl), fun j oj t hj hl => h.at_ j oj t hj ((hc j hj).2 hl)⟩

theorem Holds.eq {a0 a b : Act} {C : Nat → Value} {L : Nat → Prop} (h : Holds ops n a0 a C L) (k : Holds ops n a0 b C L) : a = b := by
  have ht : a.tmps = b.tmps := by
    apply Array.ext_getElem?
    intro t
    by_cases hx : ∃ j oj, j < n ∧ L j ∧ ops[j]? = some oj ∧ oj.dst = some t
    · obtain ⟨j, oj, hj, hl, hoj, hd⟩ := hx
      rw [h.at_ j oj t hj hl hoj hd, k.at_ j oj t hj hl hoj hd]
    · rw [h.other t fun j oj hj hl hoj hd => hx ⟨j, oj, hj, hl, hoj, hd⟩, k.other t fun j oj hj hl hoj hd => hx ⟨j, oj, hj, hl, hoj, hd⟩]
  have hd : a.defers = b.defers := h.defers.trans k.defers.symm
  cases a; cases b; simp_all

/-- Two frames in which all that an operation looks at is the same. -/
theorem Holds.same {a0 a b : Act} {C : Nat → Value} {L M : Nat → Prop} (S : ExtS ops n) (h : Holds ops n a0 a C L) (k : Holds ops n a0 b C M) {i : Nat} {oi : Oper} (hi : i < n) (hoi : ops[i]? = some oi)
    (hL : ∀ j ∈ depsOf oi, L j) (hM : ∀ j ∈ depsOf oi, M j) : ∀ t ∈ oi.looksAt ops, a.tmps[t]? = b.tmps[t]? := by
  intro t ht
  by_cases hx : ∃ j oj, j < n ∧ ops[j]? = some oj ∧ oj.dst = some t
  · obtain ⟨j, oj, hj, hoj, hd⟩ := hx
    have := S.look i j oi oj t hi hj hoi hoj hd ht
    rw [h.at_ j oj t hj (hL j this) hoj hd, k.at_ j oj t hj (hM j this) hoj hd]
  · rw [h.other t fun j oj hj _ hoj hd => hx ⟨j, oj, hj, hoj, hd⟩, k.other t fun j oj hj _ hoj hd => hx ⟨j, oj, hj, hoj, hd⟩]

theorem same_exec {a b : Act} {o : Oper} (hs : ∀ cs c, o.op ≠ .select cs c) (h : ∀ t ∈ o.looksAt ops, a.tmps[t]? = b.tmps[t]?) :
    execOp a.eval o = execOp b.eval o ∧ Region.wanted o (yielded ops a.tmps) = Region.wanted o (yielded ops b.tmps) := by
  refine ⟨execOp_congr o hs fun x hx => ?_, ?_⟩
  · cases x with
    | tmp t =>
      have := h t (List.mem_append_left _ (List.mem_filterMap.2 ⟨.tmp t, by simpa using hx, rfl⟩))
      simp only [Act.eval, Array.getD_eq_getD_getElem?, this]
    | _ => rfl
  · unfold Region.wanted
    cases hg : o.guard with
    | none => rfl
    | some gw =>
      obtain ⟨g, want⟩ := gw
      have hy : yielded ops a.tmps g = yielded ops b.tmps g := by
        unfold yielded
        cases ht : (ops[g]?).bind (·.dst) with
        | none => rfl
        | some t =>
          have := h t (by simp [Oper.looksAt, hg, ht])
          simp only [Option.bind_some, this]
      simp only [hy]
end

end Go.Proofs.YtdomaggikbmooaaDoor
