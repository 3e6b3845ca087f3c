/- A region that draws its order, walked in the order of the text, where every operation that works on the world only adds new blocks to it. A region that draws its order, walked in the order of the text: the theorem. The steps of a walk through a region that draws its order, in the order of the text. Conditions: as each theorem says. -/
import Derived.StillTail
import Derived.Below
import Derived.KernelRfl
namespace Go.Proofs.Ytmbcolbbekbccaa
section
open Go Go.RowKit

/-- A value, and of which new blocks it is made, as far as that is told. -/
structure Gv where
  v : Value
  f : Nat → Bool
instance : CoeOut Gv Value := ⟨Gv.v⟩
/-- What is known of an operation ahead of the walk: nothing (it is reckoned); its very value; or a relation that lasts. -/
abbrev Kinds := Nat → Option (Sum Value (Gv → World → Prop))

/-- w' is w with new blocks. -/
def Ext (w w' : World) : Prop := Below w.heap.size w w'
theorem Ext.refl (w : World) : Ext w w := Below.refl _ _
theorem Ext.trans {a b c : World} (h : Ext a b) (k : Ext b c) : Ext a c := Below.trans h (Below.mono k h.size)

def factAt (Φ : Kinds) (vs : Nat → Gv) (w : World) (j : Nat) : Prop :=
  match Φ j with
  | some (.inr φ) => φ (vs j) w
  | _ => True
def factsL (Φ : Kinds) (vs : Nat → Gv) (w : World) : List Nat → Prop
  | [] => True
  | j :: l => factAt Φ vs w j ∧ factsL Φ vs w l
theorem factsL_iff {Φ : Kinds} {vs : Nat → Gv} {w : World} {l : List Nat} : factsL Φ vs w l ↔ ∀ j ∈ l, factAt Φ vs w j := by
  induction l with
  | nil => simp [factsL]
  | cons j l ih => simp [factsL, ih]
def depsOf (o : Oper) : List Nat := (o.after.toList.filter (Region.binds .any)).map (·.on)
theorem mem_depsOf {o : Oper} {j : Nat} : j ∈ depsOf o ↔ ∃ e ∈ o.after, Region.binds .any e = true ∧ e.on = j := by
  simp only [depsOf, List.mem_map, List.mem_filter, Array.mem_toList_iff]
  constructor
  · rintro ⟨e, ⟨h1, h2⟩, h3⟩; exact ⟨e, h1, h2, h3⟩
  · rintro ⟨e, h1, h2, h3⟩; exact ⟨e, ⟨h1, h2⟩, h3⟩

/-- What must be done ahead of all of the list, among the operations below the number. -/
def anc (ops : Array Oper) : Nat → List Nat → List Nat
  | 0, l => l
  | i + 1, l => anc ops i (bif l.contains i then (match ops[i]? with
    | some o => depsOf o ++ l
    | none => l) else l)
def floats (ops : Array Oper) (n k : Nat) : Bool :=
  match ops[n]? with
  | some o => !(anc ops n (depsOf o)).contains k
  | none => false
theorem anc_all {ops : Array Oper} {p : Nat → Prop} {N : Nat} (hp : ∀ i o, i < N → p i → ops[i]? = some o → ∀ j ∈ depsOf o, p j) : ∀ (i : Nat) (l : List Nat), i ≤ N → (∀ j ∈ l, p j) → ∀ j ∈ anc ops i l, p j
  | 0, _, _, h => h
  | i + 1, l, hi', h => by
    rw [anc]
    refine anc_all hp i _ (by omega) ?_
    cases hc : l.contains i with
    | false => simpa using h
    | true =>
      have hi : p i := h i (by simpa using hc)
      cases ho : ops[i]? with
      | none => simpa using h
      | some o =>
        intro j hj
        simp only [cond_true, List.mem_append] at hj
        rcases hj with hj | hj
        · exact hp i o (by omega) hi ho j hj
        · exact h j hj

/-- What an operation leaves: a value and a world. -/
def outcome (P : Program) (R : Value → World → Prop) : Result Next → Prop
  | .ok (.value v) w' => R v w'
  | .ok .skip w' => R undef w'
  | .ok (.enter f args) w' => Calls P f args w' fun e w'' => match e with
    | .returned v => R v w''
    | _ => False
  | .ok (.row row args) w' => Rows P row args w' R
  | _ => False
section
variable (P : Program) (R : Value → World → Prop) (w : World)
@[go_sem] theorem outcome_value (v : Value) : outcome P R (.ok (.value v) w) = R v w := rfl
@[go_sem] theorem outcome_skip : outcome P R (.ok .skip w) = R undef w := rfl
@[go_sem] theorem outcome_enter (f : FuncId) (args : Array Value) : outcome P R (.ok (.enter f args) w) = Calls P f args w fun e w'' => match e with
    | .returned v => R v w''
    | _ => False := rfl
@[go_sem] theorem outcome_row (row : String) (args : Array Value) : outcome P R (.ok (.row row args) w) = Rows P row args w R := rfl
end
theorem outcome_wp {P : Program} {R : Value → World → Prop} {o : Oper} {a : Act} {w : World} {K : Act → World → Prop} {Q : Exit → Act → World → Prop}
    (h : outcome P R ((execOp a.eval o).run P w)) (hK : ∀ v w', R v w' → K (a.put o.dst v) w') : o.wp P a w K Q := by
  unfold Oper.wp
  generalize (execOp a.eval o).run P w = r at *
  cases r with
  | ok x w' =>
    cases x <;> simp only [outcome] at h <;> simp only [Oper.upon] <;>
      first
        | exact hK _ _ h
        | exact Calls.mono h (fun e w'' he => by cases e <;> first | exact hK _ _ he | exact he.elim)
        | exact Rows.mono h (fun _ _ he => hK _ _ he)
  | halt x w' => simp only [outcome] at h

section
variable (P : Program) (ops : Array Oper) (n : Nat) (Φ : Kinds) (w0 : World)

/-- The mark of a region whose tail stores into new blocks alone. -/
def xm : Nat := 1000000007
def pureOK (vs : Nat → Gv) (k : Nat) (o : Oper) (a : Act) (c : Value) : Prop :=
  if floats ops n k then
    (Region.wanted o (yielded ops a.tmps) = true ∧ ∀ w, ((Φ xm).isSome = true → Ext w0 w) → (execOp a.eval o).run P w = .ok (.value c) w) ∨
    (Region.wanted o (yielded ops a.tmps) = false ∧ c = undef)
  else
  (Region.wanted o (yielded ops a.tmps) = true ∧ ∀ w, Ext w0 w → factsL Φ vs w (depsOf o) → (execOp a.eval o).run P w = .ok (.value c) w) ∨
  (Region.wanted o (yielded ops a.tmps) = false ∧ c = undef)
/-- A pointer to a block that is there. -/
def Old (w : World) (v : Value) : Prop := ∃ b o, v = .pointer (some ⟨b, o, none⟩) ∧ b < w.heap.size
def isNew (o : Oper) : Bool := match o.op with
  | .alloc _ => true
  | _ => false
def relK (Φ : Kinds) (k : Nat) : Bool := match Φ k with
  | some (.inr _) => true
  | _ => false
/-- A value is made of new blocks, and of those of what was known of. -/
def made (vs : Nat → Gv) (o : Oper) (w : World) (g : Gv) (w' : World) : Prop := ∀ b, g.f b → b < w'.heap.size ∧ (w.heap.size ≤ b ∨ ∃ k ∈ depsOf o, relK Φ k = true ∧ (vs k).f b)
def stepOK (vs : Nat → Gv) (o : Oper) (a : Act) (φ : Gv → World → Prop) : Prop :=
  if Region.wanted o (yielded ops a.tmps) then
    ∀ w, Ext w0 w → factsL Φ vs w (depsOf o) → ∀ R : Value → World → Prop, (∀ g w', Ext w w' → φ g w' → made Φ vs o w g w' → (isNew o = true → ¬ Old w g.v) → R g.v w') → outcome P R ((execOp a.eval o).run P w)
  else ∀ w, φ ⟨undef, fun _ => false⟩ w

def wpT (vs : Nat → Gv) (Fin : Act → Prop) : Nat → List Oper → Act → Prop
  | _, [], a => Fin a
  | k, o :: rest, a =>
    match Φ k with
    | none => ∃ c, pureOK P ops n Φ w0 vs k o a c ∧ wpT vs Fin (k + 1) rest (a.put o.dst c)
    | some (.inl c) => floats ops n k = false ∧ stepOK P ops Φ w0 vs o a (fun g _ => g.v = c) ∧ wpT vs Fin (k + 1) rest (a.put o.dst c)
    | some (.inr φ) => floats ops n k = false ∧ (∀ v w w', φ v w → Ext w w' → φ v w') ∧ (isNew o = true → ∀ g w, φ g w → Old w g.v ∧ ∀ b, ¬ g.f b) ∧ stepOK P ops Φ w0 vs o a φ ∧ wpT vs Fin (k + 1) rest (a.put o.dst (vs k).v)
end

/-- The structure that the theorem asks of the region, as a Bool. -/
def extB (ops : Array Oper) (n : Nat) : Bool :=
  Region.noSelect ops && decide (n ≤ ops.size) &&
  ((List.range n).all fun i => match ops[i]? with
    | none => false
    | some oi =>
      (depsOf oi).all (fun j => decide (j < i)) &&
      ((List.range n).all fun j => match (ops[j]?).bind (·.dst) with
        | none => true
        | some d => (j == i || ((ops[i]?).bind (·.dst)) != some d) && (!(oi.looksAt ops).contains d || (depsOf oi).contains j))) &&
  ((List.range (ops.size - n)).all fun t => match ops[n + t]? with
    | none => false
    | some o => t == 0 || (depsOf o).contains (n + t - 1)) &&
  ((List.range n).all fun i => !floats ops n i || Region.free .any ops ((Array.range ops.size).map fun j => decide (j < n) && (!floats ops n j || decide (j < i))) i) &&
  Region.seqB .any ops (ops.size - n) n ((Array.range ops.size).map fun j => decide (j < n))

section
variable {P : Program} {ops : Array Oper} {n : Nat} {Φ : Kinds} {w0 : World}

structure ExtS (ops : Array Oper) (n : Nat) : Prop where
  sel : Region.noSelect ops = true
  le : n ≤ ops.size
  deps : ∀ i oi, i < n → ops[i]? = some oi → ∀ j ∈ depsOf oi, j < i
  dst : ∀ i j oi oj d, i < n → j < n → ops[i]? = some oi → ops[j]? = some oj → oj.dst = some d → j ≠ i → oi.dst ≠ some d
  look : ∀ i j oi oj d, i < n → j < n → ops[i]? = some oi → ops[j]? = some oj → oj.dst = some d → d ∈ oi.looksAt ops → j ∈ depsOf oi
  chain : ∀ t o, n < t → ops[t]? = some o → t - 1 ∈ depsOf o
  free : ∀ i, i < n → floats ops n i = true → Region.free .any ops ((Array.range ops.size).map fun j => decide (j < n) && (!floats ops n j || decide (j < i))) i = true
  seq : Region.seqB .any ops (ops.size - n) n ((Array.range ops.size).map fun j => decide (j < n)) = true

theorem extS_of {ops : Array Oper} {n : Nat} (h : extB ops n = true) : ExtS ops n := by
  unfold extB at h
  simp only [Bool.and_eq_true, decide_eq_true_eq, List.all_eq_true, List.mem_range] at h
  obtain ⟨⟨⟨⟨⟨h1, h2⟩, h3⟩, h4⟩, h5⟩, h6⟩ := h
  refine ⟨h1, h2, ?_, ?_, ?_, ?_, ?_, h6⟩
  · intro i oi hi hoi j hj
    have := h3 i hi
    simp only [hoi, Bool.and_eq_true, List.all_eq_true, decide_eq_true_eq] at this
    exact this.1 j hj
  · intro i j oi oj d hi hj hoi hoj hd hne
    have := h3 i hi
    simp only [hoi, Bool.and_eq_true, List.all_eq_true, decide_eq_true_eq, List.mem_range] at this
    have := this.2 j hj
    simp only [hoj, Option.bind_some, hd, Bool.and_eq_true, Bool.or_eq_true, beq_iff_eq, hne, false_or, bne_iff_ne] at this
    exact this.1
  · intro i j oi oj d hi hj hoi hoj hd hm
    have := h3 i hi
    simp only [hoi, Bool.and_eq_true, List.all_eq_true, decide_eq_true_eq, List.mem_range] at this
    have := this.2 j hj
    simp only [hoj, Option.bind_some, hd, Bool.and_eq_true, Bool.or_eq_true, Bool.not_eq_true', List.contains_eq_mem, decide_eq_false_iff_not, decide_eq_true_eq, hm, not_true_eq_false, false_or] at this
    exact this.2
  · intro t o ht ho
    have hlt : t < ops.size := (Array.getElem?_eq_some_iff.1 ho).1
    have := h4 (t - n) (by omega)
    rw [show n + (t - n) = t by omega] at this
    simp only [ho, Bool.or_eq_true, beq_iff_eq, List.contains_eq_mem, decide_eq_true_eq] at this
    rcases this with h | h
    · omega
    · exact h
  · intro i hi hf
    have := h5 i hi
    simpa [hf] using this

/-- The value that stands in a slot, if there is such a slot. -/
theorem put_look (a : Act) (d : Option Tmp) (v : Value) (t : Nat) :
    (a.put d v).tmps[t]? = if d = some t then (a.tmps[t]?).map (fun _ => v) else a.tmps[t]? := by
  cases d with
  | none => simp [Act.put]
  | some d =>
    simp only [Act.put, Option.some.injEq]
    by_cases h : d = t
    · subst h
      simp only [if_true]
      by_cases h2 : d < a.tmps.size
      · simp [h2]
      · simp [Array.getElem?_eq_none (Nat.le_of_not_lt h2), Array.getElem?_eq_none (xs := a.tmps.setIfInBounds d v) (by simpa using h2)]
    · rw [if_neg h, Array.getElem?_setIfInBounds_ne h]

/-- Frame a is frame a0 with the values C in the slots of the operations that are listed. -/
structure Holds (ops : Array Oper) (n : Nat) (a0 a : Act) (C : Nat → Value) (L : Nat → Prop) : Prop where
  defers : a.defers = a0.defers
  other : ∀ t, (∀ j oj, j < n → L j → ops[j]? = some oj → oj.dst ≠ some t) → a.tmps[t]? = a0.tmps[t]?
  at_ : ∀ j oj t, j < n → L j → ops[j]? = some oj → oj.dst = some t → a.tmps[t]? = (a0.tmps[t]?).map (fun _ => C j)

theorem Holds.put {a0 a : Act} {C : Nat → Value} {L : Nat → Prop} (S : ExtS ops n) (h : Holds ops n a0 a C L) {i : Nat} {oi : Oper} (hi : i < n) (hoi : ops[i]? = some oi) (hL : ¬ L i) :
    Holds ops n a0 (a.put oi.dst (C i)) C (fun j => L j ∨ j = i) := by
  refine ⟨?_, ?_, ?_⟩
  · rw [← h.defers]; cases oi.dst <;> rfl
  · intro t ht
    rw [put_look, if_neg (ht i oi hi (.inr rfl) hoi)]
    exact h.other t fun j oj hj hl => ht j oj hj (.inl hl)
  · intro j oj t hj hl hoj hd
    rw [put_look]
    rcases hl with hl | rfl
    · have hne : i ≠ j := fun e => hL (e ▸ hl)
      rw [if_neg (S.dst i j oi oj t hi hj hoi hoj hd (Ne.symm hne))]
      exact h.at_ j oj t hj hl hoj hd
    · have : oi = oj := Option.some.inj (hoi.symm.trans hoj)
      subst this
      rw [if_pos hd]
      rw [h.other t fun k ok hk hlk hok hdk => S.dst k j ok oi t hk hj hok hoj hd (fun e => hL (e ▸ hlk)) hdk]

theorem Holds.congrC {a0 a : Act} {C C' : Nat → Value} {L : Nat → Prop} (h : Holds ops n a0 a C L) (hc : ∀ j, j < n → L j → C j = C' j) : Holds ops n a0 a C' L :=
  ⟨h.defers, h.other, fun j oj t hj hl hoj hd => by rw [h.at_ j oj t hj hl hoj hd, hc j hj hl]⟩

theorem Holds.congrL {a0 a : Act} {C : Nat → Value} {L L' : Nat → Prop} (h : Holds ops n a0 a C L) (hc : ∀ j, j < n → (L j ↔ L' j)) : Holds ops n a0 a C L' :=
  ⟨h.defers, fun t ht => h.other t fun j oj hj hl => ht j oj hj ((hc j hj).1 hl), fun j oj t hj hl => h.at_ j oj t hj ((hc j hj).2 hl)⟩

theorem Holds.eq {a0 a b : Act} {C : Nat → Value} {L : Nat → Prop} (h : Holds ops n a0 a C L) (k : Holds ops n a0 b C L) : a = b := by
  have ht : a.tmps = b.tmps := by
    apply Array.ext_getElem?
    intro t
    by_cases hx : ∃ j oj, j < n ∧ L j ∧ ops[j]? = some oj ∧ oj.dst = some t
    · obtain ⟨j, oj, hj, hl, hoj, hd⟩ := hx
      rw [h.at_ j oj t hj hl hoj hd, k.at_ j oj t hj hl hoj hd]
    · rw [h.other t fun j oj hj hl hoj hd => hx ⟨j, oj, hj, hl, hoj, hd⟩, k.other t fun j oj hj hl hoj hd => hx ⟨j, oj, hj, hl, hoj, hd⟩]
  have hd : a.defers = b.defers := h.defers.trans k.defers.symm
  cases a; cases b; simp_all

/-- Two frames in which all that an operation looks at is the same. -/
theorem Holds.same {a0 a b : Act} {C : Nat → Value} {L M : Nat → Prop} (S : ExtS ops n) (h : Holds ops n a0 a C L) (k : Holds ops n a0 b C M) {i : Nat} {oi : Oper} (hi : i < n) (hoi : ops[i]? = some oi)
    (hL : ∀ j ∈ depsOf oi, L j) (hM : ∀ j ∈ depsOf oi, M j) : ∀ t ∈ oi.looksAt ops, a.tmps[t]? = b.tmps[t]? := by
  intro t ht
  by_cases hx : ∃ j oj, j < n ∧ ops[j]? = some oj ∧ oj.dst = some t
  · obtain ⟨j, oj, hj, hoj, hd⟩ := hx
    have := S.look i j oi oj t hi hj hoi hoj hd ht
    rw [h.at_ j oj t hj (hL j this) hoj hd, k.at_ j oj t hj (hM j this) hoj hd]
  · rw [h.other t fun j oj hj _ hoj hd => hx ⟨j, oj, hj, hoj, hd⟩, k.other t fun j oj hj _ hoj hd => hx ⟨j, oj, hj, hoj, hd⟩]

theorem same_exec {a b : Act} {o : Oper} (hs : ∀ cs c, o.op ≠ .select cs c) (h : ∀ t ∈ o.looksAt ops, a.tmps[t]? = b.tmps[t]?) :
    execOp a.eval o = execOp b.eval o ∧ Region.wanted o (yielded ops a.tmps) = Region.wanted o (yielded ops b.tmps) := by
  refine ⟨execOp_congr o hs fun x hx => ?_, ?_⟩
  · cases x with
    | tmp t =>
      have := h t (List.mem_append_left _ (List.mem_filterMap.2 ⟨.tmp t, by simpa using hx, rfl⟩))
      simp only [Act.eval, Array.getD_eq_getD_getElem?, this]
    | _ => rfl
  · unfold Region.wanted
    cases hg : o.guard with
    | none => rfl
    | some gw =>
      obtain ⟨g, want⟩ := gw
      have hy : yielded ops a.tmps g = yielded ops b.tmps g := by
        unfold yielded
        cases ht : (ops[g]?).bind (·.dst) with
        | none => rfl
        | some t =>
          have := h t (by simp [Oper.looksAt, hg, ht])
          simp only [Option.bind_some, this]
      simp only [hy]
end
end
section
open Go Go.RowKit

def OnlyNormal (Q : Exit → Act → World → Prop) : Exit → Act → World → Prop
  | .normal, a, w => Q .normal a w
  | _, _, _ => False
theorem OnlyNormal.imp {Q : Exit → Act → World → Prop} : ∀ (e : Exit) (a : Act) (w : World), OnlyNormal Q e a w → Q e a w := fun e a w h => by
  cases e <;> first | exact h | exact (h : False).elim

theorem countP_flip (p q : Nat → Bool) (i : Nat) (hp : p i = true) (hq : q i = false) (h : ∀ j, j ≠ i → p j = q j) :
    ∀ l : List Nat, l.Nodup → i ∈ l → l.countP p = l.countP q + 1
  | [], _, hi => by cases hi
  | x :: l, hnd, hi => by
    have hnd' := List.nodup_cons.1 hnd
    by_cases hx : x = i
    · subst hx
      have : l.countP p = l.countP q := List.countP_congr fun j hj => by
        have hne : j ≠ x := fun e => hnd'.1 (e ▸ hj)
        rw [h j hne]
      rw [List.countP_cons, List.countP_cons, hp, hq, this]
      simp
    · have hi' : i ∈ l := (List.mem_cons.1 hi).resolve_left (fun e => hx e.symm)
      rw [List.countP_cons, List.countP_cons, countP_flip p q i hp hq h l hnd'.2 hi', h x hx]
      omega

section
variable {P : Program} {ops : Array Oper} {n : Nat} {Φ : Kinds} {w0 : World}

def okAt (P : Program) (ops : Array Oper) (n : Nat) (Φ : Kinds) (w0 : World) (vs : Nat → Gv) (k : Nat) (o : Oper) (a : Act) (c : Value) : Prop :=
  match Φ k with
  | none => pureOK P ops n Φ w0 vs k o a c
  | some (.inl x) => c = x ∧ floats ops n k = false ∧ stepOK P ops Φ w0 vs o a (fun g _ => g.v = x)
  | some (.inr φ) => c = (vs k).v ∧ floats ops n k = false ∧ (∀ v w w', φ v w → Ext w w' → φ v w') ∧ (isNew o = true → ∀ g w, φ g w → Old w g.v ∧ ∀ b, ¬ g.f b) ∧ stepOK P ops Φ w0 vs o a φ
/-- An operation that lays a new block, of which a relation is known. -/
def frK (ops : Array Oper) (Φ : Kinds) (k : Nat) : Bool := match ops[k]?, Φ k with
  | some o, some (.inr _) => isNew o
  | _, _ => false
/-- New blocks are apart, and no part of what is made of others. -/
def ApP (ops : Array Oper) (Φ : Kinds) (vs : Nat → Gv) (i j : Nat) : Prop :=
  (frK ops Φ i = true → frK ops Φ j = true → (vs i).v ≠ (vs j).v) ∧ (relK Φ i = true → frK ops Φ j = true → ∀ b o, (vs j).v = .pointer (some ⟨b, o, none⟩) → ¬ (vs i).f b)
def Apart (ops : Array Oper) (n : Nat) (Φ : Kinds) (vs : Nat → Gv) : Prop := ∀ i j, i < n → j < n → i ≠ j → ApP ops Φ vs i j
theorem frK_rel {ops : Array Oper} {Φ : Kinds} {i : Nat} (h : relK Φ i = false) : frK ops Φ i = false := by
  unfold frK
  unfold relK at h
  split
  · rename_i h2; rw [h2] at h; cases h
  · rfl
theorem ApP.no_l {ops : Array Oper} {Φ : Kinds} {vs : Nat → Gv} {i j : Nat} (h : relK Φ i = false) : ApP ops Φ vs i j := ⟨fun h2 => absurd h2 (by rw [frK_rel h]; simp), fun h2 => absurd h2 (by rw [h]; simp)⟩
theorem ApP.no_r {ops : Array Oper} {Φ : Kinds} {vs : Nat → Gv} {i j : Nat} (h : relK Φ j = false) : ApP ops Φ vs i j := ⟨fun _ h2 => absurd h2 (by rw [frK_rel h]; simp), fun _ h2 => absurd h2 (by rw [frK_rel h]; simp)⟩
theorem relK_none {Φ : Kinds} {i : Nat} (h : ∀ φ, Φ i ≠ some (.inr φ)) : relK Φ i = false := by
  unfold relK
  split
  · rename_i h2; exact absurd h2 (h _)
  · rfl

theorem wpT_run {vs : Nat → Gv} {Fin : Act → Prop} : ∀ (l : List Oper) (k : Nat) (a : Act), (∀ j o, l[j]? = some o → ops[k + j]? = some o) → wpT P ops n Φ w0 vs Fin k l a →
    ∃ (C : Nat → Value) (T : Nat → Act), T k = a ∧ (∀ i, k ≤ i → i < k + l.length → ∃ o, ops[i]? = some o ∧ T (i + 1) = (T i).put o.dst (C i) ∧ okAt P ops n Φ w0 vs i o (T i) (C i)) ∧ Fin (T (k + l.length))
  | [], k, a, _, h => ⟨fun _ => undef, fun _ => a, rfl, fun i h1 h2 => by simp at h2; omega, h⟩
  | o :: l, k, a, hl, h => by
    have h0 : ops[k]? = some o := hl 0 o rfl
    have hl' : ∀ j o', l[j]? = some o' → ops[k + 1 + j]? = some o' := fun j o' hj => by
      have := hl (j + 1) o' (by simpa using hj)
      rwa [show k + (j + 1) = k + 1 + j by omega] at this
    have key : ∃ c, okAt P ops n Φ w0 vs k o a c ∧ wpT P ops n Φ w0 vs Fin (k + 1) l (a.put o.dst c) := by
      unfold wpT at h
      unfold okAt
      cases hk : Φ k with
      | none => simp only [hk] at h; exact h
      | some x =>
        cases x with
        | inl x => simp only [hk] at h; exact ⟨x, ⟨rfl, h.1, h.2.1⟩, h.2.2⟩
        | inr φ => simp only [hk] at h; exact ⟨(vs k).v, ⟨rfl, h.1, h.2.1, h.2.2.1, h.2.2.2.1⟩, h.2.2.2.2⟩
    obtain ⟨c, hc, hw⟩ := key
    obtain ⟨C, T, hT, hst, hF⟩ := wpT_run l (k + 1) _ hl' hw
    refine ⟨fun i => if i = k then c else C i, fun i => if i = k then a else T i, by simp, ?_, ?_⟩
    · intro i h1 h2
      by_cases hik : i = k
      · subst hik
        refine ⟨o, h0, ?_, ?_⟩
        · simp [hT]
        · simpa using hc
      · obtain ⟨o', ho', ht, hok⟩ := hst i (by omega) (by simp only [List.length_cons] at h2; omega)
        refine ⟨o', ho', ?_, ?_⟩
        · show (if i + 1 = k then a else T (i + 1)) = (if i = k then a else T i).put o'.dst (if i = k then c else C i)
          rw [if_neg (by omega), if_neg hik, if_neg hik]; exact ht
        · show okAt P ops n Φ w0 vs i o' (if i = k then a else T i) (if i = k then c else C i)
          rw [if_neg hik, if_neg hik]; exact hok
    · show Fin (if k + (o :: l).length = k then a else T (k + (o :: l).length))
      rw [if_neg (by simp only [List.length_cons]; omega), show k + (o :: l).length = k + 1 + l.length by simp only [List.length_cons]; omega]
      exact hF

/-- A text's walk with given values. -/
structure TRun (P : Program) (ops : Array Oper) (n : Nat) (Φ : Kinds) (w0 : World) (a0 : Act) (vs : Nat → Gv) (C : Nat → Value) (T : Nat → Act) : Prop where
  start : T 0 = a0
  step : ∀ i, i < n → ∃ o, ops[i]? = some o ∧ T (i + 1) = (T i).put o.dst (C i) ∧ okAt P ops n Φ w0 vs i o (T i) (C i)

theorem TRun.holds {a0 : Act} {vs : Nat → Gv} {C : Nat → Value} {T : Nat → Act} (S : ExtS ops n) (R : TRun P ops n Φ w0 a0 vs C T) : ∀ i, i ≤ n → Holds ops n a0 (T i) C (fun j => j < i)
  | 0, _ => by
    rw [R.start]
    exact ⟨rfl, fun _ _ => rfl, fun j oj t hj hl => absurd hl (by omega)⟩
  | i + 1, hi => by
    obtain ⟨o, ho, ht, _⟩ := R.step i (by omega)
    rw [ht]
    exact ((R.holds S i (by omega)).put S (by omega) ho (by omega)).congrL fun j _ => by omega

/-- What is listed reads the same in two texts' walks whose given values agree on it. -/
theorem TRun.agree {a0 : Act} {vs vs' : Nat → Gv} {C C' : Nat → Value} {T T' : Nat → Act} {L : Nat → Prop} {w : World} (S : ExtS ops n) (R : TRun P ops n Φ w0 a0 vs C T) (R' : TRun P ops n Φ w0 a0 vs' C' T')
    (hw : Ext w0 w) (hcl : ∀ i oi, i < n → L i → ops[i]? = some oi → ∀ j ∈ depsOf oi, L j) (hvs : ∀ j, j < n → L j → vs j = vs' j)
    (hf : ∀ j, j < n → L j → factAt Φ vs w j) (hf' : ∀ j, j < n → L j → factAt Φ vs' w j) : ∀ i, i < n → L i → C i = C' i := by
  intro i
  induction i using Nat.strongRecOn with
  | _ i ih =>
    intro hi hL
    obtain ⟨o, ho, _, hok⟩ := R.step i hi
    obtain ⟨o', ho', _, hok'⟩ := R'.step i hi
    have : o = o' := Option.some.inj (ho.symm.trans ho')
    subst this
    have hdep := hcl i o hi hL ho
    have hlt := S.deps i o hi ho
    have hH := (R.holds S i (by omega))
    have hH' := (R'.holds S i (by omega))
    have hH2 : Holds ops n a0 (T i) C' (fun j => j < i ∧ j ∈ depsOf o) ∨ True := .inr trivial
    have hlook : ∀ t ∈ o.looksAt ops, (T i).tmps[t]? = (T' i).tmps[t]? := by
      intro t ht
      by_cases hx : ∃ j oj, j < n ∧ ops[j]? = some oj ∧ oj.dst = some t
      · obtain ⟨j, oj, hj, hoj, hd⟩ := hx
        have hm := S.look i j o oj t hi hj ho hoj hd ht
        have hji := hlt j hm
        rw [hH.at_ j oj t hj hji hoj hd, hH'.at_ j oj t hj hji hoj hd, ih j hji hj (hdep j hm)]
      · rw [hH.other t fun j oj hj _ hoj hd => hx ⟨j, oj, hj, hoj, hd⟩, hH'.other t fun j oj hj _ hoj hd => hx ⟨j, oj, hj, hoj, hd⟩]
    obtain ⟨he, hwt⟩ := same_exec (fun cs b => Region.noSelect_spec S.sel i o cs b ho) hlook
    have hfl : factsL Φ vs w (depsOf o) := factsL_iff.2 fun j hj => hf j (by have := hlt j hj; omega) (hdep j hj)
    have hfl' : factsL Φ vs' w (depsOf o) := factsL_iff.2 fun j hj => hf' j (by have := hlt j hj; omega) (hdep j hj)
    unfold okAt at hok hok'
    cases hk : Φ i with
    | none =>
      simp only [hk] at hok hok'
      unfold pureOK at hok hok'
      by_cases hfl2 : floats ops n i = true
      · rw [if_pos hfl2] at hok hok'
        rcases hok with ⟨h1, h2⟩ | ⟨h1, h2⟩
        · rcases hok' with ⟨h3, h4⟩ | ⟨h3, h4⟩
          · have e1 := h2 w (fun _ => hw); have e2 := h4 w (fun _ => hw)
            rw [he, e2] at e1
            simpa using e1.symm
          · rw [hwt, h3] at h1; cases h1
        · rcases hok' with ⟨h3, h4⟩ | ⟨h3, h4⟩
          · rw [hwt, h3] at h1; cases h1
          · rw [h2, h4]
      · rw [if_neg hfl2] at hok hok'
        rcases hok with ⟨h1, h2⟩ | ⟨h1, h2⟩
        · rcases hok' with ⟨h3, h4⟩ | ⟨h3, h4⟩
          · have e1 := h2 w hw hfl; have e2 := h4 w hw hfl'
            rw [he, e2] at e1
            simpa using e1.symm
          · rw [hwt, h3] at h1; cases h1
        · rcases hok' with ⟨h3, h4⟩ | ⟨h3, h4⟩
          · rw [hwt, h3] at h1; cases h1
          · rw [h2, h4]
    | some x =>
      cases x with
      | inl x => simp only [hk] at hok hok'; rw [hok.1, hok'.1]
      | inr φ => simp only [hk] at hok hok'; rw [hok.1, hok'.1, hvs i hi hL]

theorem getD_true_of {listed : Array Bool} {i : Nat} (hi : i < listed.size) : listed.getD i true = listed.getD i false := by simp [hi]

/-- The state in the midst of the region, in whatever order it goes. -/
structure Mid (P : Program) (ops : Array Oper) (n : Nat) (Φ : Kinds) (w0 : World) (a0 : Act) (listed : Array Bool) (a : Act) (w : World) (vs : Nat → Gv) (C : Nat → Value) (T : Nat → Act) : Prop where
  size : listed.size = ops.size
  closed : ∀ i oi, i < n → listed.getD i false = true → ops[i]? = some oi → ∀ j ∈ depsOf oi, listed.getD j false = true
  tail : ∀ t, n ≤ t → t < ops.size → listed.getD t false = false
  run : TRun P ops n Φ w0 a0 vs C T
  frame : Holds ops n a0 a C (fun j => listed.getD j false = true)
  world : Ext w0 w
  facts : ∀ j, j < n → listed.getD j false = true → factAt Φ vs w j
  foot : ∀ j, j < n → listed.getD j false = true → relK Φ j = true → ∀ b, (vs j).f b → b < w.heap.size
  apart : ∀ j k, j < n → k < n → j ≠ k → listed.getD j false = true → listed.getD k false = true → ApP ops Φ vs j k

theorem factAt_ext {vs : Nat → Gv} {w w' : World} {j : Nat} (hst : ∀ φ, Φ j = some (.inr φ) → ∀ v w w', φ v w → Ext w w' → φ v w') (h : factAt Φ vs w j) (hx : Ext w w') : factAt Φ vs w' j := by
  unfold factAt at *
  cases hk : Φ j with
  | none => trivial
  | some x =>
    cases x with
    | inl x => trivial
    | inr φ => simp only [hk] at h ⊢; exact hst φ hk _ _ _ h hx

theorem TRun.stable {a0 : Act} {vs : Nat → Gv} {C : Nat → Value} {T : Nat → Act} (R : TRun P ops n Φ w0 a0 vs C T) {j : Nat} (hj : j < n) (φ : Gv → World → Prop) (hk : Φ j = some (.inr φ)) :
    ∀ v w w', φ v w → Ext w w' → φ v w' := by
  obtain ⟨o, _, _, hok⟩ := R.step j hj
  unfold okAt at hok
  simp only [hk] at hok
  exact hok.2.2.1

/-- An operation of the head comes up. -/
theorem Mid.comes {Q : Exit → Act → World → Prop} {a0 : Act} (S : ExtS ops n) (hall : ∀ vs, ∃ C T, TRun P ops n Φ w0 a0 vs C T)
    {listed : Array Bool} {a : Act} {w : World} {vs : Nat → Gv} {C : Nat → Value} {T : Nat → Act} (M : Mid P ops n Φ w0 a0 listed a w vs C T) {i : Nat} (hi : i < n) (hr : i ∈ Region.ready .any ops listed)
    {K : Act → World → Prop} (hK : ∀ a' w' vs' C' T', Mid P ops n Φ w0 a0 (listed.setIfInBounds i true) a' w' vs' C' T' → K a' w') : wpOp P ops Q i K a w := by
  obtain ⟨hun, o, ho, hdone⟩ := mem_ready.1 hr
  have hisz : i < listed.size := by rw [M.size]; exact Nat.lt_of_lt_of_le hi S.le
  have hun' : listed.getD i false = false := by rw [← getD_true_of hisz]; exact hun
  obtain ⟨o', ho', _, hok⟩ := M.run.step i hi
  have : o = o' := Option.some.inj (ho.symm.trans ho')
  subst this
  have hdep : ∀ j ∈ depsOf o, listed.getD j false = true := fun j hj => by
    obtain ⟨e, he, hb, hon⟩ := mem_depsOf.1 hj
    rw [← hon]; exact hdone e he hb
  have hlt := S.deps i o hi ho
  have hH := M.run.holds S i (by omega)
  have hlook := M.frame.same S hH hi ho hdep hlt
  obtain ⟨he, hwt⟩ := same_exec (fun cs b => Region.noSelect_spec S.sel i o cs b ho) hlook
  have hfl : factsL Φ vs w (depsOf o) := factsL_iff.2 fun j hj => M.facts j (by have := hlt j hj; omega) (hdep j hj)
  have hset : ∀ j, (listed.setIfInBounds i true).getD j false = true ↔ listed.getD j false = true ∨ j = i := fun j => by
    by_cases hji : j = i
    · subst hji; simp [hisz]
    · rw [getD_set_ne false (Ne.symm hji)]; simp [hji]
  -- with the same given values
  have stay : (∀ φ, Φ i ≠ some (.inr φ)) → ∀ w', Ext w w' → factAt Φ vs w' i → Mid P ops n Φ w0 a0 (listed.setIfInBounds i true) (a.put o.dst (C i)) w' vs C T := fun hno w' hx hfi =>
    { size := by simp [M.size]
      closed := fun k ok hk hl hok' j hj => by
        rcases (hset k).1 hl with h | rfl
        · exact getD_set_true (M.closed k ok hk h hok' j hj)
        · have : o = ok := Option.some.inj (ho.symm.trans hok')
          subst this
          exact getD_set_true (hdep j hj)
      tail := fun t ht hts => by rw [getD_set_ne false (by omega)]; exact M.tail t ht hts
      run := M.run
      frame := (M.frame.put S hi ho (by rw [hun']; simp)).congrL fun j _ => (hset j).symm
      world := M.world.trans hx
      facts := fun j hj hl => by
        rcases (hset j).1 hl with h | rfl
        · exact factAt_ext (M.run.stable hj) (M.facts j hj h) hx
        · exact hfi
      foot := fun j hj hl hrr b hb => by
        rcases (hset j).1 hl with h | rfl
        · exact Nat.lt_of_lt_of_le (M.foot j hj h hrr b hb) hx.size
        · exact absurd hrr (by rw [relK_none hno]; simp)
      apart := fun j k hj hk hjk hlj hlk => by
        rcases (hset j).1 hlj with h | rfl
        · rcases (hset k).1 hlk with h' | rfl
          · exact M.apart j k hj hk hjk h h'
          · exact .no_r (relK_none hno)
        · exact .no_l (relK_none hno) }
  unfold wpOp
  simp only [ho]
  unfold okAt at hok
  cases hk : Φ i with
  | none =>
    simp only [hk] at hok
    have hfi : ∀ w', factAt Φ vs w' i := fun w' => by unfold factAt; rw [hk]; trivial
    have hy : (Region.wanted o (yielded ops a.tmps) = true ∧ (execOp a.eval o).run P w = .ok (.value (C i)) w) ∨ (Region.wanted o (yielded ops a.tmps) = false ∧ C i = undef) := by
      unfold pureOK at hok
      rw [he, hwt]
      by_cases hfl2 : floats ops n i = true
      · rw [if_pos hfl2] at hok
        exact hok.imp (fun ⟨h1, h2⟩ => ⟨h1, h2 w (fun _ => M.world)⟩) id
      · rw [if_neg hfl2] at hok
        exact hok.imp (fun ⟨h1, h2⟩ => ⟨h1, h2 w M.world hfl⟩) id
    rcases hy with ⟨h1, h2⟩ | ⟨h1, h2⟩
    · simp only [h1, if_true, Oper.wp, h2, Oper.upon]
      exact .inl (hK _ _ _ _ _ (stay (fun φ h => by rw [hk] at h; cases h) w (Ext.refl w) (hfi w)))
    · simp only [h1, Bool.false_eq_true, if_false]
      rw [← h2]
      exact hK _ _ _ _ _ (stay (fun φ h => by rw [hk] at h; cases h) w (Ext.refl w) (hfi w))
  | some x =>
    cases x with
    | inl x =>
      simp only [hk] at hok
      obtain ⟨hC, _, hst⟩ := hok
      have hfi : ∀ w', factAt Φ vs w' i := fun w' => by unfold factAt; rw [hk]; trivial
      unfold stepOK at hst
      rw [← hwt, ← he] at hst
      by_cases hwd : Region.wanted o (yielded ops a.tmps) = true
      · rw [if_pos hwd] at hst ⊢
        refine .inl (outcome_wp (hst w M.world hfl (fun v w' => v = x ∧ Ext w w') (fun g w' hx hv _ _ => ⟨hv, hx⟩)) fun v w' hv => ?_)
        obtain ⟨rfl, hx⟩ := hv
        have := stay (fun φ h => by rw [hk] at h; cases h) w' hx (hfi w')
        rw [hC] at this
        exact hK _ _ _ _ _ this
      · rw [if_neg hwd] at hst ⊢
        have := stay (fun φ h => by rw [hk] at h; cases h) w (Ext.refl w) (hfi w)
        rw [hC, ← hst w] at this
        exact hK _ _ _ _ _ this
    | inr φ =>
      simp only [hk] at hok
      obtain ⟨hC, _, hsb, hold, hst⟩ := hok
      unfold stepOK at hst
      rw [← hwt, ← he] at hst
      -- a new given value for this operation
      have fresh : ∀ g w', Ext w w' → φ g w' → made Φ vs o w g w' → (isNew o = true → ¬ Old w g.v) → K (a.put o.dst g.v) w' := fun g w' hx hv hmd hnew => by
        obtain ⟨C', T', R'⟩ := hall (fun j => if j = i then g else vs j)
        have hvs : ∀ j, j < n → listed.getD j false = true → vs j = (fun j => if j = i then g else vs j) j := fun j _ hl => by
          have : j ≠ i := fun e => by rw [e, hun'] at hl; cases hl
          simp [this]
        have hfact : ∀ j, j < n → listed.getD j false = true → factAt Φ (fun j => if j = i then g else vs j) w j := fun j hj hl => by
          have h1 := M.facts j hj hl
          unfold factAt at h1 ⊢
          have h2 := hvs j hj hl
          simp only at h2 ⊢
          rw [← h2]; exact h1
        have hag := TRun.agree S M.run R' (L := fun j => listed.getD j false = true) M.world M.closed hvs M.facts hfact
        obtain ⟨o2, ho2, _, hok2⟩ := R'.step i hi
        have hC' : C' i = g.v := by
          unfold okAt at hok2
          simp only [hk] at hok2
          rw [hok2.1]; simp
        have hfr := ((M.frame.congrC hag).put S hi ho (by rw [hun']; simp)).congrL fun j _ => (hset j).symm
        rw [hC'] at hfr
        have old2 : ∀ t, t < n → listed.getD t false = true → frK ops Φ t = true → Old w (vs t).v ∧ ∀ b, ¬ (vs t).f b := fun t ht hl ft => by
          obtain ⟨ot, hot, _, hokt⟩ := M.run.step t ht
          have hf := M.facts t ht hl
          unfold frK at ft
          rw [hot] at ft
          unfold okAt at hokt
          unfold factAt at hf
          cases hkt : Φ t with
          | none => rw [hkt] at ft; cases ft
          | some x => cases x with
            | inl x => rw [hkt] at ft; cases ft
            | inr ψ =>
              rw [hkt] at ft hf
              simp only [hkt] at hokt
              exact hokt.2.2.2.1 ft _ _ hf
        have old := fun t ht hl ft => (old2 t ht hl ft).1
        have hni : frK ops Φ i = true → isNew o = true := fun h => by
          unfold frK at h
          rw [ho, hk] at h; exact h
        refine hK _ _ _ C' T' ⟨by simp [M.size], fun k ok hk' hl hok' j hj => ?_, fun t ht hts => by rw [getD_set_ne false (by omega)]; exact M.tail t ht hts, R', hfr, M.world.trans hx, fun j hj hl => ?_, fun j hj hl hr b hb => ?_, fun j k hj hk2 hjk hlj hlk => ?_⟩
        · rcases (hset k).1 hl with h | rfl
          · exact getD_set_true (M.closed k ok hk' h hok' j hj)
          · have : o = ok := Option.some.inj (ho.symm.trans hok')
            subst this
            exact getD_set_true (hdep j hj)
        · rcases (hset j).1 hl with h | rfl
          · exact factAt_ext (M.run.stable hj) (hfact j hj h) hx
          · unfold factAt; rw [hk]; simpa using hv
        · rcases (hset j).1 hl with h | rfl
          · have hji : j ≠ i := fun e => by rw [e, hun'] at h; cases h
            simp only [hji, if_false] at hb
            exact Nat.lt_of_lt_of_le (M.foot j hj h hr b hb) hx.size
          · simp only [if_true] at hb
            exact (hmd b hb).1
        · rcases (hset j).1 hlj with h | rfl
          · have hji : j ≠ i := fun e => by rw [e, hun'] at h; cases h
            rcases (hset k).1 hlk with h' | rfl
            · have hki : k ≠ i := fun e => by rw [e, hun'] at h'; cases h'
              have := M.apart j k hj hk2 hjk h h'
              unfold ApP at this ⊢
              simpa only [hji, hki, if_false] using this
            · unfold ApP
              simp only [hji, if_false, if_true]
              refine ⟨fun fj fk e => hnew (hni fk) (e ▸ old j hj h fj), fun rj fk b o' e hb => ?_⟩
              exact hnew (hni fk) ⟨b, o', e, M.foot j hj h rj b hb⟩
          · rcases (hset k).1 hlk with h' | rfl
            · have hki : k ≠ j := fun e => hjk e.symm
              unfold ApP
              simp only [hki, if_false, if_true]
              refine ⟨fun fj fk e => hnew (hni fj) (e ▸ old k hk2 h' fk), fun _ fk b o' e hb => ?_⟩
              rcases (hmd b hb).2 with h3 | ⟨t, ht, hrt, htb⟩
              · obtain ⟨b2, o2', e2, hlt2⟩ := old k hk2 h' fk
                rw [e] at e2
                injection e2 with e2; injection e2 with e2; injection e2 with e2 _
                omega
              · have htn : t < n := by have := hlt t ht; omega
                by_cases htk : t = k
                · subst htk
                  exact (old2 t htn (hdep t ht) fk).2 b htb
                · exact (M.apart t k htn hk2 htk (hdep t ht) h').2 hrt fk b o' e htb
            · exact absurd rfl hjk
      by_cases hwd : Region.wanted o (yielded ops a.tmps) = true
      · rw [if_pos hwd] at hst ⊢
        exact .inl (outcome_wp (hst w M.world hfl (fun v w' => K (a.put o.dst v) w') fresh) fun v w' hv => hv)
      · rw [if_neg hwd] at hst ⊢
        refine fresh ⟨undef, fun _ => false⟩ w (Ext.refl w) (hst w) (fun _ h => absurd h Bool.false_ne_true) fun hn => ?_
        rintro ⟨b, o', he', _⟩
        cases he'

def unlisted (n : Nat) (listed : Array Bool) : Nat := (List.range n).countP fun j => !listed.getD j false

theorem unlisted_set {listed : Array Bool} {i : Nat} (hi : i < n) (hs : i < listed.size) (hu : listed.getD i false = false) :
    unlisted n listed = unlisted n (listed.setIfInBounds i true) + 1 :=
  countP_flip _ _ i (by rw [hu]; rfl) (by simp [hs]) (fun j hj => by rw [getD_set_ne false (Ne.symm hj)]) _ List.nodup_range (List.mem_range.2 hi)

/-- There is a first one that is not listed. -/
theorem least_unlisted {p : Nat → Bool} : ∀ m, (∃ i, i < m ∧ p i = false) → ∃ i, i < m ∧ p i = false ∧ ∀ j, j < i → p j = true
  | 0, ⟨i, hi, _⟩ => by omega
  | m + 1, ⟨i, hi, hp⟩ => by
    by_cases h : ∃ j, j < m ∧ p j = false
    · obtain ⟨j, h1, h2, h3⟩ := least_unlisted m h
      exact ⟨j, by omega, h2, h3⟩
    · refine ⟨i, hi, hp, fun j hj => ?_⟩
      cases hpj : p j with
      | true => rfl
      | false => exact absurd ⟨j, by omega, hpj⟩ h

theorem all_listed {listed : Array Bool} (h : unlisted n listed = 0) (i : Nat) (hi : i < n) : listed.getD i false = true := by
  unfold unlisted at h
  rw [List.countP_eq_zero] at h
  have := h i (List.mem_range.2 hi)
  simpa using this

theorem region_main {Q : Exit → Act → World → Prop} {a0 : Act} (hX : (Φ xm).isSome = false) (S : ExtS ops n) (hall : ∀ vs, ∃ C T, TRun P ops n Φ w0 a0 vs C T)
    (hend : ∀ listed a w vs C T, Mid P ops n Φ w0 a0 listed a w vs C T → unlisted n listed = 0 → wpAny P .any ops (OnlyNormal Q) (ops.size - n) listed a w) :
    ∀ (m : Nat) (listed : Array Bool) (a : Act) (w : World) (vs : Nat → Gv) (C : Nat → Value) (T : Nat → Act), unlisted n listed = m → Mid P ops n Φ w0 a0 listed a w vs C T →
      wpAny P .any ops (OnlyNormal Q) (m + (ops.size - n)) listed a w
  | 0, listed, a, w, vs, C, T, hm, M => by
    rw [Nat.zero_add]
    exact hend _ _ _ _ _ _ M hm
  | m + 1, listed, a, w, vs, C, T, hm, M => by
    have hsz : ∀ i, i < n → i < listed.size := fun i hi => by rw [M.size]; exact Nat.lt_of_lt_of_le hi S.le
    have hex : ∃ i, i < n ∧ listed.getD i false = false := by
      have : ¬ unlisted n listed = 0 := by omega
      unfold unlisted at this
      rw [List.countP_eq_zero] at this
      have h2 : ∃ i, ¬ (i ∈ List.range n → ¬ ((!listed.getD i false) = true)) := Classical.not_forall.1 this
      obtain ⟨i, h⟩ := h2
      by_cases hi : i < n
      · refine ⟨i, hi, ?_⟩
        cases hp : listed.getD i false with
        | false => rfl
        | true => exact absurd (fun _ => by rw [hp]; simp) h
      · exact absurd (fun hmem => absurd (List.mem_range.1 hmem) hi) h
    obtain ⟨i, hi, hu, hleast⟩ := least_unlisted n hex
    have hirdy : ∀ oi, ops[i]? = some oi → i ∈ Region.ready .any ops listed := fun oi hoi =>
      mem_ready.2 ⟨by rw [getD_true_of (hsz i hi)]; exact hu, oi, hoi, fun e he hb => hleast _ (S.deps i oi hi hoi _ (mem_depsOf.2 ⟨e, he, hb, rfl⟩))⟩
    obtain ⟨oi, hoi, _, hokI⟩ := M.run.step i hi
    have hri := hirdy oi hoi
    rw [show m + 1 + (ops.size - n) = (m + (ops.size - n)) + 1 by omega]
    -- is there one that does not float, and is not listed?
    by_cases hnf : ∃ k, k < n ∧ listed.getD k false = false ∧ floats ops n k = false
    · refine ⟨fun h0 => (by rw [h0] at hri; cases hri), fun j hj => ?_⟩
      have hjn : j < n := by
        rcases Nat.lt_or_ge j n with h | h
        · exact h
        · exfalso
          obtain ⟨_, oj, hoj, hdone⟩ := mem_ready.1 hj
          obtain ⟨k, hk, hku, hkf⟩ := hnf
          rcases Nat.eq_or_lt_of_le h with h | h
          · subst h
            unfold floats at hkf
            simp only [hoj, Bool.not_eq_false', List.contains_eq_mem, decide_eq_true_eq] at hkf
            have hall : ∀ q ∈ anc ops n (depsOf oj), listed.getD q false = true :=
              anc_all (p := fun q => listed.getD q false = true) (N := n) (fun q oq hqj hq hoq r hr => M.closed q oq hqj hq hoq r hr) n _ (Nat.le_refl _) (fun q hq => by
                obtain ⟨e, he, hb, hon⟩ := mem_depsOf.1 hq
                rw [← hon]; exact hdone e he hb)
            have := hall k hkf
            rw [hku] at this; cases this
          · have hj1 := S.chain j oj h hoj
            obtain ⟨e, he, hb, hon⟩ := mem_depsOf.1 hj1
            have := hdone e he hb
            rw [hon, M.tail (j - 1) (by omega) (by have := (Array.getElem?_eq_some_iff.1 hoj).1; omega)] at this; cases this
      refine M.comes S hall hjn hj fun a' w' vs' C' T' M' => ?_
      have hju : listed.getD j false = false := by rw [← getD_true_of (hsz j hjn)]; exact (mem_ready.1 hj).1
      have := unlisted_set hjn (hsz j hjn) hju
      exact region_main hX S hall hend m _ _ _ _ _ _ (by omega) M'
    · -- all that is left of the head floats: the first is taken first
      have hfl : floats ops n i = true := by
        cases h : floats ops n i with
        | true => rfl
        | false => exact absurd ⟨i, hi, hu, h⟩ hnf
      have hdep : ∀ j ∈ depsOf oi, listed.getD j false = true := fun j hj => hleast j (S.deps i oi hi hoi j hj)
      have hlook := M.frame.same S (M.run.holds S i (by omega)) hi hoi hdep (S.deps i oi hi hoi)
      obtain ⟨he, hwt⟩ := same_exec (fun cs b => Region.noSelect_spec S.sel i oi cs b hoi) hlook
      have hy : Yields P ops oi (C i) a ∧ Φ i = none := by
        unfold okAt at hokI
        cases hk : Φ i with
        | none =>
          simp only [hk] at hokI
          unfold pureOK at hokI
          rw [if_pos hfl] at hokI
          have hY : Yields P ops oi (C i) (T i) := hokI.imp (fun ⟨h1, h2⟩ => ⟨h1, fun w => h2 w (fun h => by rw [hX] at h; cases h)⟩) id
          exact ⟨hY.of_same he hwt, rfl⟩
        | some x =>
          cases x with
          | inl x => simp only [hk] at hokI; rw [hokI.2.1] at hfl; cases hfl
          | inr φ => simp only [hk] at hokI; rw [hokI.2.1] at hfl; cases hfl
      have hun : unlisted n listed = unlisted n (listed.setIfInBounds i true) + 1 := unlisted_set hi (hsz i hi) hu
      have hset : ∀ j, (listed.setIfInBounds i true).getD j false = true ↔ listed.getD j false = true ∨ j = i := fun j => by
        by_cases hji : j = i
        · subst hji; simp [hsz j hi]
        · rw [getD_set_ne false (Ne.symm hji)]; simp [hji]
      have M' : Mid P ops n Φ w0 a0 (listed.setIfInBounds i true) (a.put oi.dst (C i)) w vs C T :=
        { size := by simp [M.size]
          closed := fun k ok hk hl hok' j hj => by
            rcases (hset k).1 hl with h | rfl
            · exact getD_set_true (M.closed k ok hk h hok' j hj)
            · have : oi = ok := Option.some.inj (hoi.symm.trans hok')
              subst this
              exact getD_set_true (hdep j hj)
          tail := fun t ht hts => by rw [getD_set_ne false (by omega)]; exact M.tail t ht hts
          run := M.run
          frame := (M.frame.put S hi hoi (by rw [hu]; simp)).congrL fun j _ => (hset j).symm
          world := M.world
          facts := fun j hj hl => by
            rcases (hset j).1 hl with h | rfl
            · exact M.facts j hj h
            · unfold factAt; rw [hy.2]; trivial
          foot := fun j hj hl hrr b hb => by
            rcases (hset j).1 hl with h | rfl
            · exact M.foot j hj h hrr b hb
            · exact absurd hrr (by rw [relK_none (fun φ e => by rw [hy.2] at e; cases e)]; simp)
          apart := fun j k hj hk hjk hlj hlk => by
            have hnr : relK Φ i = false := relK_none (fun φ e => by rw [hy.2] at e; cases e)
            rcases (hset j).1 hlj with h | rfl
            · rcases (hset k).1 hlk with h' | rfl
              · exact M.apart j k hj hk hjk h h'
              · exact .no_r hnr
            · exact .no_l hnr }
      refine wpAny_first hoi (Region.noSelect_spec S.sel) (fun _ _ _ h => h) _ listed a w ?_ hri hy.1 (region_main hX S hall hend m _ _ _ _ _ _ (by omega) M')
      intro j oj hoj hne hju hno
      refine Region.free_spec hoi (S.free i hi hfl) j oj hoj hne ?_ hno
      have hjs : j < ops.size := (Array.getElem?_eq_some_iff.1 hoj).1
      have hju' : listed.getD j false = false := by rw [← getD_true_of (by rw [M.size]; exact hjs)]; exact hju
      simp only [Array.getD_eq_getD_getElem?, Array.getElem?_map, Array.getElem?_range, hjs, if_true, Option.map_some, Option.getD_some, Bool.and_eq_false_iff, decide_eq_false_iff_not, Bool.or_eq_false_iff, Bool.not_eq_false']
      by_cases hjn : j < n
      · right
        have h1 : floats ops n j = true := by
          cases h : floats ops n j with
          | true => rfl
          | false => exact absurd ⟨j, hjn, hju', h⟩ hnf
        refine ⟨h1, fun hlt => ?_⟩
        rw [hleast j hlt] at hju'; cases hju'
      · exact .inl hjn

end

/-- **A region that draws its order, in the order of the text.** -/
theorem wp_region_ext {P : Program} {id : Nat} {l : List Oper} {Q : Exit → Act → World → Prop} {a : Act} {w : World} (n : Nat) (Φ : Kinds) (hX : (Φ xm).isSome = false) (hm : P.follows .mixedOrders = true) (hB : extB l.toArray n = true)
    (h : ∀ vs, wpT P l.toArray n Φ w.drew vs (fun a' => ∀ w', Ext w.drew w' → factsL Φ vs w' (List.range n) → Apart l.toArray n Φ vs → wpList P l.toArray (OnlyNormal Q) (l.drop n) a' w') 0 (l.take n) a) :
    (Code.region id l.toArray true).wp P Q a w := by
  have S := extS_of hB
  refine Code.wp_mono OnlyNormal.imp ?_
  refine wp_region_any hm ?_
  have hle : n ≤ l.length := by simpa using S.le
  have hlen : (l.take n).length = n := by simp [hle]
  have hget : ∀ j o, (l.take n)[j]? = some o → l.toArray[0 + j]? = some o := fun j o hj => by
    rw [Nat.zero_add, List.getElem?_toArray]
    rw [List.getElem?_take] at hj
    split at hj
    · exact hj
    · cases hj
  have hall : ∀ vs, ∃ C T, TRun P l.toArray n Φ w.drew a vs C T ∧ ∀ w', Ext w.drew w' → factsL Φ vs w' (List.range n) → Apart l.toArray n Φ vs → wpList P l.toArray (OnlyNormal Q) (l.drop n) (T n) w' := fun vs => by
    obtain ⟨C, T, hT, hst, hF⟩ := wpT_run (l.take n) 0 a hget (h vs)
    rw [hlen, Nat.zero_add] at hF
    exact ⟨C, T, ⟨hT, fun i hi => hst i (Nat.zero_le _) (by rw [hlen]; omega)⟩, hF⟩
  have hall' : ∀ vs, ∃ C T, TRun P l.toArray n Φ w.drew a vs C T := fun vs => let ⟨C, T, R, _⟩ := hall vs; ⟨C, T, R⟩
  have hfalse : ∀ j, (Array.replicate l.toArray.size false).getD j false = false := fun j => getD_replicate_false _ _
  obtain ⟨C, T, R⟩ := hall' (fun _ => ⟨undef, fun _ => false⟩)
  have M0 : Mid P l.toArray n Φ w.drew a (Array.replicate l.toArray.size false) a w.drew (fun _ => ⟨undef, fun _ => false⟩) C T :=
    ⟨by simp, fun i oi _ hl => (by rw [hfalse] at hl; cases hl), fun t _ _ => hfalse t, R,
      ⟨rfl, fun _ _ => rfl, fun j oj t _ hl => (by rw [hfalse] at hl; cases hl)⟩, Ext.refl _, fun j _ hl => (by rw [hfalse] at hl; cases hl), fun j _ hl => (by rw [hfalse] at hl; cases hl), fun j _ _ _ _ hl => (by rw [hfalse] at hl; cases hl)⟩
  have hcount : unlisted n (Array.replicate l.toArray.size false) = n := by
    unfold unlisted
    rw [List.countP_eq_length.2 (fun j _ => by rw [hfalse]; rfl)]
    simp
  have := region_main (Q := Q) hX S hall' (fun listed a' w' vs C T M hz => ?_) n _ a w.drew _ C T hcount M0
  · have e : n + (l.toArray.size - n) = l.toArray.size := by have := S.le; omega
    rw [e] at this
    exact this
  · -- the tail
    obtain ⟨C', T', R', hF⟩ := hall vs
    have hlist : listed = (Array.range l.toArray.size).map fun j => decide (j < n) := by
      apply Array.ext (by simp [M.size])
      intro i h1 h2
      have hi : i < l.toArray.size := by rw [← M.size]; exact h1
      have e1 : listed.getD i false = listed[i] := by simp [h1]
      simp only [Array.getElem_map, Array.getElem_range]
      by_cases hin : i < n
      · rw [← e1, all_listed hz i hin]; simp [hin]
      · rw [← e1, M.tail i (by omega) hi]; simp [hin]
    have hag := TRun.agree S M.run R' (L := fun j => listed.getD j false = true) M.world M.closed (fun _ _ _ => rfl) M.facts M.facts
    have hfr : Holds l.toArray n a a' C' (fun j => j < n) := (M.frame.congrC hag).congrL fun j hj => ⟨fun _ => hj, fun _ => all_listed hz j hj⟩
    have haT : a' = T' n := hfr.eq (R'.holds S n (Nat.le_refl _))
    rw [haT]
    have htl := hF w' M.world (factsL_iff.2 fun j hj => M.facts j (List.mem_range.1 hj) (all_listed hz j (List.mem_range.1 hj)))
      (fun j k hj hk hjk => M.apart j k hj hk hjk (all_listed hz j hj) (all_listed hz k hk))
    have hseq := S.seq
    rw [← hlist] at hseq
    have hdl : (l.drop n).length = l.toArray.size - n := by simp
    rw [← hdl] at hseq ⊢
    exact wpAny_of_seq (l.drop n) n listed (T' n) w' (fun j => by simp [List.getElem?_drop]) hseq htl

end
section
open Go Go.RowKit

theorem on_norm {Q : Exit → Act → World → Prop} {a : Act} {w : World} (h : Q .normal a w) : OnlyNormal Q .normal a w := h
/-- A relation of a value alone, of whose blocks nothing is told. -/
def lowR (φ : Value → World → Prop) : Gv → World → Prop := fun g w => φ g.v w ∧ ∀ b, ¬ g.f b
def lowK : Sum Value (Value → World → Prop) → Sum Value (Gv → World → Prop)
  | .inl c => .inl c
  | .inr φ => .inr (lowR φ)
def kinds (l : List (Nat × Sum Value (Value → World → Prop))) : Kinds := fun k => (l.find? fun p => p.1 == k).map fun p => lowK p.2
def kindsF (l : List (Nat × Sum Value (Gv → World → Prop))) : Kinds := fun k => (l.find? fun p => p.1 == k).map (·.2)

section
variable {P : Program} {ops : Array Oper} {n : Nat} {Φ : Kinds} {w0 : World} {vs : Nat → Gv} {Fin : Act → Prop} {k : Nat} {o : Oper} {rest : List Oper} {a : Act}

theorem wpT_nil (h : Fin a) : wpT P ops n Φ w0 vs Fin k [] a := h
theorem wpT_pure {c : Value} (hk : Φ k = none) (hfl : floats ops n k = false) (hw : Region.wanted o (yielded ops a.tmps) = true)
    (h : ∀ w, Ext w0 w → factsL Φ vs w (depsOf o) → (execOp a.eval o).run P w = .ok (.value c) w) (hr : wpT P ops n Φ w0 vs Fin (k + 1) rest (a.put o.dst c)) :
    wpT P ops n Φ w0 vs Fin k (o :: rest) a := by
  unfold wpT; simp only [hk]; refine ⟨c, ?_, hr⟩; unfold pureOK; rw [if_neg (by simp [hfl])]; exact .inl ⟨hw, h⟩
theorem wpT_float {c : Value} (hk : Φ k = none) (hfl : floats ops n k = true) (hw : Region.wanted o (yielded ops a.tmps) = true)
    (h : ∀ w, (execOp a.eval o).run P w = .ok (.value c) w) (hr : wpT P ops n Φ w0 vs Fin (k + 1) rest (a.put o.dst c)) :
    wpT P ops n Φ w0 vs Fin k (o :: rest) a := by
  unfold wpT; simp only [hk]; refine ⟨c, ?_, hr⟩; unfold pureOK; rw [if_pos hfl]; exact .inl ⟨hw, fun w _ => h w⟩
theorem wpT_floatX {c : Value} (hX : (Φ xm).isSome = true) (hk : Φ k = none) (hfl : floats ops n k = true) (hw : Region.wanted o (yielded ops a.tmps) = true)
    (h : ∀ w, Ext w0 w → (execOp a.eval o).run P w = .ok (.value c) w) (hr : wpT P ops n Φ w0 vs Fin (k + 1) rest (a.put o.dst c)) :
    wpT P ops n Φ w0 vs Fin k (o :: rest) a := by
  unfold wpT; simp only [hk]; refine ⟨c, ?_, hr⟩; unfold pureOK; rw [if_pos hfl]; exact .inl ⟨hw, fun w hx => h w (hx hX)⟩
theorem wpT_skip (hk : Φ k = none) (hw : Region.wanted o (yielded ops a.tmps) = false) (hr : wpT P ops n Φ w0 vs Fin (k + 1) rest (a.put o.dst undef)) :
    wpT P ops n Φ w0 vs Fin k (o :: rest) a := by
  unfold wpT; simp only [hk]; refine ⟨undef, ?_, hr⟩; unfold pureOK; split
  · exact .inr ⟨hw, rfl⟩
  · exact .inr ⟨hw, rfl⟩
theorem wpT_det {c : Value} (hnn : isNew o = false) (hk : Φ k = some (.inl c)) (hfl : floats ops n k = false) (hw : Region.wanted o (yielded ops a.tmps) = true)
    (h : ∀ w, Ext w0 w → factsL Φ vs w (depsOf o) → ∀ R : Value → World → Prop, (∀ w', Ext w w' → R c w') → outcome P R ((execOp a.eval o).run P w))
    (hr : wpT P ops n Φ w0 vs Fin (k + 1) rest (a.put o.dst c)) : wpT P ops n Φ w0 vs Fin k (o :: rest) a := by
  unfold wpT; simp only [hk]; refine ⟨hfl, ?_, hr⟩; unfold stepOK; rw [if_pos hw]
  exact fun w hx hf R hR => h w hx hf R fun w' hx' => hR ⟨c, fun _ => false⟩ _ hx' rfl (fun _ h => absurd h Bool.false_ne_true) fun hn => absurd hn (by rw [hnn]; exact Bool.false_ne_true)
theorem wpT_rel {φ : Gv → World → Prop} (hk : Φ k = some (.inr φ)) (hfl : floats ops n k = false) (hs : ∀ v w w', φ v w → Ext w w' → φ v w') (hw : Region.wanted o (yielded ops a.tmps) = true)
    (ho : isNew o = true → ∀ g w, φ g w → Old w g.v ∧ ∀ b, ¬ g.f b)
    (h : ∀ w, Ext w0 w → factsL Φ vs w (depsOf o) → ∀ R : Value → World → Prop, (∀ g w', Ext w w' → φ g w' → made Φ vs o w g w' → (isNew o = true → ¬ Old w g.v) → R g.v w') → outcome P R ((execOp a.eval o).run P w))
    (hr : wpT P ops n Φ w0 vs Fin (k + 1) rest (a.put o.dst (vs k).v)) : wpT P ops n Φ w0 vs Fin k (o :: rest) a := by
  unfold wpT; simp only [hk]; refine ⟨hfl, hs, ho, ?_, hr⟩; unfold stepOK; rw [if_pos hw]
  exact h
theorem wpT_low {φ : Value → World → Prop} (hk : Φ k = some (.inr (lowR φ))) (hfl : floats ops n k = false) (hs : ∀ v w w', φ v w → Ext w w' → φ v w') (hw : Region.wanted o (yielded ops a.tmps) = true)
    (ho : isNew o = true → ∀ v w, φ v w → Old w v)
    (h : ∀ w, Ext w0 w → factsL Φ vs w (depsOf o) → ∀ R : Value → World → Prop, (∀ v w', Ext w w' → φ v w' → (isNew o = true → ¬ Old w v) → R v w') → outcome P R ((execOp a.eval o).run P w))
    (hr : wpT P ops n Φ w0 vs Fin (k + 1) rest (a.put o.dst (vs k).v)) : wpT P ops n Φ w0 vs Fin k (o :: rest) a :=
  wpT_rel hk hfl (fun _ _ _ h hx => ⟨hs _ _ _ h.1 hx, h.2⟩) hw (fun hn _ _ h => ⟨ho hn _ _ h.1, h.2⟩)
    (fun w hx hf R hR => h w hx hf R fun v w' hx' hv hn => hR ⟨v, fun _ => false⟩ w' hx' ⟨hv, fun _ h => absurd h Bool.false_ne_true⟩ (fun _ h => absurd h Bool.false_ne_true) hn) hr
end

theorem factsL_get {Φ : Kinds} {vs : Nat → Gv} {w : World} {l : List Nat} (h : factsL Φ vs w l) (j : Nat) (hj : l.contains j = true) : factAt Φ vs w j :=
  factsL_iff.1 h j (by simpa using hj)
theorem fact_relF {Φ : Kinds} {vs : Nat → Gv} {w : World} {l : List Nat} (h : factsL Φ vs w l) (j : Nat) {φ : Gv → World → Prop} (hk : Φ j = some (.inr φ)) (hj : l.contains j = true) : φ (vs j) w := by
  have := factsL_get h j hj
  unfold factAt at this
  rw [hk] at this
  exact this
theorem fact_rel {Φ : Kinds} {vs : Nat → Gv} {w : World} {l : List Nat} (h : factsL Φ vs w l) (j : Nat) {φ : Value → World → Prop} (hk : Φ j = some (.inr (lowR φ))) (hj : l.contains j = true) : φ (vs j).v w := (fact_relF h j hk hj).1

theorem Ext.cells {w w' : World} (h : Ext w w') : (∀ b o, b < w.heap.size → w'.cell? ⟨b, o, none⟩ = w.cell? ⟨b, o, none⟩) ∧ (∀ b o, b < w.heap.size → w'.frozen? ⟨b, o, none⟩ = w.frozen? ⟨b, o, none⟩) :=
  ⟨fun b o hb => Below.cell (p := ⟨b, o, none⟩) h hb, fun b o hb => Below.frozen (p := ⟨b, o, none⟩) h hb⟩
theorem Ext.below {B : Nat} {w w' : World} (h : Ext w w') (hB : B ≤ w.heap.size) : Below B w w' := Below.mono h hB
end
end Go.Proofs.Ytmbcolbbekbccaa
