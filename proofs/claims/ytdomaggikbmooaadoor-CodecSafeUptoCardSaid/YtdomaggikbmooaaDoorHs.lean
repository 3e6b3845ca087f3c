/- Memory of a walk, the second way: a part S of the memory that is only read any more, and resources of the call's own. Conditions: as each theorem says. -/
import Derived.Test.YtdomaggikbmooaaDoorStr
namespace Go.Proofs.YtdomaggikbmooaaDoor
open Go Go.RowKit

/-- A part of a memory: what is never written any more. -/
abbrev Mem := Nat → Option Obj
def Mem.le (S T : Mem) : Prop := ∀ b o, S b = some o → T b = some o
theorem Mem.le_refl (S : Mem) : Mem.le S S := fun _ _ h => h
theorem Mem.le_trans {S T U : Mem} (h : Mem.le S T) (k : Mem.le T U) : Mem.le S U := fun b o e => k b o (h b o e)
def Sub (S : Mem) (w : World) : Prop := ∀ b o, S b = some o → w.heap[b]? = some o
theorem lt_of_heap {w : World} {b : Nat} {o : Obj} (h : w.heap[b]? = some o) : b < w.heap.size := lt_of_blk h
theorem Sub.lt {S : Mem} {w : World} (h : Sub S w) {b : Nat} {o : Obj} (hb : S b = some o) : b < w.heap.size := lt_of_heap (h b o hb)
theorem Sub.none {S : Mem} {w : World} (h : Sub S w) {b : Nat} (hb : w.heap.size ≤ b) : S b = none := by
  cases e : S b with
  | none => rfl
  | some o => have := h.lt e; omega
theorem Sub.ext {S : Mem} {w w' : World} (h : Sub S w) (hx : Ext w w') : Sub S w' := fun b o e => by
  rw [Below.block hx b (h.lt e)]; exact h b o e
/-- What stands behind a call: S, and every new block. -/
def gr (S : Mem) (w w' : World) : Mem := fun b => if b < w.heap.size then S b else w'.heap[b]?
theorem gr_le {S : Mem} {w w' : World} (h : Sub S w) : Mem.le S (gr S w w') := fun b o e => by
  unfold gr; rw [if_pos (h.lt e)]; exact e
theorem gr_sub {S : Mem} {w w' : World} (h : Sub S w) (hx : Ext w w') : Sub (gr S w w') w' := fun b o e => by
  unfold gr at e
  split at e
  · exact h.ext hx b o e
  · exact e
theorem gr_mono {S : Mem} {w w1 w2 : World} (hx : Ext w1 w2) : Mem.le (gr S w w1) (gr S w w2) := fun b o e => by
  unfold gr at *
  split at e
  · rename_i h; rw [if_pos h]; exact e
  · rename_i h; rw [if_neg h, Below.block hx b (lt_of_heap e)]; exact e
theorem gr_trans {S : Mem} {w w1 w2 : World} (hx : Ext w w1) (hx2 : Ext w1 w2) : Mem.le (gr (gr S w w1) w1 w2) (gr S w w2) := fun b o e => by
  unfold gr at *
  have hs := hx.size
  by_cases h1 : b < w.heap.size
  · rw [if_pos (by omega), if_pos h1] at e; rw [if_pos h1]; exact e
  · rw [if_neg h1]
    by_cases h2 : b < w1.heap.size
    · rw [if_pos h2, if_neg h1] at e
      rw [Below.block hx2 b h2]; exact e
    · rw [if_neg h2] at e; exact e

theorem gr_head {S : Mem} {W w w' : World} (h : Sub S W) (hx : Ext W w) : Mem.le (gr S w w') (gr S W w') := fun b o e => by
  unfold gr at *
  have hs := hx.size
  by_cases h1 : b < W.heap.size
  · rw [if_pos (by omega)] at e; rw [if_pos h1]; exact e
  · rw [if_neg h1]
    by_cases h2 : b < w.heap.size
    · rw [if_pos h2] at e; have := h.lt e; omega
    · rw [if_neg h2] at e; exact e
/-- A part of a tuple. -/
def tupAt : Value → Nat → Value
  | .tuple vs, k => vs.getD k undef
  | _, _ => undef
/-! ### What is of the call's own -/
/-- A mark of frozen cells that lies behind the first n. -/
def okfz (fz : Nat × Nat) (n : Nat) : Prop := fz = (0, 0) ∨ n ≤ fz.1
inductive Res where
  /-- a block -/
  | blk (b : Nat) (cs : List Value) (T : TypeId)
  /-- an object of another kind -/
  | obj (b : Nat) (o : Obj)
  /-- a slice from a block's head on, and what lies behind its end: n elements of sz cells; or the nil one -/
  | osl (v : Value) (n sz : Nat) (cs rs : List Value) (T : TypeId)
def Res.holds (w : World) : Res → Prop
  | .blk b cs T => w.heap[b]? = some (.cells cs.toArray T (0, 0))
  | .obj b o => w.heap[b]? = some o
  | .osl v n sz cs rs T => (v = .slice none 0 0 ∧ n = 0 ∧ cs = [] ∧ rs = []) ∨
      ∃ b c fz, v = sl b 0 n c ∧ n ≤ c ∧ cs.length = n * sz ∧ (cs ++ rs).length = c * sz ∧ w.heap[b]? = some (.cells (cs ++ rs).toArray T fz) ∧ okfz fz (cs ++ rs).length
def vkey : Value → Option Nat
  | .slice (some a) _ _ => some a.block
  | _ => none
def Res.key : Res → Option Nat
  | .blk b _ _ => some b
  | .obj b _ => some b
  | .osl v _ _ _ _ _ => vkey v
theorem Res.key_lt {w : World} {r : Res} {b : Nat} (h : r.holds w) (hk : r.key = some b) : b < w.heap.size := by
  cases r with
  | blk b' cs T => cases hk; exact lt_of_heap h
  | obj b' o => cases hk; exact lt_of_heap h
  | osl v n sz cs rs T =>
    rcases h with ⟨rfl, _⟩ | ⟨b', c, fz, rfl, _, _, _, hh, _⟩
    · cases hk
    · cases hk; exact lt_of_heap hh
theorem Res.holds_of {w w' : World} {r : Res} (h : r.holds w) (hk : ∀ b, r.key = some b → w'.heap[b]? = w.heap[b]?) : r.holds w' := by
  cases r with
  | blk b' cs T => show w'.heap[b']? = _; rw [hk b' rfl]; exact h
  | obj b' o => show w'.heap[b']? = _; rw [hk b' rfl]; exact h
  | osl v n sz cs rs T =>
    rcases h with h | ⟨b', c, fz, rfl, h1, h2, h3, hh, hf⟩
    · exact .inl h
    · exact .inr ⟨b', c, fz, rfl, h1, h2, h3, by rw [hk b' rfl]; exact hh, hf⟩

/-- But for the blocks X, w is w0 with new blocks. -/
structure Fr (X : List Nat) (w0 w : World) : Prop where
  os : w.os = w0.os
  tape : w.tape = w0.tape
  output : w.output = w0.output
  size : w0.heap.size ≤ w.heap.size
  block : ∀ k, k < w0.heap.size → k ∉ X → w.heap[k]? = w0.heap[k]?
theorem Fr.refl (X : List Nat) (w : World) : Fr X w w := ⟨rfl, rfl, rfl, Nat.le_refl _, fun _ _ _ => rfl⟩
theorem Fr.ext {w0 w : World} (h : Fr [] w0 w) : Ext w0 w := ⟨h.os, h.tape, h.output, h.size, fun k hk => h.block k hk (by simp)⟩
theorem Fr.of {w0 w : World} (h : Ext w0 w) : Fr [] w0 w := ⟨h.os, h.tape, h.output, h.size, fun k hk _ => h.block k hk⟩

/-- Where a walk began: what was only read, which blocks were handed in as the call's own, the world. -/
structure Bas where
  S0 : Mem
  X : List Nat
  w0 : World
def lkR : List Res → Nat → Option Res
  | [], _ => none
  | e :: _, 0 => some e
  | _ :: l, k + 1 => lkR l k
def stR : List Res → Nat → Res → List Res
  | [], _, _ => []
  | _ :: l, 0, e => e :: l
  | x :: l, k + 1, e => x :: stR l k e
def rmR : List Res → Nat → List Res
  | [], _ => []
  | _ :: l, 0 => l
  | x :: l, k + 1 => x :: rmR l k
theorem lkR_eq : ∀ (l : List Res) (k : Nat), lkR l k = l[k]?
  | [], _ => by simp [lkR]
  | _ :: _, 0 => by simp [lkR]
  | _ :: l, k + 1 => by simp [lkR, lkR_eq l k]
theorem lkR_st_same {e : Res} : ∀ {l : List Res} {k : Nat} {x : Res}, lkR l k = some x → lkR (stR l k e) k = some e
  | [], _, _, h => by cases h
  | _ :: _, 0, _, _ => rfl
  | _ :: l, k + 1, _, h => lkR_st_same (l := l) (k := k) h
theorem lkR_st_other {e : Res} : ∀ {l : List Res} {k j : Nat}, j ≠ k → lkR (stR l k e) j = lkR l j
  | [], _, _, _ => rfl
  | _ :: _, 0, 0, h => absurd rfl h
  | _ :: _, 0, _ + 1, _ => rfl
  | _ :: _, _ + 1, 0, _ => rfl
  | _ :: l, k + 1, j + 1, h => lkR_st_other (l := l) (by omega)
theorem lkR_rm : ∀ {l : List Res} {k j : Nat}, lkR (rmR l k) j = if j < k then lkR l j else lkR l (j + 1)
  | [], _, _ => by simp [rmR, lkR]
  | _ :: l, 0, j => by simp [rmR, lkR]
  | _ :: l, k + 1, 0 => by simp [rmR, lkR]
  | _ :: l, k + 1, j + 1 => by simp [rmR, lkR, lkR_rm (l := l) (k := k) (j := j)]

structure HS (B : Bas) (S : Mem) (w : World) (L : List Res) : Prop where
  fr : Fr B.X B.w0 w
  sub : Sub S w
  keep : ∀ b, b < B.w0.heap.size → b ∉ B.X → S b = B.S0 b
  own : ∀ k r, lkR L k = some r → r.holds w
  old : ∀ k r b, lkR L k = some r → r.key = some b → (B.w0.heap.size ≤ b ∨ b ∈ B.X) ∧ S b = none
  inj : ∀ i j r s b, lkR L i = some r → lkR L j = some s → r.key = some b → s.key = some b → i = j
theorem HS.start {S : Mem} {w : World} (h : Sub S w) : HS ⟨S, [], w⟩ S w [] :=
  ⟨Fr.refl _ _, h, fun _ _ _ => rfl, fun _ _ h => by simp [lkR] at h, fun _ _ _ h => by simp [lkR] at h, fun _ _ _ _ _ h => by simp [lkR] at h⟩
theorem HS.toExt {S0 S : Mem} {w0 w : World} {L : List Res} (H : HS ⟨S0, [], w0⟩ S w L) : Ext w0 w := H.fr.ext
theorem HS.gr {S0 S : Mem} {w0 w : World} {L : List Res} (H : HS ⟨S0, [], w0⟩ S w L) : Mem.le S (gr S0 w0 w) := fun b o e => by
  unfold Go.Proofs.YtdomaggikbmooaaDoor.gr
  by_cases h : b < w0.heap.size
  · rw [if_pos h]; have h2 : S b = S0 b := H.keep b h (by simp); rw [← h2]; exact e
  · rw [if_neg h]; exact H.sub b o e
section
variable {B : Bas} {S S' : Mem} {w w' : World} {L : List Res}
theorem HS.res_lt (H : HS B S w L) {k b : Nat} {r : Res} (hk : lkR L k = some r) (hb : r.key = some b) : b < w.heap.size := Res.key_lt (H.own k r hk) hb
theorem Fr.more {X : List Nat} {a b c : World} (h : Fr X a b) (k : Ext b c) : Fr X a c :=
  ⟨k.os.trans h.os, k.tape.trans h.tape, k.output.trans h.output, Nat.le_trans h.size k.size, fun i hi hx => (k.block i (Nat.lt_of_lt_of_le hi h.size)).trans (h.block i hi hx)⟩
theorem HS.ext (H : HS B S w L) (hx : Ext w w') : HS B S w' L :=
  ⟨H.fr.more hx, H.sub.ext hx, H.keep, fun k r hk => Res.holds_of (H.own k r hk) fun b hb => hx.block b (H.res_lt hk hb), H.old, H.inj⟩
/-- Behind a call that lays new blocks: all of them are only read from here on. -/
theorem HS.call (H : HS B S w L) (hx : Ext w w') : HS B (Go.Proofs.YtdomaggikbmooaaDoor.gr S w w') w' L :=
  ⟨H.fr.more hx, gr_sub H.sub hx, fun b hb hx => by
      unfold Go.Proofs.YtdomaggikbmooaaDoor.gr; rw [if_pos (Nat.lt_of_lt_of_le hb H.fr.size)]; exact H.keep b hb hx,
    fun k r hk => Res.holds_of (H.own k r hk) fun b hb => hx.block b (H.res_lt hk hb),
    fun k r b hk hb => ⟨(H.old k r b hk hb).1, by unfold Go.Proofs.YtdomaggikbmooaaDoor.gr; rw [if_pos (H.res_lt hk hb)]; exact (H.old k r b hk hb).2⟩, H.inj⟩
theorem HS.drew (H : HS B S w L) : HS B S w.drew L := H.ext (Ext.drew w)
/-- A new resource. -/
theorem HS.push (H : HS B S w L) (hx : Ext w w') {r : Res} (hr : r.holds w') (hn : ∀ b, r.key = some b → w.heap.size ≤ b) : HS B S w' (r :: L) := by
  have H' := H.ext hx
  refine ⟨H'.fr, H'.sub, H'.keep, ?_, ?_, ?_⟩
  · intro k s hk
    cases k with
    | zero => cases hk; exact hr
    | succ k => exact H'.own k s hk
  · intro k s b hk hb
    cases k with
    | zero => cases hk; exact ⟨.inl (Nat.le_trans H.fr.size (hn b hb)), H.sub.none (hn b hb)⟩
    | succ k => exact H.old k s b hk hb
  · intro i j s t b hi hj h1 h2
    cases i with
    | zero =>
      cases j with
      | zero => rfl
      | succ j => cases hi; have a1 := hn b h1; have a2 := H.res_lt hj h2; omega
    | succ i =>
      cases j with
      | zero => cases hj; have a1 := hn b h2; have a2 := H.res_lt hi h1; omega
      | succ j => rw [H.inj i j s t b hi hj h1 h2]
/-- One resource is written. -/
theorem HS.upd (H : HS B S w L) {k : Nat} {r r' : Res} (hk : lkR L k = some r) (hsz : w.heap.size ≤ w'.heap.size) (hos : w'.os = w.os) (htp : w'.tape = w.tape) (hop : w'.output = w.output)
    (hb : ∀ i, i < w.heap.size → r.key ≠ some i → w'.heap[i]? = w.heap[i]?) (hr : r'.holds w') (hkey : ∀ b, r'.key = some b → r.key = some b ∨ w.heap.size ≤ b) : HS B S w' (stR L k r') := by
  refine ⟨⟨hos.trans H.fr.os, htp.trans H.fr.tape, hop.trans H.fr.output, Nat.le_trans H.fr.size hsz, ?_⟩, ?_, H.keep, ?_, ?_, ?_⟩
  · intro i hi hx
    rw [hb i (Nat.lt_of_lt_of_le hi H.fr.size) (fun e => ?_)]
    · exact H.fr.block i hi hx
    · rcases (H.old k r i hk e).1 with h | h
      · omega
      · exact hx h
  · intro b o e
    rw [hb b (H.sub.lt e) (fun e2 => ?_)]
    · exact H.sub b o e
    · rw [(H.old k r b hk e2).2] at e; cases e
  · intro j s hj
    by_cases hjk : j = k
    · subst hjk; rw [lkR_st_same hk] at hj; cases hj; exact hr
    · rw [lkR_st_other hjk] at hj
      exact Res.holds_of (H.own j s hj) fun b hbs => hb b (H.res_lt hj hbs) fun e => hjk (H.inj j k s r b hj hk hbs e)
  · intro j s b hj hbs
    by_cases hjk : j = k
    · subst hjk; rw [lkR_st_same hk] at hj; cases hj
      rcases hkey b hbs with h | h
      · exact H.old j r b hk h
      · exact ⟨.inl (Nat.le_trans H.fr.size h), H.sub.none h⟩
    · rw [lkR_st_other hjk] at hj; exact H.old j s b hj hbs
  · intro i j s t b hi hj h1 h2
    by_cases hik : i = k
    · by_cases hjk : j = k
      · omega
      · subst hik
        rw [lkR_st_same hk] at hi; cases hi
        rw [lkR_st_other hjk] at hj
        rcases hkey b h1 with h | h
        · exact absurd (H.inj j i t r b hj hk h2 h) hjk
        · have := H.res_lt hj h2; omega
    · rw [lkR_st_other hik] at hi
      by_cases hjk : j = k
      · subst hjk
        rw [lkR_st_same hk] at hj; cases hj
        rcases hkey b h2 with h | h
        · exact absurd (H.inj i j s r b hi hk h1 h) hik
        · have := H.res_lt hi h1; omega
      · rw [lkR_st_other hjk] at hj; exact H.inj i j s t b hi hj h1 h2
/-- A resource is forgotten. -/
theorem HS.rm (H : HS B S w L) (k : Nat) : HS B S w (rmR L k) := by
  refine ⟨H.fr, H.sub, H.keep, fun j r hj => ?_, fun j r b hj => ?_, fun i j r s b hi hj h1 h2 => ?_⟩
  · rw [lkR_rm] at hj; split at hj
    · exact H.own _ _ hj
    · exact H.own _ _ hj
  · rw [lkR_rm] at hj; split at hj
    · exact H.old _ _ _ hj
    · exact H.old _ _ _ hj
  · rw [lkR_rm] at hi hj
    split at hi <;> split at hj <;> have := H.inj _ _ _ _ _ hi hj h1 h2 <;> omega
/-- Some resources, in another order. -/
def selR (L : List Res) : List Nat → List Res
  | [] => []
  | j :: js => match lkR L j with
    | some r => r :: selR L js
    | none => selR L js
/-- All of the numbers are places of the list, and no two are the same. -/
def okSel (L : List Res) : List Nat → Bool
  | [] => true
  | j :: js => Nat.blt j L.length && !(js.any (Nat.beq j)) && okSel L js
theorem lkR_lt {l : List Res} {k : Nat} : k < l.length → ∃ r, lkR l k = some r := fun h => ⟨l[k], by rw [lkR_eq]; simp [h]⟩
theorem selR_lk {L : List Res} : ∀ {js : List Nat}, okSel L js = true → ∀ {i : Nat} {r : Res}, lkR (selR L js) i = some r → ∃ j, js[i]? = some j ∧ lkR L j = some r
  | [], _, i, r, h => by simp [selR, lkR] at h
  | j :: js, hok, i, r, h => by
    simp only [okSel, Bool.and_eq_true] at hok
    have hj : j < L.length := by have := hok.1.1; rw [nat_blt] at this; simpa using this
    obtain ⟨x, hx⟩ := lkR_lt hj
    simp only [selR, hx] at h
    cases i with
    | zero => simp only [lkR, Option.some.injEq] at h; subst h; exact ⟨j, rfl, hx⟩
    | succ i =>
      simp only [lkR] at h
      obtain ⟨j', h1, h2⟩ := selR_lk hok.2 h
      exact ⟨j', by simpa using h1, h2⟩
theorem okSel_inj {L : List Res} : ∀ {js : List Nat}, okSel L js = true → ∀ {i k j : Nat}, js[i]? = some j → js[k]? = some j → i = k
  | [], _, i, k, j, h, _ => by simp at h
  | x :: js, hok, i, k, j, hi, hk => by
    simp only [okSel, Bool.and_eq_true, Bool.not_eq_true'] at hok
    have hx : ∀ y ∈ js, y ≠ x := fun y hy e => by
      have := List.any_eq_false.1 hok.1.2 y hy
      subst e; simp at this
    cases i with
    | zero =>
      cases k with
      | zero => rfl
      | succ k => simp at hi hk; subst hi; exact absurd rfl (hx _ (List.mem_of_getElem? hk))
    | succ i =>
      cases k with
      | zero => simp at hi hk; subst hk; exact absurd rfl (hx _ (List.mem_of_getElem? hi))
      | succ k => rw [okSel_inj hok.2 (i := i) (k := k) (by simpa using hi) (by simpa using hk)]
theorem HS.sel (H : HS B S w L) (js : List Nat) (hok : okSel L js = true) : HS B S w (selR L js) := by
  refine ⟨H.fr, H.sub, H.keep, fun i r hi => ?_, fun i r b hi hb => ?_, fun i k r s b hi hk h1 h2 => ?_⟩
  · obtain ⟨j, _, h⟩ := selR_lk hok hi; exact H.own j r h
  · obtain ⟨j, _, h⟩ := selR_lk hok hi; exact H.old j r b h hb
  · obtain ⟨j, e1, g1⟩ := selR_lk hok hi
    obtain ⟨j', e2, g2⟩ := selR_lk hok hk
    obtain rfl := H.inj j j' r s b g1 g2 h1 h2
    exact okSel_inj hok e1 e2
/-- The blocks of resources. -/
def keysR : List Res → List Nat
  | [] => []
  | r :: l => match r.key with
    | some b => b :: keysR l
    | none => keysR l
theorem mem_keysR {b : Nat} : ∀ {l : List Res}, b ∈ keysR l ↔ ∃ k r, lkR l k = some r ∧ r.key = some b
  | [] => by simp [keysR, lkR]
  | x :: l => by
    have ih := mem_keysR (b := b) (l := l)
    constructor
    · intro h
      unfold keysR at h
      cases hx : x.key with
      | none => rw [hx] at h; obtain ⟨k, r, h1, h2⟩ := ih.1 h; exact ⟨k + 1, r, h1, h2⟩
      | some c =>
        rw [hx] at h
        rcases List.mem_cons.1 h with rfl | h
        · exact ⟨0, x, rfl, hx⟩
        · obtain ⟨k, r, h1, h2⟩ := ih.1 h; exact ⟨k + 1, r, h1, h2⟩
    · rintro ⟨k, r, h1, h2⟩
      unfold keysR
      cases k with
      | zero => simp only [lkR, Option.some.injEq] at h1; subst h1; rw [h2]; exact List.mem_cons_self
      | succ k =>
        have := ih.2 ⟨k, r, h1, h2⟩
        cases hx : x.key with
        | none => exact this
        | some c => exact List.mem_cons_of_mem _ this
/-- What is handed to a call. -/
theorem HS.hand (H : HS B S w L) (js : List Nat) (hok : okSel L js = true) : HS ⟨S, keysR (selR L js), w⟩ S w (selR L js) := by
  have h := H.sel js hok
  exact ⟨Fr.refl _ _, h.sub, fun _ _ _ => rfl, h.own, fun k r b hk hb => ⟨.inr (mem_keysR.2 ⟨k, r, hk, hb⟩), (h.old k r b hk hb).2⟩, h.inj⟩
/-- Behind a call to which resources were handed: N in their place; ks: the others. -/
theorem HS.frame {S' : Mem} {N : List Res} (H : HS B S w L) (js ks : List Nat) (hok : okSel L (js ++ ks) = true) (H' : HS ⟨S, keysR (selR L js), w⟩ S' w' N) : HS B S' w' (N ++ selR L ks) ∧ Mem.le S S' := by
  have hokj : okSel L js = true := by
    clear H'
    induction js with
    | nil => rfl
    | cons j js ih =>
      simp only [List.cons_append, okSel, Bool.and_eq_true, Bool.not_eq_true', List.any_append, Bool.or_eq_false_iff] at hok ⊢
      exact ⟨⟨hok.1.1, hok.1.2.1⟩, ih hok.2⟩
  have hokk : okSel L ks = true := by
    clear H' hokj
    induction js with
    | nil => exact hok
    | cons j js ih =>
      simp only [List.cons_append, okSel, Bool.and_eq_true] at hok
      exact ih hok.2
  have apart : ∀ {i k j : Nat}, js[i]? = some j → ks[k]? = some j → False := fun {i k j} hi hk => by
    have h1 : (js ++ ks)[i]? = some j := by rw [List.getElem?_append_left (List.getElem?_eq_some_iff.1 hi).1]; exact hi
    have h2 : (js ++ ks)[js.length + k]? = some j := by rw [List.getElem?_append_right (by omega)]; simpa using hk
    have := okSel_inj hok h1 h2
    have := (List.getElem?_eq_some_iff.1 hi).1
    omega
  have hfr := H'.fr
  have nokey : ∀ b, S b ≠ none → b ∉ keysR (selR L js) := fun b hb hm => by
    obtain ⟨i, s, h1, h2⟩ := mem_keysR.1 hm
    obtain ⟨j', _, h'⟩ := selR_lk hokj h1
    exact hb (H.old j' s b h' h2).2
  have hle : Mem.le S S' := fun b o e => by rw [H'.keep b (H.sub.lt e) (nokey b (by rw [e]; simp))]; exact e
  -- a resource that stays
  have stay : ∀ {k : Nat} {r : Res}, lkR (selR L ks) k = some r → ∃ j, lkR L j = some r ∧ ∀ b, r.key = some b → b < w.heap.size ∧ b ∉ keysR (selR L js) := fun {k r} hk => by
    obtain ⟨j, e, h⟩ := selR_lk hokk hk
    refine ⟨j, h, fun b hb => ⟨H.res_lt h hb, fun hm => ?_⟩⟩
    obtain ⟨i, s, h1, h2⟩ := mem_keysR.1 hm
    obtain ⟨j', e', h'⟩ := selR_lk hokj h1
    obtain rfl := H.inj j j' r s b h h' hb h2
    exact apart e' e
  have gone : ∀ {b : Nat}, b ∈ keysR (selR L js) → B.w0.heap.size ≤ b ∨ b ∈ B.X := fun {b} hm => by
    obtain ⟨i, s, h1, h2⟩ := mem_keysR.1 hm
    obtain ⟨j', _, h'⟩ := selR_lk hokj h1
    exact (H.old j' s b h' h2).1
  have lkA : ∀ k, lkR (N ++ selR L ks) k = if k < N.length then lkR N k else lkR (selR L ks) (k - N.length) := fun k => by
    rw [lkR_eq, lkR_eq, lkR_eq, List.getElem?_append]
  refine ⟨⟨⟨hfr.os.trans H.fr.os, hfr.tape.trans H.fr.tape, hfr.output.trans H.fr.output, Nat.le_trans H.fr.size hfr.size, fun i hi hx => ?_⟩, H'.sub, fun b hb hbx => ?_, fun k r hk => ?_, fun k r b hk hb => ?_, fun i j r s b hi hj h1 h2 => ?_⟩, hle⟩
  · rw [hfr.block i (Nat.lt_of_lt_of_le hi H.fr.size) (fun hm => ?_)]
    · exact H.fr.block i hi hx
    · rcases gone hm with h | h
      · omega
      · exact hx h
  · rw [H'.keep b (Nat.lt_of_lt_of_le hb H.fr.size) (fun hm => ?_)]
    · exact H.keep b hb hbx
    · rcases gone hm with h | h
      · omega
      · exact hbx h
  · rw [lkA] at hk
    split at hk
    · exact H'.own k r hk
    · obtain ⟨j, h, hs⟩ := stay hk
      exact Res.holds_of (H.own j r h) fun b hb => hfr.block b (hs b hb).1 (hs b hb).2
  · rw [lkA] at hk
    split at hk
    · have h := H'.old k r b hk hb
      refine ⟨?_, h.2⟩
      rcases h.1 with h1 | h1
      · exact .inl (Nat.le_trans H.fr.size h1)
      · exact gone h1
    · obtain ⟨j, h, hs⟩ := stay hk
      exact ⟨(H.old j r b h hb).1, by rw [H'.keep b (hs b hb).1 (hs b hb).2]; exact (H.old j r b h hb).2⟩
  · rw [lkA] at hi hj
    split at hi <;> split at hj
    · exact H'.inj i j r s b hi hj h1 h2
    · obtain ⟨j', h, hs⟩ := stay hj
      rcases (H'.old i r b hi h1).1 with g | g
      · have := (hs b h2).1; have g' : w.heap.size ≤ b := g; omega
      · exact absurd g (hs b h2).2
    · obtain ⟨j', h, hs⟩ := stay hi
      rcases (H'.old j s b hj h2).1 with g | g
      · have := (hs b h1).1; have g' : w.heap.size ≤ b := g; omega
      · exact absurd g (hs b h1).2
    · have := (H.sel ks hokk).inj _ _ r s b hi hj h1 h2
      omega
/-- A block is only read from here on. -/
theorem HS.fix (H : HS B S w L) {k : Nat} {r : Res} (hk : lkR L k = some r) {b : Nat} {o : Obj} (hb : r.key = some b) (ho : w.heap[b]? = some o) : ∃ S', Mem.le S S' ∧ S' b = some o ∧ HS B S' w (rmR L k) := by
  refine ⟨fun i => if i = b then some o else S i, fun i p e => ?_, by simp, ?_⟩
  · by_cases h : i = b
    · subst h; rw [(H.old k r i hk hb).2] at e; cases e
    · simp [h, e]
  · have h' := H.rm k
    have hold := (H.old k r b hk hb).1
    refine ⟨h'.fr, fun i p e => ?_, fun i hi hx => ?_, h'.own, fun j s i hj hs => ?_, h'.inj⟩
    · by_cases h : i = b
      · subst h; simp at e; subst e; exact ho
      · simp [h] at e; exact H.sub i p e
    · have : i ≠ b := fun e => by
        subst e
        rcases hold with h | h
        · omega
        · exact hx h
      simp [this, H.keep i hi hx]
    · have h1 := h'.old j s i hj hs
      refine ⟨h1.1, ?_⟩
      have : i ≠ b := fun e => by
        subst e
        rw [lkR_rm] at hj
        split at hj <;> have := H.inj _ _ _ _ _ hj hk hs hb <;> omega
      simp [this, h1.2]
end

/-! ### Slices that are only read -/
/-- v is a slice of n elements, of sz cells each, whose cells are cs. -/
def SlS (S : Mem) (v : Value) (n sz : Nat) (cs : List Value) : Prop :=
  (v = .slice none 0 0 ∧ n = 0 ∧ cs = []) ∨ ∃ b o c ds T fz, v = sl b o n c ∧ n ≤ c ∧ S b = some (.cells ds.toArray T fz) ∧ o + n * sz ≤ ds.length ∧ piece ds o (n * sz) = cs
theorem SlS.mono {S T : Mem} {v : Value} {n sz : Nat} {cs : List Value} (h : SlS S v n sz cs) (hl : Mem.le S T) : SlS T v n sz cs := by
  rcases h with h | ⟨b, o, c, ds, E, fz, h1, h2, h3, h4, h5⟩
  · exact .inl h
  · exact .inr ⟨b, o, c, ds, E, fz, h1, h2, hl _ _ h3, h4, h5⟩
/-- The same in a world. -/
def SlW (w : World) (v : Value) (n sz : Nat) (cs : List Value) : Prop :=
  (v = .slice none 0 0 ∧ n = 0 ∧ cs = []) ∨ ∃ b o c ds T fz, v = sl b o n c ∧ n ≤ c ∧ w.heap[b]? = some (.cells ds.toArray T fz) ∧ o + n * sz ≤ ds.length ∧ piece ds o (n * sz) = cs
theorem SlS.w {S : Mem} {w : World} {v : Value} {n sz : Nat} {cs : List Value} (h : SlS S v n sz cs) (hs : Sub S w) : SlW w v n sz cs := by
  rcases h with h | ⟨b, o, c, ds, E, fz, h1, h2, h3, h4, h5⟩
  · exact .inl h
  · exact .inr ⟨b, o, c, ds, E, fz, h1, h2, hs _ _ h3, h4, h5⟩
theorem piece_len {l : List Value} {o n : Nat} (h : o + n ≤ l.length) : (piece l o n).length = n := by rw [piece_eq]; simp; omega
theorem SlW.len {w : World} {v : Value} {n sz : Nat} {cs : List Value} (h : SlW w v n sz cs) : cs.length = n * sz := by
  rcases h with ⟨_, rfl, rfl⟩ | ⟨b, o, c, ds, E, fz, h1, h2, h3, h4, rfl⟩
  · simp
  · exact piece_len h4
theorem SlS.len {S : Mem} {v : Value} {n sz : Nat} {cs : List Value} (h : SlS S v n sz cs) : cs.length = n * sz := by
  rcases h with ⟨_, rfl, rfl⟩ | ⟨b, o, c, ds, E, fz, h1, h2, h3, h4, rfl⟩
  · simp
  · exact piece_len h4
theorem Res.slW {w : World} {v : Value} {n sz : Nat} {cs rs : List Value} {T : TypeId} (h : (Res.osl v n sz cs rs T).holds w) : SlW w v n sz cs := by
  rcases h with ⟨h1, h2, h3, _⟩ | ⟨b, c, fz, rfl, h1, h2, h3, h4, _⟩
  · exact .inl ⟨h1, h2, h3⟩
  · refine .inr ⟨b, 0, c, cs ++ rs, T, fz, rfl, h1, h4, by simp; omega, ?_⟩
    rw [piece_eq, List.drop_zero, ← h2, List.take_left']
    rfl
theorem SlS.nil (S : Mem) (sz : Nat) : SlS S (.slice none 0 0) 0 sz [] := .inl ⟨rfl, rfl, rfl⟩
theorem HS.slW {B : Bas} {S : Mem} {w : World} {L : List Res} (H : HS B S w L) {k : Nat} {v : Value} {n sz : Nat} {cs rs : List Value} {T : TypeId} (hk : lkR L k = some (.osl v n sz cs rs T)) : SlW w v n sz cs := Res.slW (H.own k _ hk)
/-- An own slice is only read from here on. -/
theorem HS.fixS {B : Bas} {S : Mem} {w : World} {L : List Res} (H : HS B S w L) {k : Nat} {v : Value} {n sz : Nat} {cs rs : List Value} {T : TypeId} (hk : lkR L k = some (.osl v n sz cs rs T)) :
    ∃ S', Mem.le S S' ∧ SlS S' v n sz cs ∧ HS B S' w (rmR L k) := by
  have hh := H.own k _ hk
  rcases hh with ⟨h1, h2, h3, _⟩ | ⟨b, c, fz, rfl, h1, h2, h3, h4, _⟩
  · exact ⟨S, Mem.le_refl S, .inl ⟨h1, h2, h3⟩, H.rm k⟩
  · obtain ⟨S', hle, hb, H'⟩ := H.fix hk (b := b) rfl h4
    refine ⟨S', hle, .inr ⟨b, 0, c, cs ++ rs, T, fz, rfl, h1, hb, by simp; omega, ?_⟩, H'⟩
    rw [piece_eq, List.drop_zero, ← h2, List.take_left']
    rfl
/-- The same, of a block. -/
theorem HS.fixB {B : Bas} {S : Mem} {w : World} {L : List Res} (H : HS B S w L) {k b : Nat} {cs : List Value} {T : TypeId} (hk : lkR L k = some (.blk b cs T)) :
    ∃ S', Mem.le S S' ∧ S' b = some (.cells cs.toArray T (0, 0)) ∧ HS B S' w (rmR L k) :=
  H.fix hk (b := b) rfl (H.own k _ hk)

/-- A piece of a slice. -/
def subN : Value → Nat → Nat → Nat → Value
  | .slice a _ c, sz, lo, hi => .slice (if c = lo then a else a.map (·.add (lo * sz))) (hi - lo) (c - lo)
  | v, _, _, _ => v
theorem piece_piece (l : List Value) (o n p m : Nat) (h : p + m ≤ n) : piece (piece l o n) p m = piece l (o + p) m := by
  simp only [piece_eq]
  rw [List.drop_take, List.take_take, List.drop_drop]
  congr 1
  omega
theorem SlS.sub {S : Mem} {v : Value} {n sz : Nat} {cs : List Value} (h : SlS S v n sz cs) {lo hi : Nat} (h1 : lo ≤ hi) (h2 : hi ≤ n) : SlS S (subN v sz lo hi) (hi - lo) sz (piece cs (lo * sz) ((hi - lo) * sz)) := by
  rcases h with ⟨rfl, rfl, rfl⟩ | ⟨b, o, c, ds, T, fz, rfl, h3, h4, h5, rfl⟩
  · obtain rfl : hi = 0 := by omega
    obtain rfl : lo = 0 := by omega
    exact .inl ⟨rfl, rfl, by simp [piece]⟩
  · have hm : lo * sz + (hi - lo) * sz ≤ n * sz := by rw [← Nat.add_mul]; exact Nat.mul_le_mul_right sz (by omega)
    by_cases hc : c = lo
    · obtain rfl : hi = lo := by omega
      refine .inr ⟨b, o, c - hi, ds, T, fz, ?_, by omega, h4, by simp; omega, ?_⟩
      · simp [subN, sl, hc]
      · simp [piece]
    · refine .inr ⟨b, o + lo * sz, c - lo, ds, T, fz, ?_, by omega, h4, by omega, ?_⟩
      · simp [subN, sl, hc, add_addr]
      · rw [piece_piece _ _ _ _ _ hm]
/-- What a block holds from a place on. -/
def CellAt (S : Mem) (b o : Nat) (c : List Value) : Prop := ∃ ds T fz, S b = some (.cells ds.toArray T fz) ∧ o + c.length ≤ ds.length ∧ piece ds o c.length = c
theorem CellAt.mono {S T : Mem} {b o : Nat} {c : List Value} (h : CellAt S b o c) (hl : Mem.le S T) : CellAt T b o c := by
  obtain ⟨ds, E, fz, h1, h2⟩ := h
  exact ⟨ds, E, fz, hl _ _ h1, h2⟩
/-- The place of an element. -/
theorem SlS.at {S : Mem} {v : Value} {n sz i : Nat} {cs : List Value} (h : SlS S v n sz cs) (hi : i < n) : ∃ b o c, v = sl b o n c ∧ CellAt S b (o + i * sz) (piece cs (i * sz) sz) := by
  rcases h with ⟨rfl, rfl, rfl⟩ | ⟨b, o, c, ds, T, fz, rfl, h3, h4, h5, rfl⟩
  · omega
  · have hm : i * sz + sz ≤ n * sz := by
      have := Nat.mul_le_mul_right sz (show i + 1 ≤ n by omega)
      rw [Nat.add_mul, Nat.one_mul] at this
      exact this
    have hl : (piece (piece ds o (n * sz)) (i * sz) sz).length = sz := piece_len (by rw [piece_len h5]; exact hm)
    refine ⟨b, o, c, rfl, ds, T, fz, h4, by rw [hl]; omega, ?_⟩
    rw [hl, piece_piece _ _ _ _ _ hm]
end Go.Proofs.YtdomaggikbmooaaDoor
