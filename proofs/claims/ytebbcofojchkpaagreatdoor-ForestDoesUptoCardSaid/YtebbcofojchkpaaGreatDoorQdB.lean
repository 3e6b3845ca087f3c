/- Memory of a walk, the second way: a part S of the memory that is only read any more, and resources of the call's own. What walks compute: plain functions with values in Option, and how Go's values stand for Lean's. Steps of a walk over the memory of the second way. Steps of a walk over the memory of the second way: slices that grow, and new ones. Steps of a walk: going through a text rune by rune; pairs of texts held against each other. Steps of a walk: arrays in blocks, by a running index. Values of flat types held against each other: numbers, truths, texts, and structs and arrays of such. Conditions: as each theorem says. -/
import Derived.Lib.ConvBytes
import Derived.Lib.AppendStr
import Derived.Test.YtebbcofojchkpaaGreatDoorQdA
namespace Go.Proofs.YtebbcofojchkpaaGreatDoor
open Go Go.RowKit
section
abbrev Mem := Nat → Option Obj
def Mem.le (S T : Mem) : Prop := ∀ b o, S b = some o → T b = some o
theorem Mem.le_refl (S : Mem) : Mem.le S S := fun _ _ h => h
theorem Mem.le_trans {S T U : Mem} (h : Mem.le S T) (k : Mem.le T U) : Mem.le S U := fun b o e => k b o (h b o e)
def Sub (S : Mem) (w : World) : Prop := ∀ b o, S b = some o → w.heap[b]? = some o
theorem lt_of_heap {w : World} {b : Nat} {o : Obj} (h : w.heap[b]? = some o) : b < w.heap.size := zhX h
theorem Sub.lt {S : Mem} {w : World} (h : Sub S w) {b : Nat} {o : Obj} (hb : S b = some o) : b < w.heap.size := lt_of_heap (h b o hb)
theorem Sub.none {S : Mem} {w : World} (h : Sub S w) {b : Nat} (hb : w.heap.size ≤ b) : S b = none := by
 cases e : S b with
 | none => rfl
 | some o => have := h.lt e; omega
theorem Sub.ext {S : Mem} {w w' : World} (h : Sub S w) (hx : Ext w w') : Sub S w' := fun b o e => by
 rw [Below.block hx b (h.lt e)]; exact h b o e
def gr (S : Mem) (w w' : World) : Mem := fun b => if b < w.heap.size then S b else w'.heap[b]?
theorem yhS {S : Mem} {w w' : World} (h : Sub S w) : Mem.le S (gr S w w') := fun b o e => by
 unfold gr; rw [if_pos (h.lt e)]; exact e
theorem xeE {S : Mem} {w w' : World} (h : Sub S w) (hx : Ext w w') : Sub (gr S w w') w' := fun b o e => by
 unfold gr at e
 split at e
 ·exact h.ext hx b o e
 ·exact e
def gf (S : Mem) (W : World) (F : Nat → Bool) (w : World) : Mem := fun b => if b < W.heap.size then S b else if F b = true then w.heap[b]? else none
theorem gf_sub {S : Mem} {W w : World} {F : Nat → Bool} (h : Sub S W) (hx : Ext W w) : Sub (gf S W F w) w := fun b o e => by
 unfold gf at e
 split at e
 ·exact h.ext hx b o e
 ·split at e
  ·exact e
  ·cases e
theorem gf_le {S : Mem} {W w : World} {F : Nat → Bool} (h : Sub S W) : Mem.le S (gf S W F w) := fun b o e => by
 unfold gf; rw [if_pos (h.lt e)]; exact e
theorem gf_up {S : Mem} {W w : World} {F G : Nat → Bool} (hF : ∀ b, F b = true → G b = true) : Mem.le (gf S W F w) (gf S W G w) := fun b o e => by
 unfold gf at *
 split at e
 ·rename_i h; rw [if_pos h]; exact e
 ·rename_i h
  split at e
  ·rename_i h2; rw [if_neg h, if_pos (hF b h2)]; exact e
  ·cases e
def okfz (fz : Nat × Nat) (n : Nat) : Prop := fz = (0, 0) ∨ n ≤ fz.1
inductive R0 where
 | blk (b : Nat) (cs : LV) (T : TypeId)
 | obj (b : Nat) (o : Obj)
 | osl (v : Value) (n sz : Nat) (cs rs : LV) (T : TypeId)
inductive Res where
 /-- a block -/
 | blk (b : Nat) (cs : LV) (T : TypeId)
 /-- an object of another kind -/
 | obj (b : Nat) (o : Obj)
 /-- a slice from a block's head on, and what lies behind its end: n elements of sz cells; or the nil one -/
 | osl (v : Value) (n sz : Nat) (cs rs : LV) (T : TypeId)
 /-- many of them -/
 | many (rs : List R0)
def R0.up : R0 → Res
 | .blk b cs T => .blk b cs T
 | .obj b o => .obj b o
 | .osl v n sz cs rs T => .osl v n sz cs rs T
def vkey : Value → Option Nat
 | .slice (some a) _ _ => some a.block
 | _ => none
def R0.key : R0 → Option Nat
 | .blk b _ _ => some b
 | .obj b _ => some b
 | .osl v _ _ _ _ _ => vkey v
def R0.holds (w : World) : R0 → Prop
 | .blk b cs T => w.heap[b]? = some (.cells cs.toArray T (0, 0))
 | .obj b o => w.heap[b]? = some o
 | .osl v n sz cs rs T => (v = .slice none 0 0 ∧ n = 0 ∧ cs = [] ∧ rs = []) ∨
   ∃ b c fz, v = sl b 0 n c ∧ n ≤ c ∧ cs.length = n * sz ∧ c * sz ≤ (cs ++ rs).length ∧ w.heap[b]? = some (.cells (cs ++ rs).toArray T fz) ∧ okfz fz (cs ++ rs).length
def R0.apart (rs : List R0) : Prop := rs.Pairwise fun p q => ∀ b, p.key = some b → q.key ≠ some b
def Res.holds (w : World) : Res → Prop
 | .blk b cs T => w.heap[b]? = some (.cells cs.toArray T (0, 0))
 | .obj b o => w.heap[b]? = some o
 | .osl v n sz cs rs T => (v = .slice none 0 0 ∧ n = 0 ∧ cs = [] ∧ rs = []) ∨
   ∃ b c fz, v = sl b 0 n c ∧ n ≤ c ∧ cs.length = n * sz ∧ c * sz ≤ (cs ++ rs).length ∧ w.heap[b]? = some (.cells (cs ++ rs).toArray T fz) ∧ okfz fz (cs ++ rs).length
 | .many rs => (∀ q ∈ rs, q.holds w) ∧ R0.apart rs
def Res.has : Res → Nat → Prop
 | .blk b _ _, i => some b = some i
 | .obj b _, i => some b = some i
 | .osl v _ _ _ _ _, i => vkey v = some i
 | .many rs, i => ∃ q ∈ rs, q.key = some i
def Res.keys : Res → List Nat
 | .blk b _ _ => [b]
 | .obj b _ => [b]
 | .osl v _ _ _ _ _ => match vkey v with
  | some b => [b]
  | none => []
 | .many rs => rs.filterMap R0.key
theorem Res.mem_keys {r : Res} {b : Nat} : b ∈ r.keys ↔ r.has b := by
 cases r with
 | blk b' cs T => simp only [Res.keys, Res.has, List.mem_singleton, Option.some.injEq]; exact eq_comm
 | obj b' o => simp only [Res.keys, Res.has, List.mem_singleton, Option.some.injEq]; exact eq_comm
 | osl v n sz cs rs T =>
  simp only [Res.keys, Res.has]
  cases vkey v with
  | none => simp
  | some c => simp only [List.mem_singleton, Option.some.injEq]; exact eq_comm
 | many rs => simp only [Res.keys, Res.has, List.mem_filterMap]
theorem R0.key_lt {w : World} {r : R0} {b : Nat} (h : r.holds w) (hk : r.key = some b) : b < w.heap.size := by
 cases r with
 | blk b' cs T => cases hk; exact lt_of_heap h
 | obj b' o => cases hk; exact lt_of_heap h
 | osl v n sz cs rs T =>
  rcases h with ⟨rfl, _⟩ | ⟨b', c, fz, rfl, _, _, _, hh, _⟩
  ·cases hk
  ·cases hk; exact lt_of_heap hh
theorem R0.holds_of {w w' : World} {r : R0} (h : r.holds w) (hk : ∀ b, r.key = some b → w'.heap[b]? = w.heap[b]?) : r.holds w' := by
 cases r with
 | blk b' cs T => show w'.heap[b']? = _; rw [hk b' rfl]; exact h
 | obj b' o => show w'.heap[b']? = _; rw [hk b' rfl]; exact h
 | osl v n sz cs rs T =>
  rcases h with h | ⟨b', c, fz, rfl, h1, h2, h3, hh, hf⟩
  ·exact .inl h
  ·exact .inr ⟨b', c, fz, rfl, h1, h2, h3, by rw [hk b' rfl]; exact hh, hf⟩
theorem Res.key_lt {w : World} {r : Res} {b : Nat} (h : r.holds w) (hk : r.has b) : b < w.heap.size := by
 cases r with
 | blk b' cs T => cases hk; exact lt_of_heap h
 | obj b' o => cases hk; exact lt_of_heap h
 | osl v n sz cs rs T =>
  rcases h with ⟨rfl, _⟩ | ⟨b', c, fz, rfl, _, _, _, hh, _⟩
  ·cases hk
  ·cases hk; exact lt_of_heap hh
 | many rs => obtain ⟨q, hq, hk⟩ := hk; exact R0.key_lt (h.1 q hq) hk
theorem Res.holds_of {w w' : World} {r : Res} (h : r.holds w) (hk : ∀ b, r.has b → w'.heap[b]? = w.heap[b]?) : r.holds w' := by
 cases r with
 | blk b' cs T => show w'.heap[b']? = _; rw [hk b' rfl]; exact h
 | obj b' o => show w'.heap[b']? = _; rw [hk b' rfl]; exact h
 | osl v n sz cs rs T =>
  rcases h with h | ⟨b', c, fz, rfl, h1, h2, h3, hh, hf⟩
  ·exact .inl h
  ·exact .inr ⟨b', c, fz, rfl, h1, h2, h3, by rw [hk b' rfl]; exact hh, hf⟩
 | many rs => exact ⟨fun q hq => R0.holds_of (h.1 q hq) fun b hb => hk b ⟨q, hq, hb⟩, h.2⟩
theorem R0.up_has {q : R0} {b : Nat} : q.up.has b ↔ q.key = some b := by cases q <;> exact Iff.rfl
structure Fr (X : List Nat) (w0 w : World) : Prop where
 os : w.os = w0.os
 tape : w.tape = w0.tape
 output : w.output = w0.output
 size : w0.heap.size ≤ w.heap.size
 block : ∀ k, k < w0.heap.size → k ∉ X → w.heap[k]? = w0.heap[k]?
theorem Fr.refl (X : List Nat) (w : World) : Fr X w w := ⟨rfl, rfl, rfl, Nat.le_refl _, fun _ _ _ => rfl⟩
theorem Fr.ext {w0 w : World} (h : Fr [] w0 w) : Ext w0 w := ⟨h.os, h.tape, h.output, h.size, fun k hk => h.block k hk (by simp)⟩
theorem Fr.of {w0 w : World} (h : Ext w0 w) : Fr [] w0 w := ⟨h.os, h.tape, h.output, h.size, fun k hk _ => h.block k hk⟩
structure Bas where
 S0 : Mem
 X : List Nat
 w0 : World
def lkR : List Res → Nat → Option Res
 | [], _ => none
 | e :: _, 0 => some e
 | _ :: l, k + 1 => lkR l k
def stR : List Res → Nat → Res → List Res
 | [], _, _ => []
 | _ :: l, 0, e => e :: l
 | x :: l, k + 1, e => x :: stR l k e
def rmR : List Res → Nat → List Res
 | [], _ => []
 | _ :: l, 0 => l
 | x :: l, k + 1 => x :: rmR l k
theorem zaL : ∀ (l : List Res) (k : Nat), lkR l k = l[k]?
 | [], _ => by simp [lkR]
 | _ :: _, 0 => by simp [lkR]
 | _ :: l, k + 1 => by simp [lkR, zaL l k]
theorem znG {e : Res} : ∀ {l : List Res} {k : Nat} {x : Res}, lkR l k = some x → lkR (stR l k e) k = some e
 | [], _, _, h => by cases h
 | _ :: _, 0, _, _ => rfl
 | _ :: l, k + 1, _, h => znG (l := l) (k := k) h
theorem zcI {e : Res} : ∀ {l : List Res} {k j : Nat}, j ≠ k → lkR (stR l k e) j = lkR l j
 | [], _, _, _ => rfl
 | _ :: _, 0, 0, h => absurd rfl h
 | _ :: _, 0, _ + 1, _ => rfl
 | _ :: _, _ + 1, 0, _ => rfl
 | _ :: l, k + 1, j + 1, h => zcI (l := l) (by omega)
theorem yaE : ∀ {l : List Res} {k j : Nat}, lkR (rmR l k) j = if j < k then lkR l j else lkR l (j + 1)
 | [], _, _ => by simp [rmR, lkR]
 | _ :: l, 0, j => by simp [rmR, lkR]
 | _ :: l, k + 1, 0 => by simp [rmR, lkR]
 | _ :: l, k + 1, j + 1 => by simp [rmR, lkR, yaE (l := l) (k := k) (j := j)]
structure HS (B : Bas) (S : Mem) (w : World) (L : List Res) : Prop where
 fr : Fr B.X B.w0 w
 sub : Sub S w
 keep : ∀ b, b < B.w0.heap.size → b ∉ B.X → S b = B.S0 b
 own : ∀ k r, lkR L k = some r → r.holds w
 old : ∀ k r b, lkR L k = some r → r.has b → (B.w0.heap.size ≤ b ∨ b ∈ B.X) ∧ S b = none
 inj : ∀ i j r s b, lkR L i = some r → lkR L j = some s → r.has b → s.has b → i = j
theorem HS.start {S : Mem} {w : World} (h : Sub S w) : HS ⟨S, [], w⟩ S w [] :=
 ⟨Fr.refl _ _, h, fun _ _ _ => rfl, fun _ _ h => by simp [lkR] at h, fun _ _ _ h => by simp [lkR] at h, fun _ _ _ _ _ h => by simp [lkR] at h⟩
theorem HS.toExt {S0 S : Mem} {w0 w : World} {L : List Res} (H : HS ⟨S0, [], w0⟩ S w L) : Ext w0 w := H.fr.ext
theorem HS.gr {S0 S : Mem} {w0 w : World} {L : List Res} (H : HS ⟨S0, [], w0⟩ S w L) : Mem.le S (gr S0 w0 w) := fun b o e => by
 unfold Go.Proofs.YtebbcofojchkpaaGreatDoor.gr
 by_cases h : b < w0.heap.size
 ·rw [if_pos h]; have h2 : S b = S0 b := H.keep b h (by simp); rw [← h2]; exact e
 ·rw [if_neg h]; exact H.sub b o e
section
variable {B : Bas} {S S' : Mem} {w w' : World} {L : List Res}
theorem HS.res_lt (H : HS B S w L) {k b : Nat} {r : Res} (hk : lkR L k = some r) (hb : r.has b) : b < w.heap.size := Res.key_lt (H.own k r hk) hb
theorem Fr.more {X : List Nat} {a b c : World} (h : Fr X a b) (k : Ext b c) : Fr X a c :=
 ⟨k.os.trans h.os, k.tape.trans h.tape, k.output.trans h.output, Nat.le_trans h.size k.size, fun i hi hx => (k.block i (Nat.lt_of_lt_of_le hi h.size)).trans (h.block i hi hx)⟩
theorem HS.ext (H : HS B S w L) (hx : Ext w w') : HS B S w' L :=
 ⟨H.fr.more hx, H.sub.ext hx, H.keep, fun k r hk => Res.holds_of (H.own k r hk) fun b hb => hx.block b (H.res_lt hk hb), H.old, H.inj⟩
theorem HS.call (H : HS B S w L) (hx : Ext w w') : HS B (Go.Proofs.YtebbcofojchkpaaGreatDoor.gr S w w') w' L :=
 ⟨H.fr.more hx, xeE H.sub hx, fun b hb hx => by
   unfold Go.Proofs.YtebbcofojchkpaaGreatDoor.gr; rw [if_pos (Nat.lt_of_lt_of_le hb H.fr.size)]; exact H.keep b hb hx,
  fun k r hk => Res.holds_of (H.own k r hk) fun b hb => hx.block b (H.res_lt hk hb),
  fun k r b hk hb => ⟨(H.old k r b hk hb).1, by unfold Go.Proofs.YtebbcofojchkpaaGreatDoor.gr; rw [if_pos (H.res_lt hk hb)]; exact (H.old k r b hk hb).2⟩, H.inj⟩
theorem HS.callF {F : Nat → Bool} (H : HS B S w L) (hx : Ext w w') : HS B (Go.Proofs.YtebbcofojchkpaaGreatDoor.gf S w F w') w' L :=
 ⟨H.fr.more hx, gf_sub H.sub hx, fun b hb hx => by
   unfold Go.Proofs.YtebbcofojchkpaaGreatDoor.gf; rw [if_pos (Nat.lt_of_lt_of_le hb H.fr.size)]; exact H.keep b hb hx,
  fun k r hk => Res.holds_of (H.own k r hk) fun b hb => hx.block b (H.res_lt hk hb),
  fun k r b hk hb => ⟨(H.old k r b hk hb).1, by unfold Go.Proofs.YtebbcofojchkpaaGreatDoor.gf; rw [if_pos (H.res_lt hk hb)]; exact (H.old k r b hk hb).2⟩, H.inj⟩
theorem HS.drew (H : HS B S w L) : HS B S w.drew L := H.ext (Ext.drew w)
theorem HS.push (H : HS B S w L) (hx : Ext w w') {r : Res} (hr : r.holds w') (hn : ∀ b, r.has b → w.heap.size ≤ b) : HS B S w' (r :: L) := by
 have H' := H.ext hx
 refine ⟨H'.fr, H'.sub, H'.keep, ?_, ?_, ?_⟩
 ·intro k s hk
  cases k with
  | zero => cases hk; exact hr
  | succ k => exact H'.own k s hk
 ·intro k s b hk hb
  cases k with
  | zero => cases hk; exact ⟨.inl (Nat.le_trans H.fr.size (hn b hb)), H.sub.none (hn b hb)⟩
  | succ k => exact H.old k s b hk hb
 ·intro i j s t b hi hj h1 h2
  cases i with
  | zero =>
   cases j with
   | zero => rfl
   | succ j => cases hi; have a1 := hn b h1; have a2 := H.res_lt hj h2; omega
  | succ i =>
   cases j with
   | zero => cases hj; have a1 := hn b h2; have a2 := H.res_lt hi h1; omega
   | succ j => rw [H.inj i j s t b hi hj h1 h2]
theorem HS.upd (H : HS B S w L) {k : Nat} {r r' : Res} (hk : lkR L k = some r) (hsz : w.heap.size ≤ w'.heap.size) (hos : w'.os = w.os) (htp : w'.tape = w.tape) (hop : w'.output = w.output)
  (hb : ∀ i, i < w.heap.size → ¬ r.has i → w'.heap[i]? = w.heap[i]?) (hr : r'.holds w') (hkey : ∀ b, r'.has b → r.has b ∨ w.heap.size ≤ b) : HS B S w' (stR L k r') := by
 refine ⟨⟨hos.trans H.fr.os, htp.trans H.fr.tape, hop.trans H.fr.output, Nat.le_trans H.fr.size hsz, ?_⟩, ?_, H.keep, ?_, ?_, ?_⟩
 ·intro i hi hx
  rw [hb i (Nat.lt_of_lt_of_le hi H.fr.size) (fun e => ?_)]
  ·exact H.fr.block i hi hx
  ·rcases (H.old k r i hk e).1 with h | h
   ·omega
   ·exact hx h
 ·intro b o e
  rw [hb b (H.sub.lt e) (fun e2 => ?_)]
  ·exact H.sub b o e
  ·rw [(H.old k r b hk e2).2] at e; cases e
 ·intro j s hj
  by_cases hjk : j = k
  ·subst hjk; rw [znG hk] at hj; cases hj; exact hr
  ·rw [zcI hjk] at hj
   exact Res.holds_of (H.own j s hj) fun b hbs => hb b (H.res_lt hj hbs) fun e => hjk (H.inj j k s r b hj hk hbs e)
 ·intro j s b hj hbs
  by_cases hjk : j = k
  ·subst hjk; rw [znG hk] at hj; cases hj
   rcases hkey b hbs with h | h
   ·exact H.old j r b hk h
   ·exact ⟨.inl (Nat.le_trans H.fr.size h), H.sub.none h⟩
  ·rw [zcI hjk] at hj; exact H.old j s b hj hbs
 ·intro i j s t b hi hj h1 h2
  by_cases hik : i = k
  ·by_cases hjk : j = k
   ·omega
   ·subst hik
    rw [znG hk] at hi; cases hi
    rw [zcI hjk] at hj
    rcases hkey b h1 with h | h
    ·exact absurd (H.inj j i t r b hj hk h2 h) hjk
    ·have := H.res_lt hj h2; omega
  ·rw [zcI hik] at hi
   by_cases hjk : j = k
   ·subst hjk
    rw [znG hk] at hj; cases hj
    rcases hkey b h2 with h | h
    ·exact absurd (H.inj i j s r b hi hk h1 h) hik
    ·have := H.res_lt hi h1; omega
   ·rw [zcI hjk] at hj; exact H.inj i j s t b hi hj h1 h2
theorem HS.rm (H : HS B S w L) (k : Nat) : HS B S w (rmR L k) := by
 refine ⟨H.fr, H.sub, H.keep, fun j r hj => ?_, fun j r b hj => ?_, fun i j r s b hi hj h1 h2 => ?_⟩
 ·rw [yaE] at hj; split at hj
  ·exact H.own _ _ hj
  ·exact H.own _ _ hj
 ·rw [yaE] at hj; split at hj
  ·exact H.old _ _ _ hj
  ·exact H.old _ _ _ hj
 ·rw [yaE] at hi hj
  split at hi <;> split at hj <;> have := H.inj _ _ _ _ _ hi hj h1 h2 <;> omega
def selR (L : List Res) : List Nat → List Res
 | [] => []
 | j :: js => match lkR L j with
  | some r => r :: selR L js
  | none => selR L js
def zxU (L : List Res) : List Nat → Bool
 | [] => true
 | j :: js => Nat.blt j L.length && !(js.any (Nat.beq j)) && zxU L js
theorem lkR_lt {l : List Res} {k : Nat} : k < l.length → ∃ r, lkR l k = some r := fun h => ⟨l[k], by rw [zaL]; simp [h]⟩
theorem zsA {L : List Res} : ∀ {js : List Nat}, zxU L js = true → ∀ {i : Nat} {r : Res}, lkR (selR L js) i = some r → ∃ j, js[i]? = some j ∧ lkR L j = some r
 | [], _, i, r, h => by simp [selR, lkR] at h
 | j :: js, hok, i, r, h => by
  simp only [zxU, Bool.and_eq_true] at hok
  have hj : j < L.length := by have := hok.1.1; rw [zkS] at this; simpa using this
  obtain ⟨x, hx⟩ := lkR_lt hj
  simp only [selR, hx] at h
  cases i with
  | zero => simp only [lkR, Option.some.injEq] at h; subst h; exact ⟨j, rfl, hx⟩
  | succ i =>
   simp only [lkR] at h
   obtain ⟨j', h1, h2⟩ := zsA hok.2 h
   exact ⟨j', by simpa using h1, h2⟩
theorem yaG {L : List Res} : ∀ {js : List Nat}, zxU L js = true → ∀ {i k j : Nat}, js[i]? = some j → js[k]? = some j → i = k
 | [], _, i, k, j, h, _ => by simp at h
 | x :: js, hok, i, k, j, hi, hk => by
  simp only [zxU, Bool.and_eq_true, Bool.not_eq_true'] at hok
  have hx : ∀ y ∈ js, y ≠ x := fun y hy e => by
   have := List.any_eq_false.1 hok.1.2 y hy
   subst e; simp at this
  cases i with
  | zero =>
   cases k with
   | zero => rfl
   | succ k => simp at hi hk; subst hi; exact absurd rfl (hx _ (List.mem_of_getElem? hk))
  | succ i =>
   cases k with
   | zero => simp at hi hk; subst hk; exact absurd rfl (hx _ (List.mem_of_getElem? hi))
   | succ k => rw [yaG hok.2 (i := i) (k := k) (by simpa using hi) (by simpa using hk)]
theorem HS.sel (H : HS B S w L) (js : List Nat) (hok : zxU L js = true) : HS B S w (selR L js) := by
 refine ⟨H.fr, H.sub, H.keep, fun i r hi => ?_, fun i r b hi hb => ?_, fun i k r s b hi hk h1 h2 => ?_⟩
 ·obtain ⟨j, _, h⟩ := zsA hok hi; exact H.own j r h
 ·obtain ⟨j, _, h⟩ := zsA hok hi; exact H.old j r b h hb
 ·obtain ⟨j, e1, g1⟩ := zsA hok hi
  obtain ⟨j', e2, g2⟩ := zsA hok hk
  obtain rfl := H.inj j j' r s b g1 g2 h1 h2
  exact yaG hok e1 e2
def zcA : List Res → List Nat
 | [] => []
 | r :: l => r.keys ++ zcA l
theorem zdP {b : Nat} : ∀ {l : List Res}, b ∈ zcA l ↔ ∃ k r, lkR l k = some r ∧ r.has b
 | [] => by simp [zcA, lkR]
 | x :: l => by
  have ih := zdP (b := b) (l := l)
  unfold zcA
  rw [List.mem_append, Res.mem_keys]
  constructor
  ·rintro (h | h)
   ·exact ⟨0, x, rfl, h⟩
   ·obtain ⟨k, r, h1, h2⟩ := ih.1 h; exact ⟨k + 1, r, h1, h2⟩
  ·rintro ⟨k, r, h1, h2⟩
   cases k with
   | zero => simp only [lkR, Option.some.injEq] at h1; subst h1; exact .inl h2
   | succ k => exact .inr (ih.2 ⟨k, r, h1, h2⟩)
theorem HS.adopt (H : HS B S w L) {b : Nat} {l : LV} {T : TypeId} (hb : B.w0.heap.size ≤ b) (hS : S b = none) (hh : w.heap[b]? = some (.cells l.toArray T (0, 0))) (hn : ∀ c ∈ zcA L, c ≠ b) : HS B S w (.blk b l T :: L) := by
 refine ⟨H.fr, H.sub, H.keep, ?_, ?_, ?_⟩
 ·intro k s hk
  cases k with
  | zero => cases hk; exact hh
  | succ k => exact H.own k s hk
 ·intro k s c hk hc
  cases k with
  | zero => cases hk; cases hc; exact ⟨.inl hb, hS⟩
  | succ k => exact H.old k s c hk hc
 ·intro i j s t c hi hj h1 h2
  cases i with
  | zero =>
   cases j with
   | zero => rfl
   | succ j => cases hi; cases h1; exact absurd rfl (hn b (zdP.2 ⟨j, t, hj, h2⟩))
  | succ i =>
   cases j with
   | zero => cases hj; cases h2; exact absurd rfl (hn b (zdP.2 ⟨i, s, hi, h1⟩))
   | succ j => rw [H.inj i j s t c hi hj h1 h2]
theorem HS.hand (H : HS B S w L) (js : List Nat) (hok : zxU L js = true) : HS ⟨S, zcA (selR L js), w⟩ S w (selR L js) := by
 have h := H.sel js hok
 exact ⟨Fr.refl _ _, h.sub, fun _ _ _ => rfl, h.own, fun k r b hk hb => ⟨.inr (zdP.2 ⟨k, r, hk, hb⟩), (h.old k r b hk hb).2⟩, h.inj⟩
theorem HS.frame {S' : Mem} {N : List Res} (H : HS B S w L) (js ks : List Nat) (hok : zxU L (js ++ ks) = true) (H' : HS ⟨S, zcA (selR L js), w⟩ S' w' N) : HS B S' w' (N ++ selR L ks) ∧ Mem.le S S' := by
 have hokj : zxU L js = true := by
  clear H'
  induction js with
  | nil => rfl
  | cons j js ih =>
   simp only [List.cons_append, zxU, Bool.and_eq_true, Bool.not_eq_true', List.any_append, Bool.or_eq_false_iff] at hok ⊢
   exact ⟨⟨hok.1.1, hok.1.2.1⟩, ih hok.2⟩
 have hokk : zxU L ks = true := by
  clear H' hokj
  induction js with
  | nil => exact hok
  | cons j js ih =>
   simp only [List.cons_append, zxU, Bool.and_eq_true] at hok
   exact ih hok.2
 have apart : ∀ {i k j : Nat}, js[i]? = some j → ks[k]? = some j → False := fun {i k j} hi hk => by
  have h1 : (js ++ ks)[i]? = some j := by rw [List.getElem?_append_left (List.getElem?_eq_some_iff.1 hi).1]; exact hi
  have h2 : (js ++ ks)[js.length + k]? = some j := by rw [List.getElem?_append_right (by omega)]; simpa using hk
  have := yaG hok h1 h2
  have := (List.getElem?_eq_some_iff.1 hi).1
  omega
 have hfr := H'.fr
 have nokey : ∀ b, S b ≠ none → b ∉ zcA (selR L js) := fun b hb hm => by
  obtain ⟨i, s, h1, h2⟩ := zdP.1 hm
  obtain ⟨j', _, h'⟩ := zsA hokj h1
  exact hb (H.old j' s b h' h2).2
 have hle : Mem.le S S' := fun b o e => by rw [H'.keep b (H.sub.lt e) (nokey b (by rw [e]; simp))]; exact e
 -- a resource that stays
 have stay : ∀ {k : Nat} {r : Res}, lkR (selR L ks) k = some r → ∃ j, lkR L j = some r ∧ ∀ b, r.has b → b < w.heap.size ∧ b ∉ zcA (selR L js) := fun {k r} hk => by
  obtain ⟨j, e, h⟩ := zsA hokk hk
  refine ⟨j, h, fun b hb => ⟨H.res_lt h hb, fun hm => ?_⟩⟩
  obtain ⟨i, s, h1, h2⟩ := zdP.1 hm
  obtain ⟨j', e', h'⟩ := zsA hokj h1
  obtain rfl := H.inj j j' r s b h h' hb h2
  exact apart e' e
 have gone : ∀ {b : Nat}, b ∈ zcA (selR L js) → B.w0.heap.size ≤ b ∨ b ∈ B.X := fun {b} hm => by
  obtain ⟨i, s, h1, h2⟩ := zdP.1 hm
  obtain ⟨j', _, h'⟩ := zsA hokj h1
  exact (H.old j' s b h' h2).1
 have lkA : ∀ k, lkR (N ++ selR L ks) k = if k < N.length then lkR N k else lkR (selR L ks) (k - N.length) := fun k => by
  rw [zaL, zaL, zaL, List.getElem?_append]
 refine ⟨⟨⟨hfr.os.trans H.fr.os, hfr.tape.trans H.fr.tape, hfr.output.trans H.fr.output, Nat.le_trans H.fr.size hfr.size, fun i hi hx => ?_⟩, H'.sub, fun b hb hbx => ?_, fun k r hk => ?_, fun k r b hk hb => ?_, fun i j r s b hi hj h1 h2 => ?_⟩, hle⟩
 ·rw [hfr.block i (Nat.lt_of_lt_of_le hi H.fr.size) (fun hm => ?_)]
  ·exact H.fr.block i hi hx
  ·rcases gone hm with h | h
   ·omega
   ·exact hx h
 ·rw [H'.keep b (Nat.lt_of_lt_of_le hb H.fr.size) (fun hm => ?_)]
  ·exact H.keep b hb hbx
  ·rcases gone hm with h | h
   ·omega
   ·exact hbx h
 ·rw [lkA] at hk
  split at hk
  ·exact H'.own k r hk
  ·obtain ⟨j, h, hs⟩ := stay hk
   exact Res.holds_of (H.own j r h) fun b hb => hfr.block b (hs b hb).1 (hs b hb).2
 ·rw [lkA] at hk
  split at hk
  ·have h := H'.old k r b hk hb
   refine ⟨?_, h.2⟩
   rcases h.1 with h1 | h1
   ·exact .inl (Nat.le_trans H.fr.size h1)
   ·exact gone h1
  ·obtain ⟨j, h, hs⟩ := stay hk
   exact ⟨(H.old j r b h hb).1, by rw [H'.keep b (hs b hb).1 (hs b hb).2]; exact (H.old j r b h hb).2⟩
 ·rw [lkA] at hi hj
  split at hi <;> split at hj
  ·exact H'.inj i j r s b hi hj h1 h2
  ·obtain ⟨j', h, hs⟩ := stay hj
   rcases (H'.old i r b hi h1).1 with g | g
   ·have := (hs b h2).1; have g' : w.heap.size ≤ b := g; omega
   ·exact absurd g (hs b h2).2
  ·obtain ⟨j', h, hs⟩ := stay hi
   rcases (H'.old j s b hj h2).1 with g | g
   ·have := (hs b h1).1; have g' : w.heap.size ≤ b := g; omega
   ·exact absurd g (hs b h1).2
  ·have := (H.sel ks hokk).inj _ _ r s b hi hj h1 h2
   omega
theorem HS.fix (H : HS B S w L) {k : Nat} {r : Res} (hk : lkR L k = some r) {b : Nat} {o : Obj} (hb : r.has b) (ho : w.heap[b]? = some o) : ∃ S', Mem.le S S' ∧ S' b = some o ∧ HS B S' w (rmR L k) := by
 refine ⟨fun i => if i = b then some o else S i, fun i p e => ?_, by simp, ?_⟩
 ·by_cases h : i = b
  ·subst h; rw [(H.old k r i hk hb).2] at e; cases e
  ·simp [h, e]
 ·have h' := H.rm k
  have hold := (H.old k r b hk hb).1
  refine ⟨h'.fr, fun i p e => ?_, fun i hi hx => ?_, h'.own, fun j s i hj hs => ?_, h'.inj⟩
  ·by_cases h : i = b
   ·subst h; simp at e; subst e; exact ho
   ·simp [h] at e; exact H.sub i p e
  ·have : i ≠ b := fun e => by
    subst e
    rcases hold with h | h
    ·omega
    ·exact hx h
   simp [this, H.keep i hi hx]
  ·have h1 := h'.old j s i hj hs
   refine ⟨h1.1, ?_⟩
   have : i ≠ b := fun e => by
    subst e
    rw [yaE] at hj
    split at hj <;> have := H.inj _ _ _ _ _ hj hk hs hb <;> omega
   simp [this, h1.2]
end
def SlS (S : Mem) (v : Value) (n sz : Nat) (cs : LV) : Prop :=
 ((∃ a, v = .slice a 0 0) ∧ n = 0 ∧ cs = []) ∨ ∃ b o c ds T fz, v = sl b o n c ∧ n ≤ c ∧ S b = some (.cells ds.toArray T fz) ∧ o + n * sz ≤ ds.length ∧ piece ds o (n * sz) = cs
theorem SlS.mono {S T : Mem} {v : Value} {n sz : Nat} {cs : LV} (h : SlS S v n sz cs) (hl : Mem.le S T) : SlS T v n sz cs := by
 rcases h with h | ⟨b, o, c, ds, E, fz, h1, h2, h3, h4, h5⟩
 ·exact .inl h
 ·exact .inr ⟨b, o, c, ds, E, fz, h1, h2, hl _ _ h3, h4, h5⟩
def SlW (w : World) (v : Value) (n sz : Nat) (cs : LV) : Prop :=
 ((∃ a, v = .slice a 0 0) ∧ n = 0 ∧ cs = []) ∨ ∃ b o c ds T fz, v = sl b o n c ∧ n ≤ c ∧ w.heap[b]? = some (.cells ds.toArray T fz) ∧ o + n * sz ≤ ds.length ∧ piece ds o (n * sz) = cs
theorem SlS.w {S : Mem} {w : World} {v : Value} {n sz : Nat} {cs : LV} (h : SlS S v n sz cs) (hs : Sub S w) : SlW w v n sz cs := by
 rcases h with h | ⟨b, o, c, ds, E, fz, h1, h2, h3, h4, h5⟩
 ·exact .inl h
 ·exact .inr ⟨b, o, c, ds, E, fz, h1, h2, hs _ _ h3, h4, h5⟩
theorem zjD {l : LV} {o n : Nat} (h : o + n ≤ l.length) : (piece l o n).length = n := by rw [zaI]; simp; omega
theorem SlW.len {w : World} {v : Value} {n sz : Nat} {cs : LV} (h : SlW w v n sz cs) : cs.length = n * sz := by
 rcases h with ⟨_, rfl, rfl⟩ | ⟨b, o, c, ds, E, fz, h1, h2, h3, h4, rfl⟩
 ·simp
 ·exact zjD h4
theorem SlS.len {S : Mem} {v : Value} {n sz : Nat} {cs : LV} (h : SlS S v n sz cs) : cs.length = n * sz := by
 rcases h with ⟨_, rfl, rfl⟩ | ⟨b, o, c, ds, E, fz, h1, h2, h3, h4, rfl⟩
 ·simp
 ·exact zjD h4
theorem Res.slW {w : World} {v : Value} {n sz : Nat} {cs rs : LV} {T : TypeId} (h : (Res.osl v n sz cs rs T).holds w) : SlW w v n sz cs := by
 rcases h with ⟨h1, h2, h3, _⟩ | ⟨b, c, fz, rfl, h1, h2, h3, h4, _⟩
 ·exact .inl ⟨⟨_, h1⟩, h2, h3⟩
 ·refine .inr ⟨b, 0, c, cs ++ rs, T, fz, rfl, h1, h4, by simp; omega, ?_⟩
  rw [zaI, List.drop_zero, ← h2, List.take_left']
  rfl
theorem SlS.nil (S : Mem) (sz : Nat) : SlS S (.slice none 0 0) 0 sz [] := .inl ⟨⟨_, rfl⟩, rfl, rfl⟩
theorem HS.slW {B : Bas} {S : Mem} {w : World} {L : List Res} (H : HS B S w L) {k : Nat} {v : Value} {n sz : Nat} {cs rs : LV} {T : TypeId} (hk : lkR L k = some (.osl v n sz cs rs T)) : SlW w v n sz cs := Res.slW (H.own k _ hk)
theorem HS.fixS {B : Bas} {S : Mem} {w : World} {L : List Res} (H : HS B S w L) {k : Nat} {v : Value} {n sz : Nat} {cs rs : LV} {T : TypeId} (hk : lkR L k = some (.osl v n sz cs rs T)) :
  ∃ S', Mem.le S S' ∧ SlS S' v n sz cs ∧ HS B S' w (rmR L k) := by
 have hh := H.own k _ hk
 rcases hh with ⟨h1, h2, h3, _⟩ | ⟨b, c, fz, rfl, h1, h2, h3, h4, _⟩
 ·exact ⟨S, Mem.le_refl S, .inl ⟨⟨_, h1⟩, h2, h3⟩, H.rm k⟩
 ·obtain ⟨S', hle, hb, H'⟩ := H.fix hk (b := b) rfl h4
  refine ⟨S', hle, .inr ⟨b, 0, c, cs ++ rs, T, fz, rfl, h1, hb, by simp; omega, ?_⟩, H'⟩
  rw [zaI, List.drop_zero, ← h2, List.take_left']
  rfl
def subN : Value → Nat → Nat → Nat → Value
 | .slice a _ c, sz, lo, hi => .slice (if c = lo then a else a.map (·.add (lo * sz))) (hi - lo) (c - lo)
 | v, _, _, _ => v
theorem zpS (l : LV) (o n p m : Nat) (h : p + m ≤ n) : piece (piece l o n) p m = piece l (o + p) m := by
 simp only [zaI]
 rw [List.drop_take, List.take_take, List.drop_drop]
 congr 1
 omega
theorem SlS.sub {S : Mem} {v : Value} {n sz : Nat} {cs : LV} (h : SlS S v n sz cs) {lo hi : Nat} (h1 : lo ≤ hi) (h2 : hi ≤ n) : SlS S (subN v sz lo hi) (hi - lo) sz (piece cs (lo * sz) ((hi - lo) * sz)) := by
 rcases h with ⟨⟨a, rfl⟩, rfl, rfl⟩ | ⟨b, o, c, ds, T, fz, rfl, h3, h4, h5, rfl⟩
 ·obtain rfl : hi = 0 := by omega
  obtain rfl : lo = 0 := by omega
  exact .inl ⟨⟨a, by simp [subN]⟩, rfl, by simp [piece]⟩
 ·have hm : lo * sz + (hi - lo) * sz ≤ n * sz := by rw [← Nat.add_mul]; exact Nat.mul_le_mul_right sz (by omega)
  by_cases hc : c = lo
  ·obtain rfl : hi = lo := by omega
   refine .inr ⟨b, o, c - hi, ds, T, fz, ?_, by omega, h4, by simp; omega, ?_⟩
   ·simp [subN, sl, hc]
   ·simp [piece]
  ·refine .inr ⟨b, o + lo * sz, c - lo, ds, T, fz, ?_, by omega, h4, by omega, ?_⟩
   ·simp [subN, sl, hc, zeD]
   ·rw [zpS _ _ _ _ _ hm]
def CellAt (S : Mem) (b o : Nat) (c : LV) : Prop := ∃ ds T fz, S b = some (.cells ds.toArray T fz) ∧ o + c.length ≤ ds.length ∧ piece ds o c.length = c
theorem CellAt.mono {S T : Mem} {b o : Nat} {c : LV} (h : CellAt S b o c) (hl : Mem.le S T) : CellAt T b o c := by
 obtain ⟨ds, E, fz, h1, h2⟩ := h
 exact ⟨ds, E, fz, hl _ _ h1, h2⟩
theorem SlS.at {S : Mem} {v : Value} {n sz i : Nat} {cs : LV} (h : SlS S v n sz cs) (hi : i < n) : ∃ b o c, v = sl b o n c ∧ CellAt S b (o + i * sz) (piece cs (i * sz) sz) := by
 rcases h with ⟨_, rfl, rfl⟩ | ⟨b, o, c, ds, T, fz, rfl, h3, h4, h5, rfl⟩
 ·omega
 ·have hm : i * sz + sz ≤ n * sz := by
   have := Nat.mul_le_mul_right sz (show i + 1 ≤ n by omega)
   rw [Nat.add_mul, Nat.one_mul] at this
   exact this
  have hl : (piece (piece ds o (n * sz)) (i * sz) sz).length = sz := zjD (by rw [zjD h5]; exact hm)
  refine ⟨b, o, c, rfl, ds, T, fz, h4, by rw [hl]; omega, ?_⟩
  rw [hl, zpS _ _ _ _ _ hm]
end
section
section
variable {α β γ σ : Type}
theorem bnd {o : Option α} {f : α → Option β} {r : β} (h : o.bind f = some r) : ∃ x, o = some x ∧ f x = some r := by
 cases o with
 | none => cases h
 | some x => exact ⟨x, rfl, h⟩
theorem cnd_t {c : Bool} {a b r : α} (h : (bif c then a else b) = r) (hc : c = true) : a = r := by subst hc; exact h
theorem cnd_f {c : Bool} {a b r : α} (h : (bif c then a else b) = r) (hc : c = false) : b = r := by subst hc; exact h
def jnO (o : α ⊕ β) (f : α → Option γ) (g : β → Option γ) : Option γ := match o with
 | .inl a => f a
 | .inr b => g b
def jn (o : Option (α ⊕ β)) (f : α → Option γ) (g : β → Option γ) : Option γ := o.bind fun o => jnO o f g
theorem ysW {o : Option (α ⊕ β)} {f : α → Option γ} {g : β → Option γ} {r : γ} (h : jn o f g = some r) : ∃ x, o = some x ∧ jnO x f g = some r := bnd h
def zqS (body : σ → Option (σ ⊕ β)) : Nat → σ → Option β
 | 0, _ => none
 | k + 1, s => jn (body s) (zqS body k) some
def FU : Nat := 1099511627776
def iter (body : σ → Option (σ ⊕ β)) (s : σ) : Option β := zqS body FU s
theorem zeE {body : σ → Option (σ ⊕ β)} {k : Nat} {s s' : σ} (h : body s = some (.inl s')) : zqS body (k + 1) s = zqS body k s' := by
 simp only [zqS, jn, h, Option.bind_some, jnO]
theorem zfM {body : σ → Option (σ ⊕ β)} {k : Nat} {s : σ} {b : β} (h : body s = some (.inr b)) : zqS body (k + 1) s = some b := by
 simp only [zqS, jn, h, Option.bind_some, jnO]
theorem ygQ {body : σ → Option (σ ⊕ β)} (I : σ → Prop) (m : σ → Nat) (G : β → Prop) (hr : ∀ s, I s → (∃ s', body s = some (.inl s') ∧ I s' ∧ m s' < m s) ∨ ∃ b, body s = some (.inr b) ∧ G b) :
  ∀ (k : Nat) (s : σ), I s → m s < k → ∃ b, zqS body k s = some b ∧ G b
 | 0, _, _, h => by omega
 | k + 1, s, hI, hk => by
  rcases hr s hI with ⟨s', h1, h2, h3⟩ | ⟨b, h1, h2⟩
  ·rw [zeE h1]; exact ygQ I m G hr k s' h2 (by omega)
  ·exact ⟨b, zfM h1, h2⟩
def idx (l : List α) (i : Int) : Option α := bif decide (i < 0) then none else l[i.toNat]?
theorem zqC {l : List α} {i : Int} {x : α} (h : idx l i = some x) : i = (i.toNat : Int) ∧ l[i.toNat]? = some x := by
 unfold idx at h
 by_cases hi : i < 0
 ·simp [hi] at h
 ·simp only [hi, decide_false, cond_false] at h; exact ⟨by omega, h⟩
theorem xcF {l : List α} (i : Nat) : idx l (i : Int) = l[i]? := by
 have h : ¬ ((i : Int) < 0) := by omega
 simp only [idx, h, decide_false, cond_false, Int.toNat_natCast]
def sub3 (l : List α) (lo hi : Int) : Option (List α) := bif decide (0 ≤ lo) && decide (lo ≤ hi) && decide (hi ≤ (l.length : Int)) then some ((l.take hi.toNat).drop lo.toNat) else none
theorem zzZ {l r : List α} {lo hi : Int} (h : sub3 l lo hi = some r) : lo = (lo.toNat : Int) ∧ hi = (hi.toNat : Int) ∧ lo.toNat ≤ hi.toNat ∧ hi.toNat ≤ l.length ∧ (l.take hi.toNat).drop lo.toNat = r := by
 unfold sub3 at h
 by_cases hc : decide (0 ≤ lo) && decide (lo ≤ hi) && decide (hi ≤ (l.length : Int))
 ·rw [hc] at h
  simp only [Bool.and_eq_true, decide_eq_true_eq] at hc
  simp only [cond_true, Option.some.injEq] at h
  exact ⟨by omega, by omega, by omega, by omega, h⟩
 ·simp only [Bool.not_eq_true] at hc; rw [hc] at h; cases h
def subL (l : List α) (lo : Int) : Option (List α) := bif decide (0 ≤ lo) && decide (lo ≤ (l.length : Int)) then some (l.drop lo.toNat) else none
theorem yaM {l r : List α} {lo : Int} (h : subL l lo = some r) : lo = (lo.toNat : Int) ∧ lo.toNat ≤ l.length ∧ l.drop lo.toNat = r := by
 unfold subL at h
 by_cases hc : decide (0 ≤ lo) && decide (lo ≤ (l.length : Int))
 ·rw [hc] at h
  simp only [Bool.and_eq_true, decide_eq_true_eq] at hc
  simp only [cond_true, Option.some.injEq] at h
  exact ⟨by omega, by omega, h⟩
 ·simp only [Bool.not_eq_true] at hc; rw [hc] at h; cases h
def subH (l : List α) (hi : Int) : Option (List α) := bif decide (0 ≤ hi) && decide (hi ≤ (l.length : Int)) then some (l.take hi.toNat) else none
theorem zrA {l r : List α} {hi : Int} (h : subH l hi = some r) : hi = (hi.toNat : Int) ∧ hi.toNat ≤ l.length ∧ l.take hi.toNat = r := by
 unfold subH at h
 by_cases hc : decide (0 ≤ hi) && decide (hi ≤ (l.length : Int))
 ·rw [hc] at h
  simp only [Bool.and_eq_true, decide_eq_true_eq] at hc
  simp only [cond_true, Option.some.injEq] at h
  exact ⟨by omega, by omega, h⟩
 ·simp only [Bool.not_eq_true] at hc; rw [hc] at h; cases h
theorem yhO {l : List α} {n : Nat} (h : n ≤ l.length) : subL l (n : Int) = some (l.drop n) := by
 unfold subL
 rw [show (decide (0 ≤ (n : Int)) && decide ((n : Int) ≤ (l.length : Int))) = true by simp; omega]; rfl
theorem yiY {l : List α} {n : Nat} (h : n ≤ l.length) : subH l (n : Int) = some (l.take n) := by
 unfold subH
 rw [show (decide (0 ≤ (n : Int)) && decide ((n : Int) ≤ (l.length : Int))) = true by simp; omega]; rfl
def LIM : Nat := 68719476736
def app (a b : List α) : Option (List α) := bif decide (a.length + b.length ≤ LIM) then some (a ++ b) else none
theorem zjZ {a b r : List α} (h : app a b = some r) : a.length + b.length ≤ 68719476736 ∧ a ++ b = r := by
 unfold app at h
 by_cases hc : a.length + b.length ≤ LIM
 ·simp only [hc, decide_true, cond_true, Option.some.injEq] at h; exact ⟨hc, h⟩
 ·simp only [hc, decide_false, cond_false] at h; cases h
theorem app_okO {a b : List α} (h : a.length + b.length ≤ 68719476736) : app a b = some (a ++ b) := by
 have h' : a.length + b.length ≤ LIM := h
 simp only [app, h', decide_true, cond_true]
def mkL (n : Int) (z : α) : Option (List α) := bif decide (0 ≤ n) && decide (n ≤ (LIM : Int)) then some (List.replicate n.toNat z) else none
theorem yuC {n : Int} {z : α} {r : List α} (h : mkL n z = some r) : 0 ≤ n ∧ n ≤ 68719476736 ∧ List.replicate n.toNat z = r := by
 unfold mkL at h
 by_cases hc : decide (0 ≤ n) && decide (n ≤ (LIM : Int))
 ·rw [hc] at h
  simp only [Bool.and_eq_true, decide_eq_true_eq] at hc
  simp only [cond_true, Option.some.injEq] at h
  exact ⟨hc.1, hc.2, h⟩
 ·simp only [Bool.not_eq_true] at hc; rw [hc] at h; cases h
def setL (l : List α) (i : Int) (x : α) : Option (List α) := bif decide (0 ≤ i) && decide (i < (l.length : Int)) then some (l.set i.toNat x) else none
theorem zuC {l r : List α} {i : Int} {x : α} (h : setL l i x = some r) : i = (i.toNat : Int) ∧ i.toNat < l.length ∧ l.set i.toNat x = r := by
 unfold setL at h
 by_cases hc : decide (0 ≤ i) && decide (i < (l.length : Int))
 ·rw [hc] at h
  simp only [Bool.and_eq_true, decide_eq_true_eq] at hc
  simp only [cond_true, Option.some.injEq] at h
  exact ⟨by omega, by omega, h⟩
 ·simp only [Bool.not_eq_true] at hc; rw [hc] at h; cases h
def chk (c : Bool) : Option Unit := bif c then some () else none
theorem znO {c : Bool} {u : Unit} (h : chk c = some u) : c = true := by cases c with
 | true => rfl
 | false => cases h
end
abbrev w64 (x : Int) : Int := IntKind.i64.wrap x
def i8 (x : Int) : UInt8 := UInt8.ofNat (x % 256).toNat
def i16 (x : Int) : UInt16 := UInt16.ofNat (x % 65536).toNat
def i32 (x : Int) : UInt32 := UInt32.ofNat (x % 4294967296).toNat
def i64 (x : Int) : UInt64 := UInt64.ofNat (x % 18446744073709551616).toNat
theorem yoQ (x : Int) : IntKind.u8.wrap x = ((i8 x).toNat : Int) := by
 have e : IntKind.u8.wrap x = x % 256 := by simp [IntKind.wrap, IntKind.signed, IntKind.bits]
 rw [e]; simp [i8]; omega
theorem yuQ (x : Int) : IntKind.u16.wrap x = ((i16 x).toNat : Int) := by
 have e : IntKind.u16.wrap x = x % 65536 := by simp [IntKind.wrap, IntKind.signed, IntKind.bits]
 rw [e]; simp [i16]; omega
theorem ykP (x : Int) : IntKind.u32.wrap x = ((i32 x).toNat : Int) := by
 have e : IntKind.u32.wrap x = x % 4294967296 := by simp [IntKind.wrap, IntKind.signed, IntKind.bits]
 rw [e]; simp [i32]; omega
theorem yjH (x : Int) : IntKind.u64.wrap x = ((i64 x).toNat : Int) := by
 have e : IntKind.u64.wrap x = x % 18446744073709551616 := by simp [IntKind.wrap, IntKind.signed, IntKind.bits]
 rw [e]; simp [i64]; omega
theorem yyY {x : Int} (h : 0 ≤ x) (h2 : x < 256) : ((i8 x).toNat : Int) = x := by simp [i8]; omega
theorem yoP {x : Int} (h : 0 ≤ x) (h2 : x < 4294967296) : ((i32 x).toNat : Int) = x := by simp [i32]; omega
theorem ypJ {x : Int} (h : 0 ≤ x) (h2 : x < 18446744073709551616) : ((i64 x).toNat : Int) = x := by simp [i64]; omega
theorem i8_nat (b : UInt8) : i8 (b.toNat : Int) = b := by
 apply UInt8.toNat.inj; have := yyY (x := (b.toNat : Int)) (by omega) (by have := b.toNat_lt; omega); omega
theorem xeS (a : UInt8) (b : Int) (h : 0 ≤ b) : Int.tmod (a.toNat : Int) b = ((i8 (Int.tmod (a.toNat : Int) b)).toNat : Int) := by
 have h1 := a.toNat_lt
 have h2 : 0 ≤ Int.tmod (a.toNat : Int) b := Int.tmod_nonneg _ (by omega)
 have h3 : Int.tmod (a.toNat : Int) b ≤ (a.toNat : Int) := by
  obtain ⟨n, rfl⟩ := Int.eq_ofNat_of_zero_le h
  rw [← Int.ofNat_tmod]; have := Nat.mod_le a.toNat n; omega
 rw [yyY h2 (by omega)]
theorem xfD (a b : UInt8) : bits .and .u8 (a.toNat : Int) (b.toNat : Int) = ((a &&& b).toNat : Int) := andN rfl a.toNat_lt b.toNat_lt
theorem i8_or (a b : UInt8) : bits .or .u8 (a.toNat : Int) (b.toNat : Int) = ((a ||| b).toNat : Int) := orN rfl a.toNat_lt b.toNat_lt
theorem xfM (a b : UInt8) : bits .xor .u8 (a.toNat : Int) (b.toNat : Int) = ((a ^^^ b).toNat : Int) := xorN rfl a.toNat_lt b.toNat_lt
theorem xaE (a b : UInt32) : bits .and .u32 (a.toNat : Int) (b.toNat : Int) = ((a &&& b).toNat : Int) := andN rfl a.toNat_lt b.toNat_lt
theorem xdJ (a b : UInt32) : bits .or .u32 (a.toNat : Int) (b.toNat : Int) = ((a ||| b).toNat : Int) := orN rfl a.toNat_lt b.toNat_lt
theorem yzL (a b : UInt32) : bits .xor .u32 (a.toNat : Int) (b.toNat : Int) = ((a ^^^ b).toNat : Int) := xorN rfl a.toNat_lt b.toNat_lt
theorem xaJ (a b : UInt64) : bits .and .u64 (a.toNat : Int) (b.toNat : Int) = ((a &&& b).toNat : Int) := andN rfl a.toNat_lt b.toNat_lt
theorem xfF (a b : UInt64) : bits .or .u64 (a.toNat : Int) (b.toNat : Int) = ((a ||| b).toNat : Int) := orN rfl a.toNat_lt b.toNat_lt
theorem xbS (a b : UInt64) : bits .xor .u64 (a.toNat : Int) (b.toNat : Int) = ((a ^^^ b).toNat : Int) := xorN rfl a.toNat_lt b.toNat_lt
def shlI (k : IntKind) (a b : Int) : Int := k.wrap (a * 2 ^ (min b.toNat k.bits))
def shrI (k : IntKind) (a b : Int) : Int := a.fdiv (2 ^ (min b.toNat k.bits))
theorem yeO {a : Nat} (k : Nat) : (a : Int).fdiv (2 ^ k) = ((a / 2 ^ k : Nat) : Int) := by
 rw [show ((2 : Int) ^ k) = ((2 ^ k : Nat) : Int) by rw [Int.natCast_pow]; rfl]
 exact (Int.ofNat_fdiv a (2 ^ k)).symm
theorem xeJ (a : UInt8) (b : Int) : Int.fdiv (a.toNat : Int) (2 ^ (min b.toNat IntKind.u8.bits)) = ((i8 (shrI .u8 (a.toNat : Int) b)).toNat : Int) := by
 have h1 := a.toNat_lt
 unfold shrI
 rw [yeO, yyY (Int.natCast_nonneg _) (by have := Nat.div_le_self a.toNat (2 ^ (min b.toNat IntKind.u8.bits)); omega)]
theorem xeR (a : UInt8) (b : Int) : IntKind.u8.wrap ((a.toNat : Int) * 2 ^ (min b.toNat IntKind.u8.bits)) = ((i8 (shlI .u8 (a.toNat : Int) b)).toNat : Int) := by
 have e : shlI .u8 (a.toNat : Int) b = IntKind.u8.wrap ((a.toNat : Int) * 2 ^ (min b.toNat IntKind.u8.bits)) := rfl
 rw [← e, e, yoQ, i8_nat]
theorem xdA (a : UInt32) (b : Int) : Int.fdiv (a.toNat : Int) (2 ^ (min b.toNat IntKind.u32.bits)) = ((i32 (shrI .u32 (a.toNat : Int) b)).toNat : Int) := by
 have h1 := a.toNat_lt
 unfold shrI
 rw [yeO, yoP (Int.natCast_nonneg _) (by have := Nat.div_le_self a.toNat (2 ^ (min b.toNat IntKind.u32.bits)); omega)]
theorem xaR (a : UInt64) (b : Int) : Int.fdiv (a.toNat : Int) (2 ^ (min b.toNat IntKind.u64.bits)) = ((i64 (shrI .u64 (a.toNat : Int) b)).toNat : Int) := by
 have h1 := a.toNat_lt
 unfold shrI
 rw [yeO, ypJ (Int.natCast_nonneg _) (by have := Nat.div_le_self a.toNat (2 ^ (min b.toNat IntKind.u64.bits)); omega)]
theorem xbV (b : UInt32) : i32 (b.toNat : Int) = b := by
 apply UInt32.toNat.inj; have := yoP (x := (b.toNat : Int)) (by omega) (by have := b.toNat_lt; omega); omega
theorem xbJ (b : UInt64) : i64 (b.toNat : Int) = b := by
 apply UInt64.toNat.inj; have := ypJ (x := (b.toNat : Int)) (by omega) (by have := b.toNat_lt; omega); omega
theorem yzJ (a : UInt32) (b : Int) : IntKind.u32.wrap ((a.toNat : Int) * 2 ^ (min b.toNat IntKind.u32.bits)) = ((i32 (shlI .u32 (a.toNat : Int) b)).toNat : Int) := by
 have e : shlI .u32 (a.toNat : Int) b = IntKind.u32.wrap ((a.toNat : Int) * 2 ^ (min b.toNat IntKind.u32.bits)) := rfl
 rw [← e, e, ykP, xbV]
theorem xcW (a : UInt64) (b : Int) : IntKind.u64.wrap ((a.toNat : Int) * 2 ^ (min b.toNat IntKind.u64.bits)) = ((i64 (shlI .u64 (a.toNat : Int) b)).toNat : Int) := by
 have e : shlI .u64 (a.toNat : Int) b = IntKind.u64.wrap ((a.toNat : Int) * 2 ^ (min b.toNat IntKind.u64.bits)) := rfl
 rw [← e, e, yjH, xbJ]
theorem not_true {b : Bool} (h : b = true) : (!b) = false := by rw [h]; rfl
theorem not_false {b : Bool} (h : b = false) : (!b) = true := by rw [h]; rfl
class Rp (α : Type) where
 sz : Nat
 rep : Mem → LV → α → Prop
 len : ∀ {S c x}, rep S c x → c.length = sz
 mono : ∀ {S T c x}, rep S c x → Mem.le S T → rep T c x
 one : ∀ {S c x}, rep S c x → ∀ v ∈ c, v.oneCell' = true
def RL {α : Type} [Rp α] (S : Mem) : LV → List α → Prop
 | cs, [] => cs = []
 | cs, x :: xs => ∃ c d, cs = c ++ d ∧ Rp.rep S c x ∧ RL S d xs
section
variable {α β : Type} [Rp α] [Rp β] {S T : Mem}
theorem RL.mono : ∀ {xs : List α} {cs : LV}, RL S cs xs → Mem.le S T → RL T cs xs
 | [], _, h, _ => h
 | _ :: _, _, ⟨c, d, e, h1, h2⟩, hl => ⟨c, d, e, Rp.mono h1 hl, RL.mono h2 hl⟩
theorem RL.len : ∀ {xs : List α} {cs : LV}, RL S cs xs → cs.length = xs.length * Rp.sz α
 | [], _, h => by rw [show _ = [] from h]; simp
 | x :: xs, _, ⟨c, d, e, h1, h2⟩ => by rw [e, List.length_append, Rp.len h1, RL.len h2, List.length_cons, Nat.add_mul]; omega
theorem RL.one : ∀ {xs : List α} {cs : LV}, RL S cs xs → ∀ v ∈ cs, v.oneCell' = true
 | [], _, h, v, hv => by rw [show _ = [] from h] at hv; cases hv
 | x :: xs, _, ⟨c, d, e, h1, h2⟩, v, hv => by
  rw [e] at hv
  rcases List.mem_append.1 hv with h | h
  ·exact Rp.one h1 v h
  ·exact RL.one h2 v h
theorem RL.nil : RL S [] ([] : List α) := rfl
theorem RL.cons {c d : LV} {x : α} {xs : List α} (h1 : Rp.rep S c x) (h2 : RL S d xs) : RL S (c ++ d) (x :: xs) := ⟨c, d, rfl, h1, h2⟩
theorem RL.append : ∀ {xs : List α} {cs ds : LV} {ys : List α}, RL S cs xs → RL S ds ys → RL S (cs ++ ds) (xs ++ ys)
 | [], cs, _, _, h, k => by rw [show cs = [] from h]; exact k
 | x :: xs, _, ds, ys, ⟨c, d, e, h1, h2⟩, k => by rw [e, List.append_assoc]; exact ⟨c, d ++ ds, rfl, h1, RL.append h2 k⟩
theorem RL.get : ∀ {xs : List α} {cs : LV} {i : Nat} {x : α}, RL S cs xs → xs[i]? = some x → Rp.rep S (piece cs (i * Rp.sz α) (Rp.sz α)) x
 | [], _, _, _, _, h => by simp at h
 | y :: xs, _, 0, x, ⟨c, d, e, h1, h2⟩, h => by
  simp at h; subst h
  rw [e, zaI, Nat.zero_mul, List.drop_zero, ← Rp.len h1, List.take_left]; exact h1
 | y :: xs, _, i + 1, x, ⟨c, d, e, h1, h2⟩, h => by
  have ih := RL.get h2 (i := i) (by simpa using h)
  rw [e, zaI, Nat.add_mul, Nat.one_mul, Nat.add_comm, ← Rp.len h1, ← List.drop_drop, List.drop_left, Rp.len h1, ← zaI]; exact ih
theorem RL.take : ∀ {xs : List α} {cs : LV} (n : Nat), RL S cs xs → RL S (cs.take (n * Rp.sz α)) (xs.take n)
 | [], cs, n, h => by rw [show cs = [] from h]; simp [RL]
 | x :: xs, _, 0, _ => by simp [RL]
 | x :: xs, _, n + 1, ⟨c, d, e, h1, h2⟩ => by
  refine ⟨c, d.take (n * Rp.sz α), ?_, h1, RL.take n h2⟩
  rw [e, Nat.add_mul, Nat.one_mul, Nat.add_comm, ← Rp.len h1, List.take_length_add_append]
theorem RL.drop : ∀ {xs : List α} {cs : LV} (n : Nat), RL S cs xs → RL S (cs.drop (n * Rp.sz α)) (xs.drop n)
 | [], cs, n, h => by rw [show cs = [] from h]; simp [RL]
 | x :: xs, cs, 0, h => by simpa using h
 | x :: xs, _, n + 1, ⟨c, d, e, h1, h2⟩ => by
  have ih := RL.drop n h2
  rw [e, Nat.add_mul, Nat.one_mul, Nat.add_comm, ← Rp.len h1, List.drop_length_add_append, Rp.len h1]
  exact ih
theorem RL.sub {xs : List α} {cs : LV} {lo hi : Nat} (h : RL S cs xs) (h1 : lo ≤ hi) : RL S (piece cs (lo * Rp.sz α) ((hi - lo) * Rp.sz α)) ((xs.take hi).drop lo) := by
 have := RL.drop lo (RL.take hi h)
 rw [List.drop_take] at this
 rw [zaI, Nat.sub_mul]
 exact this
theorem RL.set : ∀ {xs : List α} {cs c : LV} {i : Nat} {x : α}, RL S cs xs → Rp.rep S c x → i < xs.length → RL S (lay cs (i * Rp.sz α) c) (xs.set i x)
 | [], _, _, _, _, _, _, h => by simp at h
 | y :: xs, _, c', 0, x, ⟨c, d, e, h1, h2⟩, hx, _ => by
  refine ⟨c', d, ?_, hx, h2⟩
  have hl : c.length = c'.length := by rw [Rp.len h1, Rp.len hx]
  rw [e, Nat.zero_mul]
  apply List.ext_getElem?
  intro j
  rw [zgS]
  by_cases hj : j < c'.length
  ·rw [if_pos (by simp; omega), List.getElem?_append_left hj]; simp
  ·rw [if_neg (by omega), List.getElem?_append_right (by omega), List.getElem?_append_right (by omega), hl]
 | y :: xs, _, c', i + 1, x, ⟨c, d, e, h1, h2⟩, hx, hi => by
  refine ⟨c, lay d (i * Rp.sz α) c', ?_, h1, RL.set h2 hx (by simpa using hi)⟩
  rw [e]
  apply List.ext_getElem?
  intro j
  have hs : (i + 1) * Rp.sz α = c.length + i * Rp.sz α := by rw [Nat.add_mul, Nat.one_mul, Rp.len h1]; omega
  rw [zgS, hs]
  by_cases hj : j < c.length
  ·rw [if_neg (by omega), List.getElem?_append_left hj, List.getElem?_append_left hj]
  ·rw [List.getElem?_append_right (by omega), List.getElem?_append_right (by omega), zgS, List.length_append]
   by_cases hc : i * Rp.sz α ≤ j - c.length ∧ j - c.length < i * Rp.sz α + c'.length ∧ j - c.length < d.length
   ·rw [if_pos (by omega), if_pos hc]; congr 1; omega
   ·rw [if_neg (by omega), if_neg hc]
theorem RL.replicate {c : LV} {x : α} (h : Rp.rep S c x) : ∀ n, RL S (List.replicate n c).flatten (List.replicate n x)
 | 0 => rfl
 | n + 1 => ⟨c, _, by simp [List.replicate_succ], h, RL.replicate h n⟩
def RdS {α : Type} [Rp α] (S : Mem) (v : Value) (xs : List α) : Prop := ∃ cs, SlS S v xs.length (Rp.sz α) cs ∧ RL S cs xs
theorem RdS.mono {v : Value} {xs : List α} (h : RdS S v xs) (hl : Mem.le S T) : RdS T v xs := by
 obtain ⟨cs, h1, h2⟩ := h
 exact ⟨cs, h1.mono hl, h2.mono hl⟩
theorem RdS.nil : RdS S (.slice none 0 0) ([] : List α) := ⟨[], SlS.nil S _, rfl⟩
theorem RdS.sub {v : Value} {xs : List α} (h : RdS S v xs) {lo hi : Nat} (h1 : lo ≤ hi) (h2 : hi ≤ xs.length) : RdS S (subN v (Rp.sz α) lo hi) ((xs.take hi).drop lo) := by
 obtain ⟨cs, k1, k2⟩ := h
 refine ⟨_, ?_, k2.sub h1⟩
 have hl : ((xs.take hi).drop lo).length = hi - lo := by simp; omega
 rw [hl]
 exact k1.sub h1 h2
theorem RdS.subLH {v : Value} {xs r : List α} {lo hi : Int} {sz : Nat} (h : RdS S v xs) (e : sub3 xs lo hi = some r) (hs : Rp.sz α = sz := by rfl) : RdS S (subN v sz lo.toNat hi.toNat) r := by
 obtain ⟨_, _, h1, h2, h3⟩ := zzZ e
 subst hs; rw [← h3]; exact h.sub h1 h2
theorem RdS.subL {v : Value} {xs r : List α} {lo : Int} {sz : Nat} (h : RdS S v xs) (e : Go.Proofs.YtebbcofojchkpaaGreatDoor.subL xs lo = some r) (hs : Rp.sz α = sz := by rfl) : RdS S (subN v sz lo.toNat xs.length) r := by
 obtain ⟨_, h1, h3⟩ := yaM e
 subst hs; have := h.sub h1 (Nat.le_refl _); rw [List.take_length, h3] at this; exact this
theorem RdS.subH {v : Value} {xs r : List α} {hi : Int} {sz : Nat} (h : RdS S v xs) (e : Go.Proofs.YtebbcofojchkpaaGreatDoor.subH xs hi = some r) (hs : Rp.sz α = sz := by rfl) : RdS S (subN v sz 0 hi.toNat) r := by
 obtain ⟨_, h1, h3⟩ := zrA e
 subst hs; have := h.sub (Nat.zero_le _) h1; rw [List.drop_zero, h3] at this; exact this
theorem ynI {cs c : LV} {xs r : List α} {i : Int} {x : α} {sz : Nat} (h : RL S cs xs) (hx : Rp.rep S c x) (e : setL xs i x = some r) (hs : Rp.sz α = sz := by rfl) : RL S (lay cs (i.toNat * sz) c) r := by
 obtain ⟨_, h1, h2⟩ := zuC e
 subst hs; rw [← h2]; exact h.set hx h1
theorem RdS.get {v : Value} {xs : List α} {i : Nat} {x : α} (h : RdS S v xs) (hx : xs[i]? = some x) : ∃ b o n c cs, v = sl b o n c ∧ i < n ∧ CellAt S b (o + i * Rp.sz α) cs ∧ Rp.rep S cs x := by
 obtain ⟨ds, k1, k2⟩ := h
 have hi := (List.getElem?_eq_some_iff.1 hx).1
 obtain ⟨b, o, c, e, hc⟩ := k1.at hi
 exact ⟨b, o, _, c, _, e, hi, hc, k2.get hx⟩
theorem RdS.oneCell {v : Value} {xs : List α} (h : RdS S v xs) : v.oneCell' = true := by
 obtain ⟨cs, k1, _⟩ := h
 rcases k1 with ⟨⟨_, rfl⟩, _⟩ | ⟨b, o, c, ds, T, fz, rfl, _⟩ <;> rfl
theorem RdS.cells {v : Value} {xs : List α} (h : RdS S v xs) : v.cells.toList = [v] := by
 obtain ⟨cs, k1, _⟩ := h
 rcases k1 with ⟨⟨_, rfl⟩, _⟩ | ⟨b, o, c, ds, T, fz, rfl, _⟩ <;> rfl
end
section
variable {α β : Type} [Rp α] [Rp β] {S : Mem}
instance (priority := low) instRpList : Rp (List α) where
 sz := 1
 rep S c xs := ∃ v, c = [v] ∧ RdS S v xs
 len := fun ⟨_, e, _⟩ => by rw [e]; rfl
 mono := fun ⟨v, e, h⟩ hl => ⟨v, e, h.mono hl⟩
 one := fun ⟨v, e, h⟩ u hu => by rw [e, List.mem_singleton] at hu; rw [hu]; exact h.oneCell
instance ysK : Rp Bs where
 sz := 1
 rep _ c x := c = [str x]
 len := fun e => by rw [e]; rfl
 mono := fun e _ => e
 one := fun e u hu => by rw [e, List.mem_singleton] at hu; rw [hu]; rfl
instance instRpInt : Rp Int where
 sz := 1
 rep _ c x := c = [.int .i64 x]
 len := fun e => by rw [e]; rfl
 mono := fun e _ => e
 one := fun e u hu => by rw [e, List.mem_singleton] at hu; rw [hu]; rfl
instance instRpU8 : Rp UInt8 where
 sz := 1
 rep _ c x := c = [.int .u8 (x.toNat : Int)]
 len := fun e => by rw [e]; rfl
 mono := fun e _ => e
 one := fun e u hu => by rw [e, List.mem_singleton] at hu; rw [hu]; rfl
instance instRpU32 : Rp UInt32 where
 sz := 1
 rep _ c x := c = [.int .u32 (x.toNat : Int)]
 len := fun e => by rw [e]; rfl
 mono := fun e _ => e
 one := fun e u hu => by rw [e, List.mem_singleton] at hu; rw [hu]; rfl
instance xeZ : Rp UInt64 where
 sz := 1
 rep _ c x := c = [.int .u64 (x.toNat : Int)]
 len := fun e => by rw [e]; rfl
 mono := fun e _ => e
 one := fun e u hu => by rw [e, List.mem_singleton] at hu; rw [hu]; rfl
instance ynA : Rp Bool where
 sz := 1
 rep _ c x := c = [.bool x]
 len := fun e => by rw [e]; rfl
 mono := fun e _ => e
 one := fun e u hu => by rw [e, List.mem_singleton] at hu; rw [hu]; rfl
instance ymR : Rp Unit where
 sz := 0
 rep _ c _ := c = []
 len := fun e => by rw [e]; rfl
 mono := fun e _ => e
 one := fun e u hu => by rw [e] at hu; cases hu
instance ymQ : Rp (α × β) where
 sz := Rp.sz α + Rp.sz β
 rep S c x := ∃ c1 c2, c = c1 ++ c2 ∧ Rp.rep S c1 x.1 ∧ Rp.rep S c2 x.2
 len := fun ⟨c1, c2, e, h1, h2⟩ => by rw [e, List.length_append, Rp.len h1, Rp.len h2]
 mono := fun ⟨c1, c2, e, h1, h2⟩ hl => ⟨c1, c2, e, Rp.mono h1 hl, Rp.mono h2 hl⟩
 one := fun ⟨c1, c2, e, h1, h2⟩ u hu => by
  rw [e] at hu
  rcases List.mem_append.1 hu with h | h
  ·exact Rp.one h1 u h
  ·exact Rp.one h2 u h
theorem rpU8 {x : UInt8} : Rp.rep S [.int .u8 (x.toNat : Int)] x := rfl
theorem elU8 {c : LV} {x : UInt8} (h : Rp.rep S c x) : c = [.int .u8 (x.toNat : Int)] := h
theorem elT {c : LV} {x : Bs} (h : Rp.rep S c x) : c = [str x] := h
theorem RL.is_u8s : ∀ {xs : Bs} {cs : LV}, RL S cs xs → cs = u8s xs
 | [], _, h => h
 | x :: xs, _, ⟨c, d, e, h1, h2⟩ => by rw [e, elU8 h1, RL.is_u8s h2]; rfl
theorem RL.of_u8s : ∀ (xs : Bs), RL S (u8s xs) xs
 | [] => rfl
 | x :: xs => ⟨_, _, rfl, rpU8, RL.of_u8s xs⟩
end
end
section
variable {P : Program} {ops : Array Oper} {Q : Exit → Act → World → Prop} {rest : List Oper} {n : Nat} {m : FM} {w : World} {d : Nat} {ty : TypeId} {pos : String} {aft : Array Edge} {x : Operand} {nh : Nat} {Φ : ziD} {W : World} {vs : Nat → Gv} {Fin : Act → Prop} {i : Nat}
end
section
section
variable {P : Program} {ops : Array Oper} {Q : Exit → Act → World → Prop} {rest : List Oper} {n : Nat} {m : FM} {w w' : World} {B : Bas} {S : Mem} {L : List Res}
variable {d : Nat} {op : Op} {ty : TypeId} {pos : String} {aft : Array Edge} {c v u : Value} {x y z lo hi : Operand} {T E T' : TypeId}
theorem nameF {c : Code} (h : ∀ m0, (∀ t, look m0 t = look m t) → c.wp P Q (fr n m0) w) : c.wp P Q (fr n m) w := h m fun _ => rfl
theorem xdB (h : (execOp (evO n m) ⟨some d, op, ty, pos, aft, none⟩).run P w = .ok (.value c) w') (hr : wpList P ops Q rest (fr n ((d, c) :: m)) w') :
  wpList P ops Q (⟨some d, op, ty, pos, aft, none⟩ :: rest) (fr n m) w :=
 wpList_plain rfl fun K hK => by
  unfold Oper.wp; rw [zlY, h]; simp only [Oper.upon, zzV]; exact hK _ _ hr
theorem xfN (h : (execOp (evO n m) ⟨none, op, ty, pos, aft, none⟩).run P w = .ok .skip w') (hr : wpList P ops Q rest (fr n m) w') :
  wpList P ops Q (⟨none, op, ty, pos, aft, none⟩ :: rest) (fr n m) w :=
 wpList_plain rfl fun K hK => by
  unfold Oper.wp; rw [zlY, h]; simp only [Oper.upon, zzB]; exact hK _ _ hr
theorem p_of1 {φ : World → Value → Prop} (h : ∃ w' v, (execOp (evO n m) ⟨some d, op, ty, pos, aft, none⟩).run P w = .ok (.value v) w' ∧ φ w' v) (hr : ∀ w' v, φ w' v → wpList P ops Q rest (fr n ((d, v) :: m)) w') :
  wpList P ops Q (⟨some d, op, ty, pos, aft, none⟩ :: rest) (fr n m) w := by
 obtain ⟨w', v, h1, h2⟩ := h
 exact xdB h1 (hr w' v h2)
theorem p_ofb {φ : World → Nat → Prop} (h : ∃ w' b, (execOp (evO n m) ⟨some d, op, ty, pos, aft, none⟩).run P w = .ok (.value (.pointer (some ⟨b, 0, none⟩))) w' ∧ φ w' b) (hr : ∀ w' b, φ w' b → wpList P ops Q rest (fr n ((d, .pointer (some ⟨b, 0, none⟩)) :: m)) w') :
  wpList P ops Q (⟨some d, op, ty, pos, aft, none⟩ :: rest) (fr n m) w := by
 obtain ⟨w', v, h1, h2⟩ := h
 exact xdB h1 (hr w' v h2)
theorem xdN {φ : World → Prop} (h : ∃ w', (execOp (evO n m) ⟨none, op, ty, pos, aft, none⟩).run P w = .ok .skip w' ∧ φ w') (hr : ∀ w', φ w' → wpList P ops Q rest (fr n m) w') :
  wpList P ops Q (⟨none, op, ty, pos, aft, none⟩ :: rest) (fr n m) w := by
 obtain ⟨w', h1, h2⟩ := h
 exact xfN h1 (hr w' h2)
section
variable {nh k : Nat} {Φ : ziD} {W : World} {vs : Nat → Gv} {Fin : Act → Prop}
def depF (Φ : ziD) (vs : Nat → Gv) (l : List Nat) : Nat → Bool := fun b => l.any fun k => relK Φ k && (vs k).f b
theorem xdK {Φ : ziD} {vs : Nat → Gv} {l : List Nat} {i : Nat} {w : World} (hl : l.contains i = true) (hr : relK Φ i = true) : Mem.le (gf S W (vs i).f w) (gf S W (depF Φ vs l) w) :=
 gf_up fun b hb => List.any_eq_true.2 ⟨i, by simpa using hl, by rw [hr, hb]; rfl⟩
abbrev kR {α : Type} [Rp α] (S : Mem) (W : World) (y : List α) : Sum Value (Gv → World → Prop) := .inr (fun g w' => RdS (gf S W g.f w') g.v y)
theorem HS.tf {B : Bas} {S : Mem} {L : List Res} {G : World → Prop} {A : Prop} {l : List Nat} (H : HS B S W L) (k : ∀ w S', Mem.le S S' → HS B S' w L → (∀ {α : Type} [Rp α] (j : Nat) {y : List α}, Φ j = some (kR S W y) → l.contains j = true → RdS S' (vs j).v y) → G w) : ∀ w, Ext W w → zkL Φ vs w l → A → G w :=
 fun w hx hF _ => k w (gf S W (depF Φ vs l) w) (gf_le H.sub) (H.callF hx) fun {_} _ j {_} hk hl => RdS.mono (yfL hF j hk hl) (xdK hl (by unfold relK; rw [hk]))
end
theorem loopI {σ β : Type} {body : σ → Option (σ ⊕ β)} {c : Code} {m0 : FM} (D : List Nat) (I : σ → FM → World → Prop) {s0 : σ} {out : β} (hL : iter body s0 = some out) (h0 : I s0 m0 w)
  (round : ∀ k s m w, (∀ t, has D t = false → look m t = look m0 t) → I s m w → ∀ o, body s = some o → jnO o (zqS body k) some = some out →
   c.wp P (Exit.then (fun a' w' => ∃ s' m', a' = fr n m' ∧ (∀ t, has D t = false → look m' t = look m0 t) ∧ I s' m' w' ∧ zqS body k s' = some out) Q) (fr n m) w) : (Code.loop c).wp P Q (fr n m0) w := by
 refine loopF D (fun g m w => ∃ s, I s m w ∧ zqS body g s = some out) FU ⟨s0, h0, hL⟩ ?_
 rintro g m w hk ⟨s, hI, hs⟩
 cases g with
 | zero => cases hs
 | succ g =>
  obtain ⟨o, h1, h2⟩ := ysW hs
  refine wp_mono (round g s m w hk hI o h1 h2) fun e a' w' hq => ?_
  cases e with
  | normal =>
   obtain ⟨s', m', e1, e2, e3, e4⟩ := hq
   exact ⟨g, m', Nat.lt_succ_self g, e1, e2, s', e3, e4⟩
  | _ => exact hq
theorem yiM {l : LV} {z : Value} {e : Operand → Value} {dst : Option Tmp} {g : Option (Nat × Bool)} (H : HS B S w L) (hz : yiB P T z) (hl : z.cells.toList = l) :
  ∃ w' b, (execOp e ⟨dst, .alloc T, ty, pos, aft, g⟩).run P w = .ok (.value (.pointer (some ⟨b, 0, none⟩))) w' ∧ HS B S w' (.blk b l T :: L) := by
 refine ⟨w.alloc (.cells l.toArray T), w.heap.size, ?_, H.push (Ext.alloc w _) (zaE w _) fun b hb => by cases hb; exact Nat.le_refl _⟩
 simp [execOp, ycB hz, ← hl]
theorem ypD {b i N : Nat} {cs : LV} {fz : Nat × Nat} (h : w.heap[b]? = some (.cells cs.toArray T fz)) (hf : okfz fz N) (hi : i < N) : w.frozen? ⟨b, i, none⟩ = false := by
 obtain ⟨lo, hi'⟩ := fz
 simp only [World.frozen?, h]
 rcases hf with hf | hf
 ·injection hf with h1 h2; subst h1; subst h2; simp
 ·simp only at hf
  have : ¬ lo ≤ i := by omega
  simp [this]
theorem ybH {b i : Nat} {v : Value} {cs : LV} {fz : Nat × Nat} (h : w.heap[b]? = some (.cells cs.toArray T fz)) :
  (w.setCell ⟨b, i, none⟩ v).heap[b]? = some (.cells (cs.set i v).toArray T fz) := by
 have hlt := zhX h
 have h' : w.heap[b] = .cells cs.toArray T fz := by simpa [Array.getElem?_eq_getElem hlt] using h
 show (w.heap.modify b _)[b]? = _
 rw [Array.getElem?_eq_getElem (by simpa using hlt), Array.getElem_modify_self, h']
 simp
theorem zgR {b i : Nat} {cs : LV} {fz : Nat × Nat} (h : w.heap[b]? = some (.cells cs.toArray T fz)) : w.cell? ⟨b, i, none⟩ = cs[i]? := by
 simp [World.cell?, h]
theorem zlD {b o : Nat} {fz : Nat × Nat} : ∀ (vs : LV) (i : Nat) (w : World) (cs : LV), (∀ v ∈ vs, v.oneCell' = true) → w.heap[b]? = some (.cells cs.toArray T fz) → okfz fz cs.length → o + i + vs.length ≤ cs.length →
  ∃ w', (storeCells ⟨b, o, none⟩ vs i).run P w = .ok () w' ∧ w'.heap[b]? = some (.cells (lay cs (o + i) vs).toArray T fz) ∧ w'.heap.size = w.heap.size ∧ w'.os = w.os ∧ w'.tape = w.tape ∧ w'.output = w.output ∧ ∀ j, j ≠ b → w'.heap[j]? = w.heap[j]?
 | [], i, w, cs, _, h, _, _ => ⟨w, by simp [storeCells], by have : lay cs (o + i) [] = cs := by cases cs <;> rfl
                                                            rw [this]; exact h, rfl, rfl, rfl, rfl, fun _ _ => rfl⟩
 | v :: vs, i, w, cs, hone, h, hfz, hlen => by
  have hi : o + i < cs.length := by simp only [List.length_cons] at hlen; omega
  have hc : w.cell? ⟨b, o + i, none⟩ = some cs[o + i] := by rw [zgR h]; simp [hi]
  have hst := run_store P w ⟨b, o + i, none⟩ v .plain (hone v (by simp))
  rw [hc] at hst
  simp only [ypD h hfz hi, Bool.false_eq_true, if_false] at hst
  have h2 := ybH (i := o + i) (v := v) h
  have hlen2 : o + (i + 1) + vs.length ≤ (cs.set (o + i) v).length := by rw [List.length_set]; simp only [List.length_cons] at hlen; omega
  obtain ⟨w', e, hb, hs, h4, h5, h6, h7⟩ := zlD vs (i + 1) (w.setCell ⟨b, o + i, none⟩ v) (cs.set (o + i) v) (fun u hu => hone u (by simp [hu])) h2 (by rw [List.length_set]; exact hfz) hlen2
  refine ⟨w', ?_, ?_, ?_, h4, h5, h6, ?_⟩
  ·show (do store ((⟨b, o, none⟩ : Addr).add i) v; storeCells ⟨b, o, none⟩ vs (i + 1) : Sem Unit).run P w = _
   rw [zeD, Sem.run_bind, hst]
   exact e
  ·rw [hb]
   congr 2
   apply congrArg List.toArray
   apply List.ext_getElem?
   intro j
   rw [zgS, zgS]
   simp only [List.length_cons, List.length_set]
   by_cases h1 : o + (i + 1) ≤ j ∧ j < o + (i + 1) + vs.length ∧ j < cs.length
   ·rw [if_pos h1, if_pos (by omega), show j - (o + i) = (j - (o + (i + 1))) + 1 by omega]; simp
   ·rw [if_neg h1]
    by_cases h3 : j = o + i
    ·subst h3; rw [if_pos (by omega)]; simp [hi]
    ·rw [if_neg (by omega), List.getElem?_set_ne (by omega)]
  ·rw [hs]; simp [World.setCell]
  ·intro j hj; rw [h7 j hj]; exact Below.heap_setCell _ _ _ _ (by simpa using hj)
theorem zuA {b o sz : Nat} {cs l : LV} {fz : Nat × Nat} (hs : ∀ w, (sizeOf T).run P w = .ok sz w) (hv : v.cells = l.toArray) (h : w.heap[b]? = some (.cells cs.toArray T' fz)) (hf : okfz fz cs.length) (hlen : l.length = sz) (hone : ∀ u ∈ l, u.oneCell' = true) (hsz : o + sz ≤ cs.length) :
  ∃ w', (Instr.storeAt T (.pointer (some ⟨b, o, none⟩)) v).run P w = .ok () w' ∧ w'.heap[b]? = some (.cells (lay cs o l).toArray T' fz) ∧ w'.heap.size = w.heap.size ∧ w'.os = w.os ∧ w'.tape = w.tape ∧ w'.output = w.output ∧ ∀ j, j ≠ b → w'.heap[j]? = w.heap[j]? := by
 obtain ⟨w', e, hb, rest⟩ := zlD (P := P) (o := o) l 0 w cs hone h hf (by omega)
 refine ⟨w', ?_, hb, rest⟩
 simp [Instr.storeAt, Instr.sureAddr, storeVar, hs w, hv, hlen, e]
def zrZ (v : Value) (l : LV) : Prop := v.cells = l.toArray
theorem cells_one (h : v.oneCell' = true) : zrZ v [v] := by
 unfold zrZ
 cases v <;> first | rfl | simp [Value.oneCell'] at h
def TSz (P : Program) (T : TypeId) (sz : Nat) : Prop := ∀ w, (sizeOf T).run P w = .ok sz w
theorem TAgg.sz {sz : Nat} (h : TAgg P T sz) : TSz P T sz := h.2
theorem TOne.sz (h : TOne P T) : TSz P T 1 := h.2
section
variable {e : Operand → Value} {dst : Option Tmp} {g : Option (Nat × Bool)}
theorem ydS {sz b o k : Nat} {cs l : LV} (ts : TSz P T sz) (H : HS B S w L) (hp : e x = .pointer (some ⟨b, o, none⟩)) (hk : lkR L k = some (.blk b cs T')) (hy : e y = v) (hv : zrZ v l)
  (hlen : l.length = sz) (hone : ∀ u ∈ l, u.oneCell' = true) (hsz : Nat.ble (o + sz) cs.length = true) :
  ∃ w', (execOp e ⟨none, .store T x y, ty, pos, aft, g⟩).run P w = .ok .skip w' ∧ HS B S w' (stR L k (.blk b (lay cs o l) T')) := by
 obtain ⟨w', he, hb, hs, h4, h5, h6, h7⟩ := zuA ts hv (H.own k _ hk) (.inl rfl) hlen hone (Nat.le_of_ble_eq_true hsz)
 refine ⟨w', ?_, H.upd hk (by omega) h4 h5 h6 (fun i _ hne => h7 i fun e => hne (by rw [e]; rfl)) hb fun b' hb' => .inl hb'⟩
 simp only [execOp, hp, hy, Sem.run_bind, he, Result.andThen, Sem.run_pure]
theorem yvU {sz b i k M N c0 : Nat} {cs rs l : LV} (ts : TSz P T sz) (H : HS B S w L) (hk : lkR L k = some (.osl (sl b 0 M c0) N sz cs rs T')) (hp : e x = .pointer (some ⟨b, 0 + i * sz, none⟩)) (hi : i < N) (hy : e y = v) (hv : zrZ v l)
  (hlen : l.length = sz) (hone : ∀ u ∈ l, u.oneCell' = true) :
  ∃ w', (execOp e ⟨none, .store T x y, ty, pos, aft, g⟩).run P w = .ok .skip w' ∧ HS B S w' (stR L k (.osl (sl b 0 M c0) N sz (lay cs (i * sz) l) rs T')) := by
 rcases H.own k _ hk with ⟨h, _⟩ | ⟨b', c', fz, hv', h1, h2, h3, h4, h5⟩
 ·cases h
 ·injection hv' with e1 e2 e3
  injection e1 with e1
  injection e1 with e1 _ _
  subst e1; have e2 := e2.symm; subst e2; subst e3
  have hm : i * sz + sz ≤ N * sz := by
   have := Nat.mul_le_mul_right sz (show i + 1 ≤ N by omega)
   rw [Nat.add_mul, Nat.one_mul] at this
   exact this
  obtain ⟨w', he, hb, hs, g4, g5, g6, g7⟩ := zuA (o := 0 + i * sz) ts hv h4 h5 hlen hone (by rw [List.length_append]; omega)
  have hlay : lay (cs ++ rs) (0 + i * sz) l = lay cs (i * sz) l ++ rs := by
   apply List.ext_getElem?
   intro j
   rw [zgS, Nat.zero_add]
   by_cases hj : i * sz ≤ j ∧ j < i * sz + l.length
   ·rw [if_pos ⟨hj.1, hj.2, by rw [List.length_append]; omega⟩, List.getElem?_append_left (by rw [zcH]; omega), zgS, if_pos ⟨hj.1, hj.2, by omega⟩]
   ·rw [if_neg (by omega)]
    by_cases hj2 : j < cs.length
    ·rw [List.getElem?_append_left hj2, List.getElem?_append_left (by rw [zcH]; omega), zgS, if_neg (by omega)]
    ·rw [List.getElem?_append_right (by omega), List.getElem?_append_right (by rw [zcH]; omega), zcH]
  refine ⟨w', ?_, H.upd hk (by omega) g4 g5 g6 (fun i _ hne => g7 i fun e => hne (by rw [e]; rfl)) (.inr ⟨b, c0, fz, rfl, h1, by rw [zcH]; exact h2, ?_, by rw [← hlay]; exact hb, ?_⟩) fun b' hb' => .inl hb'⟩
  ·simp only [execOp, hp, hy, Sem.run_bind, he, Result.andThen, Sem.run_pure]
  ·rw [List.length_append, zcH, ← List.length_append]; exact h3
  ·rw [List.length_append, zcH, ← List.length_append]; exact h5
theorem yfK {sz b o : Nat} {cs l : LV} {fz : Nat × Nat} (ty : TAgg P T sz) (h : w.heap[b]? = some (.cells cs.toArray T' fz)) (hl : piece cs o sz = l) (hsz : o + sz ≤ cs.length) :
  (Instr.loadAt T (.pointer (some ⟨b, o, none⟩))).run P w = .ok (.agg l.toArray) w := by
 have hlen : l.length = sz := by rw [← hl]; exact zjD hsz
 have := run_loadCells_list (P := P) w ⟨b, o, none⟩ l (fun j v hj => by
  rw [zeD, zgR h, ← hj, ← hl, zaI]
  have : j < sz := by rw [← hlen]; exact (List.getElem?_eq_some_iff.1 hj).1
  simp [this])
 rw [hlen] at this
 simp [Instr.loadAt, Instr.sureAddr, loadVar, ty.1 w, ty.2 w, this]
theorem zuH {b o : Nat} {cs : LV} {fz : Nat × Nat} (ty : TOne P T) (h : w.heap[b]? = some (.cells cs.toArray T' fz)) (hl : piece cs o 1 = [v]) :
  (Instr.loadAt T (.pointer (some ⟨b, o, none⟩))).run P w = .ok v w := by
 have hv : cs[o]? = some v := by
  rw [zaI] at hl
  have := congrArg (·[0]?) hl
  simpa using this
 simp [Instr.loadAt, Instr.sureAddr, loadVar, ty.1 w, zgR h, hv]
theorem zqM {b o k : Nat} {cs : LV} (tg : TOne P T) (H : HS B S w L) (hp : e x = .pointer (some ⟨b, o, none⟩)) (hk : lkR L k = some (.blk b cs T')) (hv : piece cs o 1 = [v]) :
  (execOp e ⟨dst, .load T x, ty, pos, aft, g⟩).run P w = .ok (.value v) w := by
 simp only [execOp, hp, Sem.run_bind, zuH tg (H.own k _ hk) hv, Result.andThen, Sem.run_pure]
theorem xaT {b p o : Nat} {cs : LV} (tg : TOne P T) (hS : Sub S w) (hp : e x = .pointer (some ⟨b, p + o, none⟩)) (hc : CellAt S b p cs) (hv : piece cs o 1 = [v]) :
  (execOp e ⟨dst, .load T x, ty, pos, aft, g⟩).run P w = .ok (.value v) w := by
 obtain ⟨ds, E', fz, h1, h2, h3⟩ := hc
 have h4 : o + 1 ≤ cs.length := by
  have := congrArg List.length hv
  rw [zaI] at this
  simp at this
  omega
 have h5 : piece ds (p + o) 1 = [v] := by rw [← hv, ← h3, zpS _ _ _ _ _ h4]
 simp only [execOp, hp, Sem.run_bind, zuH tg (hS _ _ h1) h5, Result.andThen, Sem.run_pure]
theorem ycX {sz b o i N c : Nat} {k : IntKind} {a : Int} (hu : P.underlying T = some (.slice E)) (hs : TSz P E sz) (hx : e x = v) (hv : v = sl b o N c) (hy : e y = .int k a) (ha : a = (i : Int)) (hi : i < N) :
  (execOp e ⟨dst, .indexAddr T x y, ty, pos, aft, g⟩).run P w = .ok (.value (.pointer (some ⟨b, o + i * sz, none⟩))) w := by
 subst ha; subst hv
 simp [execOp, Instr.indexAt, hx, hy, sl, asIntOf, Go.underlying, hu, hs w, hi, zeD]
theorem ykA {sz N : Nat} {cs : LV} (hu : P.underlying T = some (.slice E)) (hx : e x = v) (h : SlW w v N sz cs) :
  (execOp e ⟨dst, .call ⟨.builtin .len, #[x], #[T]⟩, ty, pos, aft, g⟩).run P w = .ok (.value (.int .i64 (N : Int))) w := by
 rcases h with ⟨⟨a, rfl⟩, rfl, _⟩ | ⟨b, o, c, ds, T', fz, rfl, _⟩ <;> exact yxY hu hx
theorem RdS.len {α : Type} [Rp α] {xs : List α} (h : RdS S v xs) (hS : Sub S w) : ∃ cs, SlW w v xs.length (Rp.sz α) cs := by
 obtain ⟨cs, h1, _⟩ := h
 exact ⟨cs, h1.w hS⟩
theorem r_lenR' {α : Type} [Rp α] {xs : List α} (hu : P.underlying T = some (.slice E)) (hx : e x = v) (h : RdS S v xs) (hS : Sub S w) :
  (execOp e ⟨dst, .call ⟨.builtin .len, #[x], #[T]⟩, ty, pos, aft, g⟩).run P w = .ok (.value (.int .i64 (xs.length : Int))) w := by
 obtain ⟨cs, h1⟩ := h.len hS
 exact ykA hu hx h1
theorem yoA {sz N N' k : Nat} {cs rs : LV} (hu : P.underlying T = some (.slice E)) (hx : e x = v) (H : HS B S w L) (hk : lkR L k = some (.osl v N sz cs rs T')) (hN : N = N') :
  (execOp e ⟨dst, .call ⟨.builtin .len, #[x], #[T]⟩, ty, pos, aft, g⟩).run P w = .ok (.value (.int .i64 (N' : Int))) w := by
 subst hN; exact ykA hu hx (H.slW hk)
theorem gvl_at {ol : List Oper} {n : Nat} {m : FM} {j t : Nat} {b : Bool} {o : Oper} (h1 : lko ol j = some o) (h2 : o.dst = some t) (h3 : evO n m (.tmp t) = .bool b) : gvl ol n m j = some b := by
 unfold gvl; rw [h1]
 obtain ⟨dst, _, _, _, _, _⟩ := o
 simp only at h2
 subst h2
 simp only [gvo, h3]
theorem yoS {D : List Nat} {m1 m2 : FM} {X : Nat → Value} (hk : ∀ t, look m1 t = look m2 t) (h : ∀ t, has D t = false → look m2 t = X t) : ∀ t, has D t = false → look m1 t = X t := fun t ht => (hk t).trans (h t ht)
theorem xbP {α : Type} [Rp α] {xs : List α} {sz p h : Nat} {a b : Int} {k k' : IntKind} (hu : P.underlying T = some (.slice E)) (hs : TSz P E sz) (hx : e x = v) (hz : e lo = .int k' b) (hy : e hi = .int k a) (hb : b = (p : Int)) (ha : a = (h : Int)) (hr : RdS S v xs) (hp : p ≤ h) (hh : h ≤ xs.length) :
  (execOp e ⟨dst, .slice T x (some lo) (some hi) none, ty, pos, aft, g⟩).run P w = .ok (.value (subN v sz p h)) w := by
 obtain ⟨cs, h1, _⟩ := hr
 rcases h1 with ⟨⟨a0, rfl⟩, h2, _⟩ | ⟨b', o, c, ds, T', fz, rfl, h3, _⟩
 ·obtain rfl : h = 0 := by omega
  obtain rfl : p = 0 := by omega
  simp [execOp, Instr.sliceAt, Go.underlying, hu, Instr.slice, Instr.sliceBounds, hx, hy, hz, zbD ha (Nat.le_refl _), zbD hb (Nat.le_refl _), hs w, subN]
 ·simp [execOp, Instr.sliceAt, Go.underlying, hu, Instr.slice, Instr.sliceBounds, hx, hy, hz, sl, zbD ha (Nat.le_trans hh h3), zbD hb hp, hs w, subN]
theorem xeD {α : Type} [Rp α] {xs : List α} {sz p : Nat} {b : Int} {k' : IntKind} (hu : P.underlying T = some (.slice E)) (hs : TSz P E sz) (hx : e x = v) (hz : e lo = .int k' b) (hb : b = (p : Int)) (hr : RdS S v xs) (hp : p ≤ xs.length) :
  (execOp e ⟨dst, .slice T x (some lo) none none, ty, pos, aft, g⟩).run P w = .ok (.value (subN v sz p xs.length)) w := by
 obtain ⟨cs, h1, _⟩ := hr
 rcases h1 with ⟨⟨a0, rfl⟩, h2, _⟩ | ⟨b', o, c, ds, T', fz, rfl, h3, _⟩
 ·obtain rfl : p = 0 := by omega
  simp [execOp, Instr.sliceAt, Go.underlying, hu, Instr.slice, Instr.sliceBounds, hx, hz, zbD hb (Nat.le_refl _), hs w, subN, h2]
 ·simp [execOp, Instr.sliceAt, Go.underlying, hu, Instr.slice, Instr.sliceBounds, hx, hz, sl, zbD hb hp, hs w, subN]
theorem yxG {α : Type} [Rp α] {xs : List α} {sz h : Nat} {a : Int} {k : IntKind} (hu : P.underlying T = some (.slice E)) (hs : TSz P E sz) (hx : e x = v) (hy : e hi = .int k a) (ha : a = (h : Int)) (hr : RdS S v xs) (hh : h ≤ xs.length) :
  (execOp e ⟨dst, .slice T x none (some hi) none, ty, pos, aft, g⟩).run P w = .ok (.value (subN v sz 0 h)) w := by
 obtain ⟨cs, h1, _⟩ := hr
 rcases h1 with ⟨⟨a0, rfl⟩, h2, _⟩ | ⟨b', o, c, ds, T', fz, rfl, h3, _⟩
 ·obtain rfl : h = 0 := by omega
  simp [execOp, Instr.sliceAt, Go.underlying, hu, Instr.slice, Instr.sliceBounds, hx, hy, zbD ha (Nat.le_refl _), hs w, subN]
 ·simp [execOp, Instr.sliceAt, Go.underlying, hu, Instr.slice, Instr.sliceBounds, hx, hy, sl, zbD ha (Nat.le_trans hh h3), hs w, subN]
theorem xeU {N : Nat} {T2 : TypeId} {l : Bs} (hs : P.underlying T = some (.slice E)) (he : P.underlying E = some (.int .u8)) (hd : P.underlying T2 = some .string) (hx : e x = v) (hr : SlW w v N 1 (u8s l)) :
  (execOp e ⟨dst, .convert T T2 x, ty, pos, aft, g⟩).run P w = .ok (.value (str l)) w := by
 have key : (convert T T2 v).run P w = .ok (str l) w := by
  have hl : l.length = N := by have := hr.len; rw [zeC] at this; omega
  rcases hr with ⟨⟨a0, rfl⟩, _, h2⟩ | ⟨b, o, c, cs, T', fz, rfl, h3, h4, h5, h6⟩
  ·have : l = [] := by simpa [u8s] using h2
   subst this
   rw [run_convert_bytes_string w T T2 E a0 0 0 hs he hd]
   cases a0 with
   | none => simp [Conv.bytesToString]; rfl
   | some a0 => simp [Conv.bytesToString, loadCells]; rfl
  ·have h7 := run_convert_bytes_arg (P := P) w T E hs he b o N c (l.map fun b => (b.toNat : Int)) (by simpa using hl) (fun i hi => by
    rw [zgR h4]
    rw [zaI, Nat.mul_one] at h6
    have h8 : ((cs.drop o).take N)[i]? = (u8s l)[i]? := by rw [h6]
    rw [List.getElem?_take, if_pos hi, List.getElem?_drop] at h8
    rw [h8]
    have hi' : i < l.length := by omega
    simp [u8s, hi']) T2 hd
   rw [h7, ysU]
 simp [execOp, hx, key]
theorem yzV {T2 : TypeId} {l : Bs} {ud : TypeDesc} (hs : P.underlying T = some ud) (hd : P.underlying T2 = some (.slice E)) (he : P.underlying E = some (.int .u8)) (H : HS B S w L) (hx : e x = str l) :
  ∃ w' v, (execOp e ⟨dst, .convert T T2 x, ty, pos, aft, g⟩).run P w = .ok (.value v) w' ∧ ∃ rs, HS B S w' (.osl v l.length 1 (u8s l) rs E :: L) := by
 have hrun := Lib.run_convert_string_bytes (P := P) w T T2 E ⟨l.toArray⟩ hs hd he
 have hsz : (⟨l.toArray⟩ : ByteArray).size = l.length := zgE l
 rw [hsz] at hrun
 have hge := grownCap_ge w l.length 0 E
 have hc : Lib.bytesCells w E ⟨l.toArray⟩ = (u8s l ++ List.replicate (grownCap w l.length 0 E - l.length) (Value.int .u8 0)).toArray := by
  unfold Lib.bytesCells
  rw [hsz]
  apply Array.ext'
  simp [u8s]
 have hnew := Lib.bytesWorld_at_new w E ⟨l.toArray⟩
 have hlen : (Lib.bytesCells w E ⟨l.toArray⟩).size = grownCap w l.length 0 E := by rw [hc]; simp [u8s]; omega
 refine ⟨Lib.bytesWorld w E ⟨l.toArray⟩, sl w.heap.size 0 l.length (grownCap w l.length 0 E), by simp only [execOp, hx, str, Sem.run_bind, hrun, Result.andThen_ok, Sem.run_pure], List.replicate (grownCap w l.length 0 E - l.length) (Value.int .u8 0), ?_⟩
 refine H.push (w' := Lib.bytesWorld w E ⟨l.toArray⟩) ?_ (.inr ⟨w.heap.size, grownCap w l.length 0 E, _, rfl, hge, by simp [u8s], by simp [u8s]; omega, by rw [hnew, hc], .inr ?_⟩) fun b hb => by cases hb; exact Nat.le_refl _
 ·refine ⟨?_, ?_, ?_, by rw [Lib.bytesWorld_size]; omega, fun k hk => Lib.bytesWorld_at_old w E _ k hk⟩ <;> simp [Lib.bytesWorld, World.freeze, World.alloc, World.drew, -World.alloc_eq, -World.drew_eq] <;> split <;> rfl
 ·simp [u8s]
end
end
end
section
structure TSn (P : Program) (T E : TypeId) (z : Value) (zl : LV) (nb sz : Nat) : Prop where
 und : P.underlying T = some (.slice E)
 info : ∃ i, P.info? E = some i ∧ i.zero = some z ∧ i.size = sz ∧ i.bytes = nb
 cells : z.cells = zl.toArray
 len : zl.length = sz
 pos : 0 < sz
 small : nb ≤ 2048
theorem TSn.mk' {P : Program} {T E : TypeId} {z : Value} {zl : LV} {nb sz : Nat} (h1 : P.underlying T = some (.slice E)) (h2 : (P.info? E).map (fun i => (i.zero, i.size, i.bytes)) = some (some z, sz, nb)) (h3 : z.cells = zl.toArray) (h4 : zl.length = sz) (h5 : Nat.blt 0 sz = true) (h6 : Nat.ble nb 2048 = true) : TSn P T E z zl nb sz := by
 refine ⟨h1, ?_, h3, h4, by rw [zkS] at h5; simpa using h5, Nat.le_of_ble_eq_true h6⟩
 cases hi : P.info? E with
 | none => simp [hi] at h2
 | some i =>
  simp only [hi, Option.map_some, Option.some.injEq, Prod.mk.injEq] at h2
  exact ⟨i, rfl, h2.1, h2.2.1, h2.2.2⟩
theorem TSn.tsz {P : Program} {T E : TypeId} {z : Value} {zl : LV} {nb sz : Nat} (h : TSn P T E z zl nb sz) : TSz P E sz := fun w => by
 obtain ⟨i, h1, _, h3, _⟩ := h.info
 simp [sizeOf, typeInfo, h1, h3]
theorem zqZ (z : Array Value) (zl : LV) (hz : z = zl.toArray) : ∀ n, (Builtin.zeroCells z n).toList.length = n * zl.length := fun n => by
 rw [Array.length_toList, size_zeroCells, hz]; simp
section
variable {P : Program} {w : World} {B : Bas} {S : Mem} {L : List Res} {e : Operand → Value} {dst : Option Tmp} {g : Option (Nat × Bool)}
variable {ty : TypeId} {pos : String} {aft : Array Edge} {v v2 z : Value} {x y : Operand} {T E : TypeId} {nb sz N M k : Nat} {zl cs rs ncs : LV}
theorem SlW.first {n : Nat} (h : SlW w v2 n sz ncs) : (Builtin.lenOf v2).run P w = .ok n w ∧ (Builtin.firstCells sz n v2).run P w = .ok ncs.toArray w := by
 rcases h with ⟨⟨a, rfl⟩, rfl, rfl⟩ | ⟨b, o, c, ds, T', fz, rfl, h1, h2, h3, h4⟩
 ·refine ⟨by simp [Builtin.lenOf], ?_⟩
  cases a with
  | none => simp [run_firstCells_none]
  | some a => exact run_firstCells_some (P := P) w sz 0 a 0 0 [] (by simp) fun j u hj => by simp at hj
 ·refine ⟨by simp [Builtin.lenOf, sl], ?_⟩
  have hl : ncs.length = n * sz := by rw [← h4]; exact zjD h3
  refine run_firstCells_some (P := P) w sz n ⟨b, o, none⟩ n c ncs hl fun j u hj => ?_
  have hjl := (List.getElem?_eq_some_iff.1 hj).1
  rw [zeD, zgR h2]
  rw [← h4, zaI, List.getElem?_take, if_pos (by omega), List.getElem?_drop] at hj
  exact hj
theorem zuN (hT : TSn P T E z zl nb sz) (H : HS B S w L) (hk : lkR L k = some (.osl v N sz cs rs E)) (hr : SlW w v2 M sz ncs) (h1 : ∀ u ∈ ncs, u.oneCell' = true) (hb : N + M ≤ 68719476736) :
  ∃ w' v' rs', (Builtin.append_ #[T, T] ty #[v, v2]).run P w = .ok v' w' ∧ HS B S w' (stR L k (.osl v' (N + M) sz (cs ++ ncs) rs' E)) := by
 obtain ⟨i, hi1, hi2, hi3, hi4⟩ := hT.info
 have hpos := hT.pos
 have hsmall := hT.small
 have hbound : (N + M) * nb ≤ 140737488355328 := by
  calc (N + M) * nb ≤ 68719476736 * 2048 := Nat.mul_le_mul hb hsmall
   _ = 140737488355328 := by decide
 obtain ⟨hf1, hf2⟩ := hr.first (P := P)
 have hncs := hr.len
 have hzl : ∀ n, (Builtin.zeroCells z.cells n).toList.length = n * sz := fun n => by rw [zqZ _ _ hT.cells, hT.len]
 rcases H.own k _ hk with ⟨rfl, rfl, rfl, rfl⟩ | ⟨b, c, fz, rfl, g1, g2, g3, g4, g5⟩
 ·by_cases hM : M = 0
  ·subst hM
   have hn : ncs = [] := List.eq_nil_of_length_eq_zero (by omega)
   subst hn
   refine ⟨w, .slice none 0 0, [], ?_, H.upd hk (Nat.le_refl _) rfl rfl rfl (fun _ _ _ => rfl) (.inl ⟨rfl, rfl, rfl, rfl⟩) fun b hb => by cases hb⟩
   simp [Builtin.append_, Go.underlying, hT.und, sizeOf, typeInfo, hi1, hi3, hf1, hf2]
  ·rcases hr with ⟨_, h, _⟩ | ⟨b2, o2, c2, cs2, T2, fz2, rfl, hc2, hb2, ho2, hp2⟩
   ·exact absurd h hM
   ·have hnews : ∀ j u, ncs[j]? = some u → w.cell? ((⟨b2, o2, none⟩ : Addr).add j) = some u := fun j u hj => by
     have hjl := (List.getElem?_eq_some_iff.1 hj).1
     rw [zeD, zgR hb2]
     rw [← hp2, zaI, List.getElem?_take, if_pos (by omega), List.getElem?_drop] at hj
     exact hj
    have hrun := run_append_nil (P := P) w T ty E i z hT.und hi1 hi2 ⟨b2, o2, none⟩ M c2 ncs (by rw [hi3]; exact hncs) hnews (by omega) (by omega) (by rw [hi4]; rw [Nat.zero_add] at hbound; omega)
    have hge := grownCap_ge w M 0 E
    generalize hG : grownCap w M 0 E = G at hrun hge
    have hZl := hzl (G - M)
    generalize hZ : Builtin.zeroCells z.cells (G - M) = Z at hrun hZl
    have hcells : ncs.toArray ++ Z = (ncs ++ Z.toList).toArray := by apply Array.ext'; simp
    rw [hcells] at hrun
    refine ⟨_, _, Z.toList, hrun, ?_⟩
    refine H.upd hk (by simp) rfl rfl rfl (fun j hj _ => ?_) (.inr ⟨w.heap.size, G, (0, 0), ?_, by omega, ?_, ?_, ?_, .inl rfl⟩) fun b hb => ?_
    ·exact (Ext.trans (Ext.drew w) (Ext.alloc w.drew _)).block j hj
    ·rw [Nat.zero_add]
    ·simp [hncs]
    ·refine Nat.le_of_eq (Eq.symm ?_); rw [List.nil_append, List.length_append, hncs, hZl, ← Nat.add_mul]; congr 1; omega
    ·rw [List.nil_append]; exact zaE w.drew _
    ·cases hb; exact .inr (Nat.le_refl _)
 ·by_cases hroom : N + M ≤ c
  ·have hcap : N * sz + M * sz ≤ c * sz := by rw [← Nat.add_mul]; exact Nat.mul_le_mul_right sz hroom
   obtain ⟨w', he, hb', hs, q4, q5, q6, q7⟩ := zlD (P := P) (b := b) (o := N * sz) ncs 0 w (cs ++ rs) h1 g4 g5 (by omega)
   have hlay : lay (cs ++ rs) (N * sz + 0) ncs = cs ++ ncs ++ rs.drop ncs.length := by
    apply List.ext_getElem?
    intro j
    rw [List.length_append] at g3
    rw [zgS, Nat.add_zero, List.append_assoc]
    by_cases hj : j < N * sz
    ·rw [if_neg (by omega), List.getElem?_append_left (by omega), List.getElem?_append_left (by omega)]
    ·by_cases hj2 : j < N * sz + ncs.length
     ·rw [if_pos ⟨by omega, hj2, by rw [List.length_append]; omega⟩, List.getElem?_append_right (by omega), List.getElem?_append_left (by omega), g2]
     ·rw [if_neg (by omega), List.getElem?_append_right (by omega), List.getElem?_append_right (by omega), List.getElem?_append_right (by omega), List.getElem?_drop]
      congr 1; omega
   rw [hlay] at hb'
   refine ⟨w', sl b 0 (N + M) c, rs.drop ncs.length, ?_, H.upd hk (by omega) q4 q5 q6 (fun j _ hne => q7 j fun e => hne (by rw [e]; rfl)) (.inr ⟨b, c, fz, rfl, hroom, ?_, ?_, hb', ?_⟩) fun b' hb' => .inl hb'⟩
   ·simp [Builtin.append_, Go.underlying, hT.und, sizeOf, typeInfo, hi1, hi3, hf1, hf2, hroom, sl, zeD, he]
   ·rw [List.length_append, g2, hncs, Nat.add_mul]
   ·rw [List.length_append] at g3
    simp only [List.length_append, List.length_drop]
    omega
   ·have : (cs ++ ncs ++ rs.drop ncs.length).length = (cs ++ rs).length := by
     rw [List.length_append] at g3
     simp only [List.length_append, List.length_drop]
     omega
    rw [this]; exact g5
  ·rcases hr with ⟨_, h, _⟩ | ⟨b2, o2, c2, cs2, T2, fz2, rfl, hc2, hb2, ho2, hp2⟩
   ·subst h; omega
   ·have hnews : ∀ j u, ncs[j]? = some u → w.cell? ((⟨b2, o2, none⟩ : Addr).add j) = some u := fun j u hj => by
     have hjl := (List.getElem?_eq_some_iff.1 hj).1
     rw [zeD, zgR hb2]
     rw [← hp2, zaI, List.getElem?_take, if_pos (by omega), List.getElem?_drop] at hj
     exact hj
    have holds : ∀ j u, cs[j]? = some u → w.cell? ((⟨b, 0, none⟩ : Addr).add j) = some u := fun j u hj => by
     rw [zeD, zgR g4, Nat.zero_add, List.getElem?_append_left (List.getElem?_eq_some_iff.1 hj).1]
     exact hj
    have hfit := growslice_fits (bytes := nb) (Nat.lt_of_not_le hroom) hbound
    have hrun := run_append_grow (P := P) w T ty E i z hT.und hi1 hi2 ⟨b, 0, none⟩ N c cs (by rw [hi3]; exact g2) holds ⟨b2, o2, none⟩ M c2 ncs (by rw [hi3]; exact hncs) hnews (Nat.lt_of_not_le hroom) (by omega) (by rw [hi4]; exact hfit)
    have hge := grownCap_ge w (N + M) c E
    generalize hG : grownCap w (N + M) c E = G at hrun hge
    have hZl := hzl (G - (N + M))
    generalize hZ : Builtin.zeroCells z.cells (G - (N + M)) = Z at hrun hZl
    have hcells : cs.toArray ++ ncs.toArray ++ Z = (cs ++ ncs ++ Z.toList).toArray := by apply Array.ext'; simp
    rw [hcells] at hrun
    refine ⟨_, _, Z.toList, hrun, ?_⟩
    refine H.upd hk (by simp) rfl rfl rfl (fun j hj _ => ?_) (.inr ⟨w.heap.size, G, (0, 0), rfl, hge, ?_, ?_, ?_, .inl rfl⟩) fun b hb => ?_
    ·exact (Ext.trans (Ext.drew w) (Ext.alloc w.drew _)).block j hj
    ·rw [List.length_append, g2, hncs, Nat.add_mul]
    ·refine Nat.le_of_eq (Eq.symm ?_); simp only [List.length_append, hZl, g2, hncs, ← Nat.add_mul]; congr 1; omega
    ·exact zaE w.drew _
    ·cases hb; exact .inr (Nat.le_refl _)
theorem yvM (hT : TSn P T E z zl nb sz) (H : HS B S w L) (hx : e x = v) (hk : lkR L k = some (.osl v N sz cs rs E)) (hy : e y = v2) (hr : SlW w v2 M sz ncs) (h1 : ∀ u ∈ ncs, u.oneCell' = true) (hb : N + M ≤ 68719476736) :
  ∃ w' v' rs', (execOp e ⟨dst, .call ⟨.builtin .append, #[x, y], #[T, T]⟩, ty, pos, aft, g⟩).run P w = .ok (.value v') w' ∧ HS B S w' (stR L k (.osl v' (N + M) sz (cs ++ ncs) rs' E)) := by
 obtain ⟨w', v', rs', hrun, H'⟩ := zuN (ty := ty) hT H hk hr h1 hb
 exact ⟨w', v', rs', by simp [execOp, resolve, invoke, builtin, hx, hy, hrun], H'⟩
theorem zsH {T2 : TypeId} {l : Bs} (hT : TSn P T E z zl nb 1) (h2 : P.underlying T2 = some .string) (H : HS B S w L) (hk : lkR L k = some (.osl v N 1 cs rs E)) (hb : N + l.length ≤ 68719476736) :
  ∃ w' v' rs', (Builtin.append_ #[T, T2] ty #[v, str l]).run P w = .ok v' w' ∧ HS B S w' (stR L k (.osl v' (N + l.length) 1 (cs ++ u8s l) rs' E)) := by
 obtain ⟨i, hi1, hi2, hi3, hi4⟩ := hT.info
 have hsmall := hT.small
 have hbound : (N + l.length) * nb ≤ 140737488355328 := by
  calc (N + l.length) * nb ≤ 68719476736 * 2048 := Nat.mul_le_mul hb hsmall
   _ = 140737488355328 := by decide
 have hsz : (⟨l.toArray⟩ : ByteArray).size = l.length := zgE l
 have hmap : (Array.map (fun b : UInt8 => Value.int IntKind.u8 (b.toNat : Int)) (⟨l.toArray⟩ : ByteArray).data) = (u8s l).toArray := by simp [u8s]
 have hfst : (Builtin.firstCells 1 l.length (str l)).run P w = .ok (u8s l).toArray w := by
  have hx : (⟨l.toArray⟩ : ByteArray).extract 0 l.length = ⟨l.toArray⟩ := by rw [znK]; simp
  simp only [Builtin.firstCells, str, hx, Sem.run_pure]
  rw [← hmap]
 have hlen : (Builtin.lenOf (str l)).run P w = .ok l.length w := by simp [Builtin.lenOf, str, hsz]
 have hzl : ∀ n, (Builtin.zeroCells z.cells n).toList.length = n := fun n => by rw [zqZ _ _ hT.cells, hT.len, Nat.mul_one]
 rcases H.own k _ hk with ⟨rfl, rfl, rfl, rfl⟩ | ⟨b, c, fz, rfl, g1, g2, g3, g4, g5⟩
 ·by_cases hM : l.length = 0
  ·have hn : l = [] := List.eq_nil_of_length_eq_zero hM
   subst hn
   refine ⟨w, .slice none 0 0, [], ?_, H.upd hk (Nat.le_refl _) rfl rfl rfl (fun _ _ _ => rfl) (.inl ⟨rfl, rfl, rfl, rfl⟩) fun b hb => by cases hb⟩
   have h5 := hlen; have h6 := hfst
   simp only [List.length_nil] at h5 h6
   simp [Builtin.append_, Go.underlying, hT.und, h2, sizeOf, typeInfo, hi1, hi3, h5, h6]
  ·have hrun := run_append_nil_string (P := P) w T T2 ty E i z hT.und h2 hi1 hi2 ⟨l.toArray⟩ (by rw [hsz]; omega) (by rw [hsz]; omega) (by rw [hi4, hsz]; rw [Nat.zero_add] at hbound; omega)
   rw [hsz] at hrun
   have hge := grownCap_ge w l.length 0 E
   generalize hG : grownCap w l.length 0 E = G at hrun hge
   have hZl := hzl (G - l.length)
   generalize hZ : Builtin.zeroCells z.cells (G - l.length) = Z at hrun hZl
   have hcells : (Array.map (fun b : UInt8 => Value.int IntKind.u8 (b.toNat : Int)) (⟨l.toArray⟩ : ByteArray).data) ++ Z = (u8s l ++ Z.toList).toArray := by rw [hmap]; apply Array.ext'; simp
   rw [hcells] at hrun
   refine ⟨_, _, Z.toList, hrun, ?_⟩
   refine H.upd hk (by simp) rfl rfl rfl (fun j hj _ => ?_) (.inr ⟨w.heap.size, G, (0, 0), ?_, by omega, ?_, ?_, ?_, .inl rfl⟩) fun b hb => ?_
   ·exact (Ext.trans (Ext.drew w) (Ext.alloc w.drew _)).block j hj
   ·rw [Nat.zero_add]
   ·simp [zeC]
   ·rw [List.nil_append, List.length_append, hZl, zeC]; omega
   ·rw [List.nil_append]; exact zaE w.drew _
   ·cases hb; exact .inr (Nat.le_refl _)
 ·by_cases hroom : N + l.length ≤ c
  ·obtain ⟨w', he, hb', hs, q4, q5, q6, q7⟩ := zlD (P := P) (b := b) (o := N) (u8s l) 0 w (cs ++ rs) (yvN l) g4 g5 (by rw [zeC]; omega)
   have hlay : lay (cs ++ rs) (N + 0) (u8s l) = cs ++ u8s l ++ rs.drop l.length := by
    apply List.ext_getElem?
    intro j
    rw [List.length_append] at g3
    rw [zgS, Nat.add_zero, List.append_assoc, zeC]
    by_cases hj : j < N
    ·rw [if_neg (by omega), List.getElem?_append_left (by omega), List.getElem?_append_left (by omega)]
    ·by_cases hj2 : j < N + l.length
     ·rw [if_pos ⟨by omega, hj2, by rw [List.length_append]; omega⟩, List.getElem?_append_right (by omega), List.getElem?_append_left (by rw [zeC]; omega), g2, Nat.mul_one]
     ·rw [if_neg (by omega), List.getElem?_append_right (by omega), List.getElem?_append_right (by omega), List.getElem?_append_right (by rw [zeC]; omega), List.getElem?_drop]
      congr 1; rw [zeC]; omega
   rw [hlay] at hb'
   have hcap : (cs ++ u8s l ++ rs.drop l.length).length = (cs ++ rs).length := by
    rw [List.length_append] at g3
    simp only [List.length_append, List.length_drop, zeC]
    omega
   refine ⟨w', sl b 0 (N + l.length) c, rs.drop l.length, ?_, H.upd hk (by omega) q4 q5 q6 (fun j _ hne => q7 j fun e => hne (by rw [e]; rfl)) (.inr ⟨b, c, fz, rfl, hroom, ?_, by rw [hcap]; exact g3, hb', by rw [hcap]; exact g5⟩) fun b' hb' => .inl hb'⟩
   ·simp [Builtin.append_, Go.underlying, hT.und, h2, sizeOf, typeInfo, hi1, hi3, hlen, hfst, hroom, sl, zeD, he]
   ·rw [List.length_append, g2, zeC]; omega
  ·have holds : ∀ j u, cs[j]? = some u → w.cell? ((⟨b, 0, none⟩ : Addr).add j) = some u := fun j u hj => by
    rw [zeD, zgR g4, Nat.zero_add, List.getElem?_append_left (List.getElem?_eq_some_iff.1 hj).1]
    exact hj
   have hfit := growslice_fits (bytes := nb) (Nat.lt_of_not_le hroom) hbound
   have hrun := Lib.run_append_grow_string (P := P) w T T2 ty E i z hT.und h2 hi1 hi2 ⟨b, 0, none⟩ N c cs (by rw [hi3]; exact g2) holds ⟨l.toArray⟩ (by rw [hsz]; exact Nat.lt_of_not_le hroom) (by rw [hsz]; omega) (by rw [hi4, hsz]; exact hfit)
   rw [hsz] at hrun
   have hge := grownCap_ge w (N + l.length) c E
   generalize hG : grownCap w (N + l.length) c E = G at hrun hge
   have hZl := hzl (G - (N + l.length))
   generalize hZ : Builtin.zeroCells z.cells (G - (N + l.length)) = Z at hrun hZl
   have hsc : Lib.strCells ⟨l.toArray⟩ = u8s l := by simp [Lib.strCells, u8s]
   rw [hsc] at hrun
   have hcells : cs.toArray ++ (u8s l).toArray ++ Z = (cs ++ u8s l ++ Z.toList).toArray := by apply Array.ext'; simp
   rw [hcells] at hrun
   refine ⟨_, _, Z.toList, hrun, ?_⟩
   refine H.upd hk (by simp) rfl rfl rfl (fun j hj _ => ?_) (.inr ⟨w.heap.size, G, (0, 0), rfl, hge, ?_, ?_, ?_, .inl rfl⟩) fun b hb => ?_
   ·exact (Ext.trans (Ext.drew w) (Ext.alloc w.drew _)).block j hj
   ·rw [List.length_append, g2, zeC]; omega
   ·simp only [List.length_append, hZl, g2, zeC]; omega
   ·exact zaE w.drew _
   ·cases hb; exact .inr (Nat.le_refl _)
theorem HS.nilOwn (H : HS B S w L) (sz : Nat) (E : TypeId) : HS B S w (.osl (.slice none 0 0) 0 sz [] [] E :: L) :=
 H.push (Ext.refl w) (.inl ⟨rfl, rfl, rfl, rfl⟩) fun b hb => by cases hb
theorem toList_range_map' (zl : LV) (sz n : Nat) (hz : zl.length = sz) (hp : 0 < sz) : ((Array.range (n * sz)).map fun x => (zl.toArray : Array Value)[x % sz]!).toList = (List.replicate n zl).flatten := by
 subst hz
 apply List.ext_getElem?
 intro j
 have hfl : ((List.replicate n zl).flatten).length = n * zl.length := by simp
 by_cases hj : j < n * zl.length
 ·have h1 : j % zl.length < zl.length := Nat.mod_lt _ hp
  have h2 : ((List.replicate n zl).flatten)[j]? = zl[j % zl.length]? := by
   clear h1 hfl
   induction n generalizing j with
   | zero => omega
   | succ n ih =>
    rw [List.replicate_succ, List.flatten_cons]
    by_cases hj2 : j < zl.length
    ·rw [List.getElem?_append_left hj2, Nat.mod_eq_of_lt hj2]
    ·rw [List.getElem?_append_right (by omega), ih (j - zl.length) (by rw [Nat.add_mul] at hj; omega), ← Nat.mod_eq_sub_mod (by omega)]
  rw [h2]
  simp [hj, h1]
 ·rw [List.getElem?_eq_none (by simp; omega), List.getElem?_eq_none (by simpa using hj)]
theorem fillL_slice' {ps : List (Nat × Value)} {cs l : LV} (h : zvW ((List.range' 0 N).map fun i => (i * sz, sz)) cs ps = some l) : Instr.fill (fun i => some (i * sz, sz)) cs.toArray ps = some l.toArray :=
 yeI (fun i => by simpa using yaI sz N 0 i) ps cs l h
theorem zzR {ps : List (Nat × Operand)} {vals : List (Nat × Value)} {l : LV} (hT : TSn P T E z zl nb sz) (hp : ztQ e ps = vals)
  (hl : zvW ((List.range' 0 N).map fun i => (i * sz, sz)) (List.replicate N zl).flatten vals = some l) (hN : Nat.ble (N * sz) 16777216 = true) :
  (execOp e ⟨dst, .buildSlice T N ps.toArray, ty, pos, aft, g⟩).run P w = .ok (.value (sl w.heap.size 0 N N)) (w.alloc (.cells l.toArray E)) := by
 obtain ⟨i, hi1, hi2, hi3, hi4⟩ := hT.info
 have hpos := hT.pos
 have e1 : (ps.toArray.map fun (i, x) => (i, e x)) = vals.toArray := by
  rw [← hp, ← yfF]; simp
 have hf := fillL_slice' hl
 have hN' : ¬ 16777216 < N * sz := by have := Nat.le_of_ble_eq_true hN; omega
 simp only [execOp, Sem.run_bind]
 rw [e1]
 by_cases h0 : N = 0
 ·subst h0
  simp only [List.replicate, List.flatten_nil] at hf
  have hr' : (Array.map (fun _ => (default : Value)) (Array.range 0)) = #[] := by simp
  simp [Instr.buildSlice, Go.underlying, hT.und, sizeOf, typeInfo, hi1, hi3, newRow, sl]
  rw [hr', hf]
  simp
 ·have hr := toList_range_map' zl sz N hT.len hpos
  have hr' : ((Array.range (N * sz)).map fun x => (zl.toArray : Array Value)[x % sz]!) = ((List.replicate N zl).flatten).toArray := by rw [← hr]
  have hne : ¬ N * sz = 0 := by
   intro h; rcases Nat.mul_eq_zero.1 h with h | h <;> omega
  simp at hr'
  have hz2 : zl.length = sz := hT.len
  simp only [Instr.buildSlice, Go.underlying, hT.und, sizeOf, typeInfo, hi1, hi3, Sem.run_bind, run_program, Result.andThen_ok, Sem.run_pure, if_neg hN', if_neg hne, zeroValue, hi2, hT.cells]
  simp [hz2, hr', newRow, sl]
  rw [hf]
  simp
theorem ykU {ps : List (Nat × Operand)} {vals : List (Nat × Value)} {l : LV} (hT : TSn P T E z zl nb sz) (H : HS B S w L) (hp : ztQ e ps = vals)
  (hl : zvW ((List.range' 0 N).map fun i => (i * sz, sz)) (List.replicate N zl).flatten vals = some l) (hN : Nat.ble (N * sz) 16777216 = true) (hlen : l.length = N * sz) :
  ∃ w' v, (execOp e ⟨dst, .buildSlice T N ps.toArray, ty, pos, aft, g⟩).run P w = .ok (.value v) w' ∧ HS B S w' (.osl v N sz l [] E :: L) := by
 have hrun := zzR (P := P) (w := w) (dst := dst) (ty := ty) (pos := pos) (aft := aft) (g := g) hT hp hl hN
 refine ⟨_, _, hrun, H.push (Ext.alloc w _) (.inr ⟨w.heap.size, N, (0, 0), rfl, Nat.le_refl _, hlen, by rw [List.append_nil]; exact Nat.le_of_eq hlen.symm, by rw [List.append_nil]; exact zaE w _, .inl rfl⟩) fun b hb => by cases hb; exact Nat.le_refl _⟩
theorem a_make {a b : Int} {k1 k2 : IntKind} {N C : Nat} (hT : TSn P T E z zl nb sz) (H : HS B S w L) (hx : e x = .int k1 a) (hy : e y = .int k2 b) (ha : a = (N : Int)) (hb : b = (C : Int)) (hNC : N ≤ C) (hC : C ≤ 68719476736) :
  ∃ w' v, (execOp e ⟨dst, .makeSlice T x y, ty, pos, aft, g⟩).run P w = .ok (.value v) w' ∧ HS B S w' (.osl v N sz (List.replicate N zl).flatten (List.replicate (C - N) zl).flatten E :: L) := by
 obtain ⟨i, hi1, hi2, hi3, hi4⟩ := hT.info
 have hsmall := hT.small
 subst ha; subst hb
 have hbb : (i.bytes : Int) * (C : Int) ≤ 281474976710656 := by
  rw [hi4, ← Int.natCast_mul]
  have : nb * C ≤ 2048 * 68719476736 := Nat.mul_le_mul hsmall hC
  omega
 have hr := run_make (P := P) w T E i z hT.und hi1 hi2 k1 k2 N C (by omega) (by omega) hbb (by omega)
 have hc : madeCells z.cells (((C : Int).toNat) * i.size) = ((List.replicate N zl).flatten ++ (List.replicate (C - N) zl).flatten).toArray := by
  rw [hi3, Int.toNat_natCast, hT.cells]
  unfold madeCells
  have h1 := toList_range_map' zl sz C hT.len hT.pos
  have h2 : (zl.toArray).size = sz := by simpa using hT.len
  rw [h2]
  apply Array.ext'
  rw [h1, List.toList_toArray, ← List.flatten_append, List.replicate_append_replicate]
  congr 2; omega
 rw [hc, Int.toNat_natCast, Int.toNat_natCast] at hr
 refine ⟨_, _, by simp only [execOp, hx, hy, Sem.run_bind, hr, Result.andThen_ok, Sem.run_pure], H.push (Ext.alloc w _) (.inr ⟨w.heap.size, C, (0, 0), rfl, hNC, ?_, ?_, zaE w _, .inl rfl⟩) fun b hb => by cases hb; exact Nat.le_refl _⟩
 ·rw [List.length_flatten]; simp [hT.len]
 ·refine Nat.le_of_eq (Eq.symm ?_); simp [hT.len]; rw [← Nat.add_mul]; congr 1; omega
section
variable {α : Type} [Rp α]
theorem HS.fixX {xs : List α} (H : HS B S w L) {k : Nat} (hk : lkR L k = some (.osl v xs.length sz cs rs T)) (hr : RL S cs xs) (hs : Rp.sz α = sz := by rfl) :
  ∃ S', Mem.le S S' ∧ RdS S' v xs ∧ HS B S' w (rmR L k) := by
 obtain ⟨S', hle, h1, H'⟩ := H.fixS hk
 subst hs
 exact ⟨S', hle, ⟨cs, h1, hr.mono hle⟩, H'⟩
theorem yuL {α : Type} [Rp α] {i : Int} {k b M c0 : Nat} {xs r : List α} {u : α} {l : LV} {T' : TypeId} (ts : TSz P T sz) (hs : Rp.sz α = sz) (H : HS B S w L) (hk : lkR L k = some (.osl (sl b 0 M c0) xs.length sz cs rs T')) (h0 : RL S cs xs) (hp : e x = .pointer (some ⟨b, 0 + i.toNat * sz, none⟩)) (hy : e y = v) (hv : zrZ v l) (hu : Rp.rep S l u) (hi : setL xs i u = some r) :
  ∃ w', (execOp e ⟨none, .store T x y, ty, pos, aft, g⟩).run P w = .ok .skip w' ∧ ∃ cs', HS B S w' (stR L k (.osl (sl b 0 M c0) r.length sz cs' rs T')) ∧ RL S cs' r := by
 obtain ⟨_, h1, h2⟩ := zuC hi
 obtain ⟨w', hrun, H'⟩ := yvU (g := g) (ty := ty) (pos := pos) (aft := aft) ts H hk hp h1 hy hv (by rw [Rp.len hu, hs]) (Rp.one hu)
 have hl : r.length = xs.length := by rw [← h2, List.length_set]
 rw [← hl] at H'
 exact ⟨w', hrun, _, H', ynI h0 hu hi hs⟩
theorem yqU {T2 : TypeId} {k : Nat} {xs r l : Bs} (hT : TSn P T E z zl nb 1) (h2 : P.underlying T2 = some .string) (H : HS B S w L) (hx : e x = v) (hk : lkR L k = some (.osl v xs.length 1 cs rs E)) (h0 : RL S cs xs) (hy : e y = str l) (ha : app xs l = some r) :
  ∃ w' v', (execOp e ⟨dst, .call ⟨.builtin .append, #[x, y], #[T, T2]⟩, ty, pos, aft, g⟩).run P w = .ok (.value v') w' ∧ ∃ cs' rs', HS B S w' (stR L k (.osl v' r.length 1 cs' rs' E)) ∧ RL S cs' r := by
 obtain ⟨hb, hr⟩ := zjZ ha
 obtain ⟨w', v', rs', hrun, H'⟩ := zsH (ty := ty) hT h2 H hk hb
 subst hr
 rw [← List.length_append] at H'
 exact ⟨w', v', by simp [execOp, resolve, invoke, builtin, hx, hy, hrun], _, rs', H', h0.append (RL.of_u8s l)⟩
theorem xdD {a b : Int} {k1 k2 : IntKind} {zx : α} {r : List α} (hT : TSn P T E z zl nb sz) (hs : Rp.sz α = sz) (H : HS B S w L) (hx : e x = .int k1 a) (hy : e y = .int k2 b) (hz : Rp.rep S zl zx) (hm : mkL a zx = some r) (hab : a ≤ b) (hb : b ≤ (LIM : Int)) :
  ∃ w' v, (execOp e ⟨dst, .makeSlice T x y, ty, pos, aft, g⟩).run P w = .ok (.value v) w' ∧ ∃ cs rs, HS B S w' (.osl v r.length sz cs rs E :: L) ∧ RL S cs r := by
 obtain ⟨h1, h2, h3⟩ := yuC hm
 have hb' : b ≤ 68719476736 := hb
 obtain ⟨w', v, hrun, H'⟩ := a_make (dst := dst) (ty := ty) (pos := pos) (aft := aft) (g := g) (N := a.toNat) (C := b.toNat) hT H hx hy (by omega) (by omega) (by omega) (by omega)
 have hl : r.length = a.toNat := by rw [← h3]; simp
 rw [← hl] at H'
 refine ⟨w', v, hrun, _, _, H', ?_⟩
 rw [hl, ← h3]; exact RL.replicate hz _
end
theorem zaN {a b : Bool} (h : (a && b) = true) : a = true := by rw [Bool.and_eq_true] at h; exact h.1
theorem zaV {a b : Bool} (h : (a && b) = true) : b = true := by rw [Bool.and_eq_true] at h; exact h.2
end
end
section
abbrev itT (l : Bs) (p : Nat) : Obj := .stringIter ⟨l.toArray⟩ p
def dec (l : Bs) (p : Nat) : Nat × Nat := Utf8.decode ⟨l.toArray⟩ p
def nxR (l : Bs) (p : Nat) : Int := ((dec l p).1 : Int)
def nxP (l : Bs) (p : Nat) : Nat := bif decide (p < l.length) then p + (dec l p).2 else p
def nxV (l : Bs) (p : Nat) : Value := bif decide (p < l.length) then .tuple #[.bool true, .int .i64 (p : Int), .int .i32 (nxR l p)] else .tuple #[.bool false]
section
variable {P : Program} {ops : Array Oper} {Q : Exit → Act → World → Prop} {rest : List Oper} {n : Nat} {m : FM} {w : World} {B : Bas} {S : Mem} {L : List Res}
variable {d : Nat} {op : Op} {ty : TypeId} {pos : String} {aft : Array Edge} {c v : Value} {x y : Operand} {T T' : TypeId} {e : Operand → Value} {dst : Option Tmp} {g : Option (Nat × Bool)}
theorem p_ofc {φ : World → Prop} (h : ∃ w', (execOp (evO n m) ⟨some d, op, ty, pos, aft, none⟩).run P w = .ok (.value c) w' ∧ φ w') (hr : ∀ w', φ w' → wpList P ops Q rest (fr n ((d, c) :: m)) w') :
  wpList P ops Q (⟨some d, op, ty, pos, aft, none⟩ :: rest) (fr n m) w := by
 obtain ⟨w', h1, h2⟩ := h
 exact xdB h1 (hr w' h2)
theorem yfY {s : ByteArray} {p b : Nat} (h : w.heap[b]? = some (.stringIter s p)) : (getObj b).run P w = .ok (.stringIter s p) w := by
 simp [getObj, Sem.run, h]
theorem yoW {s : ByteArray} {p b : Nat} {o : Obj} (h : w.heap[b]? = some (.stringIter s p)) : (setObj b o).run P w = .ok () { w with heap := w.heap.setIfInBounds b o } := by
 simp [setObj, Sem.run, h]
theorem yuY {l : Bs} (H : HS B S w L) (hu : P.underlying T = some .string) (hx : e x = str l) :
  ∃ w' b, (execOp e ⟨dst, .range T x, ty, pos, aft, g⟩).run P w = .ok (.value (.pointer (some ⟨b, 0, none⟩))) w' ∧ HS B S w' (.obj b (itT l 0) :: L) := by
 refine ⟨w.alloc (itT l 0), w.heap.size, ?_, H.push (Ext.alloc w _) (zaE w _) fun b hb => by cases hb; exact Nat.le_refl _⟩
 simp [execOp, Instr.range, Go.underlying, hu, hx, str, itT]
theorem xaA {l : Bs} {p k b : Nat} (H : HS B S w L) (hx : e x = .pointer (some ⟨b, 0, none⟩)) (hk : lkR L k = some (.obj b (itT l p))) :
  ∃ w', (execOp e ⟨dst, .next x true, ty, pos, aft, g⟩).run P w = .ok (.value (nxV l p)) w' ∧ HS B S w' (stR L k (.obj b (itT l (nxP l p)))) := by
 have hb : w.heap[b]? = some (itT l p) := H.own k _ hk
 have hsz : (⟨l.toArray⟩ : ByteArray).size = l.length := zgE l
 by_cases hp : p < l.length
 ·have hblt := lt_of_heap hb
  refine ⟨{ w with heap := w.heap.setIfInBounds b (itT l (nxP l p)) }, ?_, H.upd hk (by simp) rfl rfl rfl (fun i _ hne => ?_) ?_ fun b' hb' => .inl hb'⟩
  ·simp [execOp, Instr.next, hx, yfY hb, hsz, hp, nxV, nxP, nxR, dec, yoW hb, goInt]
  ·have hib : i ≠ b := fun e => hne (by rw [e]; rfl)
   show (w.heap.setIfInBounds b _)[i]? = _
   rw [Array.getElem?_setIfInBounds_ne (Ne.symm hib)]
  ·show (w.heap.setIfInBounds b _)[b]? = _
   simp [hblt]
 ·refine ⟨w, ?_, ?_⟩
  ·simp [execOp, Instr.next, hx, yfY hb, hsz, hp, nxV]
  ·have e1 : nxP l p = p := by simp [nxP, hp]
   rw [e1]
   have e2 : stR L k (.obj b (itT l p)) = L := by
    clear H
    induction L generalizing k with
    | nil => rfl
    | cons r L ih =>
     cases k with
     | zero => simp only [lkR, Option.some.injEq] at hk; rw [hk]; rfl
     | succ k => simp only [lkR] at hk; simp only [stR]; rw [ih hk]
   rw [e2]; exact H
theorem znH {a : Addr} (hx : e x = .pointer (some a)) : (execOp e ⟨dst, .nilCheck x, ty, pos, aft, g⟩).run P w = .ok (.value (.pointer (some a))) w := by
 simp [execOp, hx]
def zpF (w : World) : Mem := fun b => w.heap[b]?
theorem ykZ (w : World) : Sub (zpF w) w := fun _ _ h => h
theorem RdS.ofOwn {α : Type} [Rp α] {xs : List α} {k sz : Nat} {cs rs : LV} (H : HS B S w L) (hk : lkR L k = some (.osl v xs.length sz cs rs T)) (hr : RL S cs xs) (hs : Rp.sz α = sz := by rfl) : RdS (zpF w) v xs := by
 subst hs
 exact ⟨cs, H.slW hk, hr.mono H.sub⟩
theorem ykI : args? n m [] = [] := rfl
theorem zyZ {l : List Operand} {vs : LV} (h : evO n m x = v) (t : args? n m l = vs) : args? n m (x :: l) = v :: vs := by rw [← h, ← t]; rfl
theorem HS.ownOne {k N sz : Nat} {cs rs : LV} (H : HS B S w L) (hk : lkR L k = some (.osl v N sz cs rs T)) : v.oneCell' = true := by
 rcases H.own k _ hk with ⟨h, _⟩ | ⟨b, c, fz, h, _⟩ <;> rw [h] <;> rfl
def BA (b : Nat) (a : Value) : Prop := a = .pointer none ∨ a = .pointer (some ⟨b, 0, none⟩)
def ypP : LV := (List.range 20).map fun i => Value.int .u64 ((10 ^ i : Nat) : Int)
def TB (S : Mem) : Prop := ∃ t fz, S 3 = some (.cells ypP.toArray t fz)
theorem TB.mono {S T : Mem} (h : TB S) (hl : Mem.le S T) : TB T := by
 first
 | exact trivial
 | (obtain ⟨t, fz, h⟩ := h; exact ⟨t, fz, hl _ _ h⟩)
structure GV (S : Mem) : Prop where
 mx : ∃ ds T fz m, S 0 = some (.cells ds T fz) ∧ ds[0]? = some (.int .i64 m)
 tb : TB S
theorem GV.mono {S T : Mem} (h : GV S) (hl : Mem.le S T) : GV T := by
 obtain ⟨⟨ds, E, fz, m, h1, h2⟩, h3⟩ := h
 exact ⟨⟨ds, E, fz, m, hl _ _ h1, h2⟩, h3.mono hl⟩
theorem GV.cell (h : GV S) (hS : Sub S w) : ∃ m, w.cell? ⟨0, 0, none⟩ = some (.int .i64 m) := by
 obtain ⟨⟨ds, E, fz, m, h1, h2⟩, _⟩ := h
 exact ⟨m, by simp [World.cell?, hS _ _ h1, h2]⟩
end
end
section
theorem xaI (a : UInt32) (b : Int) (h : 0 ≤ b) : Int.tmod (a.toNat : Int) b = ((i32 (Int.tmod (a.toNat : Int) b)).toNat : Int) := by
 have h1 := a.toNat_lt
 have h2 : 0 ≤ Int.tmod (a.toNat : Int) b := Int.tmod_nonneg _ (by omega)
 have h3 : Int.tmod (a.toNat : Int) b ≤ (a.toNat : Int) := by
  obtain ⟨n, rfl⟩ := Int.eq_ofNat_of_zero_le h
  rw [← Int.ofNat_tmod]; have := Nat.mod_le a.toNat n; omega
 rw [yoP h2 (by omega)]
theorem xaU (a : UInt64) (b : Int) (h : 0 ≤ b) : Int.tmod (a.toNat : Int) b = ((i64 (Int.tmod (a.toNat : Int) b)).toNat : Int) := by
 have h1 := a.toNat_lt
 have h2 : 0 ≤ Int.tmod (a.toNat : Int) b := Int.tmod_nonneg _ (by omega)
 have h3 : Int.tmod (a.toNat : Int) b ≤ (a.toNat : Int) := by
  obtain ⟨n, rfl⟩ := Int.eq_ofNat_of_zero_le h
  rw [← Int.ofNat_tmod]; have := Nat.mod_le a.toNat n; omega
 rw [ypJ h2 (by omega)]
section
variable {P : Program} {w : World} {B : Bas} {S : Mem} {L : List Res} {T T' : TypeId} {e : Operand → Value} {x y : Operand} {v : Value} {dst : Option Tmp} {pos : String} {aft : Array Edge} {ty : TypeId} {g : Option (Nat × Bool)}
end
end
section
def EqR (P : Program) (n : Nat) (T : TypeId) (x y : Value) (t : Bool) : Prop := ∀ d w, (Op.equalIn (d + n) T x y).run P w = .ok t w
variable {P : Program} {n m : Nat} {T E : TypeId} {x y : Value} {t u : Bool}
theorem EqR.up (h : EqR P n T x y t) (k : Nat) : EqR P (k + n) T x y t := fun d w => by have := h (d + k) w; rwa [Nat.add_assoc] at this
theorem EqR.le (h : EqR P n T x y t) (k : Nat) (hk : n ≤ k) : EqR P k T x y t := by have := h.up (k - n); rwa [Nat.sub_add_cancel hk] at this
theorem eqI {k : IntKind} {a b : Int} (hu : P.underlying T = some (.int k)) (h : (a == b) = t) : EqR P 1 T (.int k a) (.int k b) t := fun d w => by
 rw [← h]; simp [Op.equalIn, Go.underlying, hu]
theorem eqB {a b : Bool} (hu : P.underlying T = some .bool) : EqR P 1 T (.bool a) (.bool b) (a == b) := fun d w => by simp [Op.equalIn, Go.underlying, hu]
theorem eqS {a b : Bs} (hu : P.underlying T = some .string) : EqR P 1 T (str a) (str b) (a == b) := fun d w => by
 have hb : ((⟨a.toArray⟩ : ByteArray) == ⟨b.toArray⟩) = (a == b) := by
  show (a.toArray == b.toArray) = _
  simp
 simp [Op.equalIn, Go.underlying, hu, str, hb]
inductive EqL (P : Program) (n : Nat) (xs ys : Array Value) : List (TypeId × Nat) → Bool → Prop
 | nil : EqL P n xs ys [] true
 | cons {T o fs a b t u} : (∀ w, (part T xs o).run P w = .ok a w) → (∀ w, (part T ys o).run P w = .ok b w) → EqR P n T a b t → EqL P n xs ys fs u → EqL P n xs ys ((T, o) :: fs) (t && u)
theorem EqL.last {xs ys : Array Value} {T : TypeId} {o : Nat} {a b : Value} (h1 : ∀ w, (part T xs o).run P w = .ok a w) (h2 : ∀ w, (part T ys o).run P w = .ok b w) (h : EqR P n T a b t) : EqL P n xs ys [(T, o)] t := by
 have := EqL.cons h1 h2 h EqL.nil
 rwa [Bool.and_true] at this
theorem xcM {l l' : LV} {o sz : Nat} (tg : TAgg P T sz) (h : piece l o sz = l') (w : World) : (part T l.toArray o).run P w = .ok (.agg l'.toArray) w := by
 subst h
 simp [part, tg.1, tg.2, zaI]
theorem xbR {l : LV} {v : Value} {o : Nat} (tg : TOne P T) (h : l[o]? = some v) (w : World) : (part T l.toArray o).run P w = .ok v w := by
 simp [part, tg.1, h]
theorem eqFields {xs ys : Array Value} (d : Nat) : ∀ {fs : List Field} {t : Bool}, (∀ f ∈ fs, f.name ≠ "_") → EqL P n xs ys (fs.map fun f => (f.type, f.offset)) t → ∀ w : World,
  (do
   for f in fs do
    if f.name ≠ "_" then
     if !(← Op.equalIn (d + n) f.type (← part f.type xs f.offset) (← part f.type ys f.offset)) then return false
   pure true : Sem Bool).run P w = .ok t w
 | [], t, _, h, w => by cases h; simp
 | f :: fs, t, hn, h, w => by
  have h0 : f.name ≠ "_" := hn f (by simp)
  cases h with
  | cons h1 h2 h3 h4 =>
   have ih := eqFields d (fun g hg => hn g (by simp [hg])) h4 w
   rename_i a b t u
   cases t <;> simp_all [h3 d]
theorem EqR.str {xs ys : LV} {fs : Array Field} (hu : P.underlying T = some (.struct fs)) (hst : P.stoodInHeld T = false) (hn : fs.toList.all (fun f => f.name != "_") = true)
  {l : List (TypeId × Nat)} (hf : fs.toList.map (fun f => (f.type, f.offset)) = l) (h : EqL P n xs.toArray ys.toArray l t) : EqR P (n + 1) T (.agg xs.toArray) (.agg ys.toArray) t := fun d w => by
 subst hf
 have := eqFields d (fun f hf => by have := List.all_eq_true.1 hn f hf; simpa using this) h w
 rw [← Nat.add_assoc]
 unfold Op.equalIn
 simp only [Sem.run_bind, Go.underlying, run_program, Result.andThen_ok, hu, hst, Sem.run_pure, Bool.false_eq_true, if_false]
 simpa using this
theorem yoX {xs ys : Array Value} {sz : Nat} (d : Nat) : ∀ {k i : Nat} {t : Bool}, EqL P n xs ys ((List.range' i k).map fun j => (E, j * sz)) t → ∀ w : World,
  (do
   for i in List.range' i k do
    if !(← Op.equalIn (d + n) E (← part E xs (i * sz)) (← part E ys (i * sz))) then return false
   pure true : Sem Bool).run P w = .ok t w
 | 0, i, t, h, w => by cases h; simp
 | k + 1, i, t, h, w => by
  rw [List.range'_succ, List.map_cons] at h
  cases h with
  | cons h1 h2 h3 h4 =>
   have ih := yoX d h4 w
   rename_i a b t u
   rw [List.range'_succ]
   cases t <;> simp_all [h3 d]
theorem EqR.arr {xs ys : LV} {k sz : Nat} (hu : P.underlying T = some (.array k E)) (hs : ∀ w, (sizeOf E).run P w = .ok sz w)
  {l : List (TypeId × Nat)} (hf : (List.range' 0 k).map (fun j => (E, j * sz)) = l) (h : EqL P n xs.toArray ys.toArray l t) : EqR P (n + 1) T (.agg xs.toArray) (.agg ys.toArray) t := fun d w => by
 subst hf
 have := yoX d h w
 rw [← Nat.add_assoc]
 unfold Op.equalIn
 simp only [Sem.run_bind, Go.underlying, run_program, Result.andThen_ok, hu, hs, Sem.run_pure]
 simpa [Std.Legacy.Range.forIn_eq_forIn_range', Std.Legacy.Range.size] using this
section
variable {w : World} {e : Operand → Value} {a b : Operand} {T' ty : TypeId} {pos : String} {aft : Array Edge} {dst : Option Tmp} {g : Option (Nat × Bool)}
theorem r_eqR {xs ys : Array Value} (hg : P.eqGuardType P.depth T = false) (hk : n ≤ 10000) (h : EqR P n T (.agg xs) (.agg ys) t) (h1 : e a = .agg xs) (h2 : e b = .agg ys) : (execOp e ⟨dst, .binOp .eql T a b T', ty, pos, aft, g⟩).run P w = .ok (.value (.bool t)) w := by
 have key : (Op.equal T (.agg xs) (.agg ys)).run P w = .ok t w := (h.le 10000 hk) 0 w
 simp only [execOp, h1, h2, eqGuard, binOp, Sem.run_bind, run_program, Result.andThen_ok, hg]
 simp [hg, key]
theorem r_neR {xs ys : Array Value} (hg : P.eqGuardType P.depth T = false) (hk : n ≤ 10000) (h : EqR P n T (.agg xs) (.agg ys) t) (h1 : e a = .agg xs) (h2 : e b = .agg ys) : (execOp e ⟨dst, .binOp .neq T a b T', ty, pos, aft, g⟩).run P w = .ok (.value (.bool (!t))) w := by
 have key : (Op.equal T (.agg xs) (.agg ys)).run P w = .ok t w := (h.le 10000 hk) 0 w
 simp only [execOp, h1, h2, eqGuard, binOp, Sem.run_bind, run_program, Result.andThen_ok, hg]
 simp [hg, key]
end
section
variable {ops : Array Oper} {k d i : Nat} {m : FM} {nh : Nat} {Φ : ziD} {W : World} {vs : Nat → Gv} {Fin : Act → Prop} {rest : List Oper} {ty : TypeId} {pos : String} {aft : Array Edge} {S : Mem}
end
end
section
variable {P : Program} {w : World} {T T' : TypeId} {e : Operand → Value} {x y : Operand} {dst : Option Tmp} {pos : String} {aft : Array Edge} {ty : TypeId} {g : Option (Nat × Bool)} {a b : Int} {k : IntKind}
theorem xdY (hx : e x = .int .i64 a) (hy : e y = .int .i64 b) : (execOp e ⟨dst, .binOp .add T x y T', ty, pos, aft, g⟩).run P w = .ok (.value (.int .i64 (w64 (a + b)))) w := r_add hx hy rfl
theorem r_lssI (hx : e x = .int k a) (hy : e y = .int k b) : (execOp e ⟨dst, .binOp .lss T x y T', ty, pos, aft, g⟩).run P w = .ok (.value (.bool (decide (a < b)))) w := xfI hx hy rfl
end
end Go.Proofs.YtebbcofojchkpaaGreatDoor
