/- The document's forest answers: what may be, where a number stands, paths: plain laws. The document's forest answers, whatever is called: plain laws. Forests: what a script makes: plain laws. From a walk of a law to what is said of it: parts that the laws over texts share. What a law's arguments are, as plain values. Forests: who is killed takes all along that hangs on it, and no other one: plain law. The document's forest without nodes answers, whatever is called: plain laws. Rows of texts go there and back: plain laws. Forests: their rows: plain laws. Forests: their rows, told: plain laws. Forests: a row read again: plain laws. Forests: rows loaded again show the same: plain laws. Conditions: as each theorem says. -/
import Derived.Test.YtebbcofojchkpaaGreatDoorRows
import Derived.Test.YtebbcofojchkpaaGreatDoorTie
import Derived.Test.YtebbcofojchkpaaGreatDoorCards
import Derived.ProofKit
import Derived.OpenShut
import Derived.Carry
import Derived.JoinedCond
import Derived.ChangeMaps5
import Derived.Deep.SlicePairs
import Derived.Deep.DeepHandedRow
import Derived.Lib.LaidTab
import Derived.SevenTiedAt
import Derived.Test.YtebbcofojchkpaaGreatDoorQkL
namespace Go.Proofs.YtebbcofojchkpaaGreatDoor.Am
open Go Go.RowKit
section
theorem zcQ {k : Nat} (h : k < 1099511627776) : w64 ((k : Int) + 1) = ((k + 1 : Nat) : Int) := by rw [zlK (by omega) (by omega)]; omega
theorem T.ixn {α : Type} {l : List α} {k : Nat} (h : (k : Int) < (l.length : Int)) : T (Go.Proofs.YtebbcofojchkpaaGreatDoor.idx l (k : Int)) fun x => x ∈ l := ⟨_, zlL rfl (by omega), List.getElem_mem _⟩
theorem ylZ (b : UInt8) : T (zdS zaB b) fun _ => True := by
 unfold zdS
 repeat' first | exact T.ok trivial | refine T.bif (fun _ => ?_) fun _ => ?_
theorem yiN {s : L8} (h : s.length ≤ 1048576) : T (zdE zaB s) fun _ => True := by
 unfold zdE
 refine T.bind (Q := fun _ => True) (T.places s.length (by omega) _ fun k hk => ?_) fun r _ => ?_
 ·unfold zoF
  exact T.dif (fun h2 => (T.ixn h2).bind fun _ _ => (ylZ _).bind fun _ _ => T.bif (fun _ => T.ok trivial) fun _ => T.ok ⟨zcQ (by omega), by omega⟩) fun _ => T.ok trivial
 ·cases r
  ·exact T.ok trivial
  ·exact T.bif (fun _ => T.ok trivial) fun _ => T.ok trivial
theorem yrX {s : L8} (h : s.length ≤ 1048576) : T (zcF zaB s) fun _ => True := by
 have hs : ∀ {n : Int} (hn : n ≤ (s.length : Int)) (h0 : 0 ≤ n), T (subL s n) fun r => r.length ≤ 1048576 := fun {n} hn h0 => by
  obtain ⟨k, rfl⟩ : ∃ k : Nat, n = k := ⟨n.toNat, by omega⟩
  refine ⟨_, zwU (by omega), ?_⟩
  show (s.drop k).length ≤ 1048576
  rw [List.length_drop]
  omega
 unfold zcF
 refine T.dif (fun h => (yjR (by omega) (by omega)).bind fun _ _ => T.bif (fun _ => (hs (by omega) (by omega)).bind fun _ hr => (yiN hr).bind fun _ _ => T.ok trivial) fun _ => (yjR (by omega) (by omega)).bind fun _ _ => T.bif (fun _ => (hs (by omega) (by omega)).bind fun _ hr => (yiN hr).bind fun _ _ => T.ok trivial) fun _ => T.ok trivial) fun _ => T.ok trivial
theorem yiE {s : L8} (h : s.length ≤ 1048576) : T (zdF zaB s) fun _ => True := by
 unfold zdF
 refine T.bind (Q := fun _ => True) (T.places s.length (by omega) _ fun k hk => ?_) fun r _ => ?_
 ·unfold zoH
  exact T.dif (fun h2 => (T.ixn h2).bind fun _ _ => T.bif (fun _ => T.ok trivial) fun _ => (T.ixn h2).bind fun _ _ => T.bif (fun _ => T.ok trivial) fun _ => T.ok ⟨zcQ (by omega), by omega⟩) fun _ => T.ok trivial
 ·cases r
  ·exact T.ok trivial
  ·exact T.bif (fun _ => T.ok trivial) fun _ => T.ok trivial
theorem yjT {s : L8} (h : s.length ≤ 1048576) : T (zdZ zaB s) fun _ => True := by
 unfold zdZ
 refine T.bind (Q := fun _ => True) (T.places s.length (by omega) _ fun k hk => ?_) fun r _ => ?_
 ·unfold znK
  exact T.dif (fun h2 => (T.ixn h2).bind fun _ _ => (ylZ _).bind fun _ _ => T.bif (fun _ => (T.ixn h2).bind fun _ _ => T.bif (fun _ => T.ok trivial) fun _ => T.ok ⟨zcQ (by omega), by omega⟩) fun _ => T.ok ⟨zcQ (by omega), by omega⟩) fun _ => T.ok trivial
 ·cases r
  ·exact T.ok trivial
  ·exact T.bif (fun _ => T.ok trivial) fun _ => T.ok trivial
theorem yyX {l : List L8} (h : l.length ≤ 1048576) (hs : ∀ s ∈ l, s.length ≤ 1048576) (m k : Int) : T (zfT zaB l m k) fun _ => True := by
 unfold zfT
 refine T.bind (Q := fun _ => True) (T.places l.length (by omega) _ fun i hi => ?_) fun r _ => ?_
 ·unfold zmJ
  refine T.dif (fun h2 => ?_) fun _ => T.ok trivial
  have e : w64 ((i : Int) - 1) = (i : Int) - 1 := zlK (by omega) (by omega)
  rw [e]
  have hn : ∀ {P : Int ⊕ (Bool ⊕ Unit) → Prop}, P (.inl (w64 ((i : Int) + 1))) → P (.inr (.inl false)) → T (bif decide ((i : Int) > 0) then (Option.bind (idx l (i : Int)) fun v8 => Option.bind (idx l ((i : Int) - (1 : Int))) fun v9 => bif (Op.bytesLess v8 v9 || v8 == v9) then some (.inr (.inl false)) else some (.inl (w64 ((i : Int) + (1 : Int))))) else some (.inl (w64 ((i : Int) + (1 : Int))))) P := fun h3 h4 =>
   T.dif (fun h0 => (T.ixn h2).bind fun _ _ => (T.ix (by omega) (by omega)).bind fun _ _ => T.bif (fun _ => T.ok h4) fun _ => T.ok h3) fun _ => T.ok h3
  have h3 : w64 ((i : Int) + 1) = ((i + 1 : Nat) : Int) ∧ i < l.length := ⟨zcQ (by omega), by omega⟩
  refine T.bif (fun _ => (T.ixn h2).bind fun _ hx => (yiE (hs _ hx)).bind fun _ _ => T.bif (fun _ => T.ok trivial) fun _ => ?_) fun _ => ?_
  ·exact T.bif (fun _ => (T.ixn h2).bind fun _ hx => (yjT (hs _ hx)).bind fun _ _ => T.bif (fun _ => T.ok trivial) fun _ => hn h3 trivial) fun _ => hn h3 trivial
  ·exact T.bif (fun _ => (T.ixn h2).bind fun _ hx => (yjT (hs _ hx)).bind fun _ _ => T.bif (fun _ => T.ok trivial) fun _ => hn h3 trivial) fun _ => hn h3 trivial
 ·cases r <;> exact T.ok trivial
def NdOk (n : Nd) : Prop := n.2.2.2.1.length ≤ 1048576 ∧ n.2.2.2.2.1.length ≤ 1048576 ∧ n.2.2.2.2.2.1.length ≤ 1048576 ∧ n.2.2.2.2.2.2.1.length ≤ 1048576 ∧ (∀ s ∈ n.2.2.2.2.2.2.1, s.length ≤ 1048576) ∧ n.2.2.2.2.2.2.2.2.2.2.2.1.length ≤ 1048576 ∧ ∀ s ∈ n.2.2.2.2.2.2.2.2.2.2.2.1, s.length ≤ 1048576
theorem yxQ {n : Nd} (h : NdOk n) : T (zfE zaB n) fun b => b = true → 0 ≤ npar n := by
 obtain ⟨h1, h2, h3, h4, h5, h6, h7⟩ := h
 unfold zfE
 refine T.bind (Q := fun r => match r with
  | .inl b => b = false
  | .inr m => m = n ∧ 0 ≤ npar n) ?_ fun r hr => ?_
 ·unfold zoX
  refine T.dif (fun _ => T.ok rfl) fun _ => T.dif (fun _ => T.ok rfl) fun _ => T.dif (fun _ => T.ok rfl) fun hp => (yrX h1).bind fun _ _ => T.bif (fun _ => T.ok rfl) fun _ => ?_
  have hp : 0 ≤ npar n := by show 0 ≤ n.2.2.1; omega
  refine T.bif (fun _ => (yiN h2).bind fun _ _ => T.bif (fun _ => T.ok rfl) fun _ => ?_) fun _ => ?_
  ·exact T.bif (fun _ => (yiE h3).bind fun _ _ => T.bif (fun _ => T.ok rfl) fun _ => T.ok ⟨rfl, hp⟩) fun _ => T.ok ⟨rfl, hp⟩
  ·exact T.bif (fun _ => (yiE h3).bind fun _ _ => T.bif (fun _ => T.ok rfl) fun _ => T.ok ⟨rfl, hp⟩) fun _ => T.ok ⟨rfl, hp⟩
 ·cases r with
  | inl b => exact T.ok fun e => by rw [hr] at e; cases e
  | inr m =>
   obtain ⟨rfl, hp⟩ := hr
   refine T.bind (Q := fun r => match r with
    | .inl b => True
    | .inr m' => m' = m) (T.iter (fun x => x.2 = m ∧ 0 ≤ x.1 ∧ x.1 ≤ (m.2.2.2.2.2.2.2.2.2.2.2.1.length : Int)) (fun x => m.2.2.2.2.2.2.2.2.2.2.2.1.length - x.1.toNat) _ (fun x hx => ?_) ⟨rfl, Int.le_refl _, by simp⟩ (by simp; omega)) fun r hr => ?_
   ·obtain ⟨i, v⟩ := x
    obtain ⟨rfl, h8, h9⟩ := hx
    simp only at h8 h9
    obtain ⟨k, rfl⟩ : ∃ k : Nat, i = k := ⟨i.toNat, by omega⟩
    unfold zpO
    simp only [] at h6 h7 ⊢
    refine T.dif (fun h2 => (T.ixn h2).bind fun _ hx => (yrX (h7 _ hx)).bind fun _ _ => T.bif (fun _ => T.ok trivial) fun _ => T.ok ⟨⟨rfl, ?_, ?_⟩, ?_⟩) fun _ => T.ok rfl
    ·rw [zcQ (by omega)]; omega
    ·rw [zcQ (by omega)]; omega
    ·rw [zcQ (by omega)]; omega
   ·cases r with
    | inl b => exact T.ok fun _ => hp
    | inr m' =>
     simp only at hr
     subst hr
     refine T.bind (Q := fun r => r.2 = m') ?_ fun r hr => ?_
     ·unfold zpN
      exact T.dif (fun _ => T.dif (fun _ => T.dif (fun _ => T.ok rfl) fun _ => T.ok rfl) fun _ => T.ok rfl) fun _ => T.ok rfl
     ·obtain ⟨b, v⟩ := r
      simp only at hr
      subst hr
      refine T.bif (fun _ => (yyX h4 h5 _ _).bind fun _ _ => T.bif (fun _ => ?_) fun _ => T.ok fun _ => hp) fun _ => T.ok fun _ => hp
      simp only []
      repeat' first | exact T.ok fun _ => hp | refine T.bif (fun _ => ?_) fun _ => ?_
structure RY (L : List Nd) (nx : Int) : Prop where
 ids : ∀ n ∈ L, n.1 < nx ∧ 0 ≤ npar n ∧ npar n < n.1
 ok : ∀ n ∈ L, NdOk n
 next : 1 ≤ nx ∧ nx ≤ 99999999
 len : L.length ≤ 256
variable {L : List Nd} {nx : Int}
theorem at_t (hl : L.length ≤ 256) (id : Int) : T (zaL zaB id L nx) fun r => r.2 = (L, nx) ∧ ((r.1 = -1 ∧ ∀ n ∈ L, n.1 ≠ id) ∨ ∃ (k : Nat) (hk : k < L.length), r.1 = (k : Int) ∧ L[k].1 = id) := by
 unfold zaL
 refine T.bind (Q := fun r => match r with
  | .inl v => v.2 = (L, nx) ∧ ∃ (k : Nat) (hk : k < L.length), v.1 = (k : Int) ∧ L[k].1 = id
  | .inr v => v = (L, nx) ∧ ∀ n ∈ L, n.1 ≠ id) (T.iter (fun x => x.2 = (L, nx) ∧ 0 ≤ x.1 ∧ x.1 ≤ (L.length : Int) ∧ ∀ n ∈ L.take x.1.toNat, n.1 ≠ id) (fun x => L.length - x.1.toNat) _ (fun x hx => ?_) ⟨rfl, Int.le_refl _, by simp, by simp⟩ (by simp; omega)) fun r hr => ?_
 ·obtain ⟨i, v⟩ := x
  obtain ⟨rfl, h8, h9, h10⟩ := hx
  simp only at h8 h9 h10
  obtain ⟨k, rfl⟩ : ∃ k : Nat, i = k := ⟨i.toNat, by omega⟩
  rw [Int.toNat_natCast] at h10
  unfold zjZ
  simp only []
  refine T.dif (fun h2 => ?_) fun h2 => T.ok ⟨rfl, ?_⟩
  ·have hk : k < L.length := by omega
   rw [zlL rfl hk, zaA]
   refine T.bif (fun he => T.ok ⟨rfl, k, hk, rfl, beq_iff_eq.1 he⟩) fun he => T.ok ⟨⟨rfl, ?_, ?_, ?_⟩, ?_⟩
   ·simp only []; rw [zcQ (by omega)]; omega
   ·simp only []; rw [zcQ (by omega)]; omega
   ·simp only []
    rw [zcQ (by omega), Int.toNat_natCast, List.take_succ_eq_append_getElem hk]
    intro n hn
    rcases List.mem_append.1 hn with hn | hn
    ·exact h10 n hn
    ·rw [List.mem_singleton] at hn
     subst hn
     intro e
     rw [beq_iff_eq.2 e] at he
     cases he
   ·simp only []; rw [zcQ (by omega)]; omega
  ·rw [List.take_of_length_le (by omega)] at h10
   exact h10
 ·cases r with
  | inl v => exact T.ok ⟨hr.1, .inr hr.2⟩
  | inr v => exact T.ok ⟨hr.1, .inl ⟨rfl, hr.2⟩⟩
theorem ybN (hl : L.length ≤ 256) (id : Int) : T (zaE zaB id L nx) fun r => r.2.2 = (L, nx) ∧ ((r.2.1 = true ∧ r.1 ∈ L ∧ r.1.1 = id) ∨ (r.2.1 = false ∧ r.1 = zN)) := by
 unfold zaE
 refine (at_t hl id).bind fun r hr => ?_
 obtain ⟨i, v⟩ := r
 obtain ⟨rfl, hr⟩ := hr
 simp only []
 refine T.dif (fun _ => T.ok ⟨rfl, .inr ⟨rfl, rfl⟩⟩) fun hi => ?_
 rcases hr with ⟨h1, _⟩ | ⟨k, hk, h1, h2⟩
 ·simp only at h1; omega
 ·simp only at h1
  subst h1
  rw [zlL rfl hk, zaA]
  exact T.ok ⟨rfl, .inl ⟨rfl, List.getElem_mem hk, h2⟩⟩
theorem yiU (h : RY L nx) (id : Int) : T (zaW zaB id L nx) fun r => r.1 = L ∧ r.2.1 = nx ∧ r.2.2.length ≤ 99999999 := by
 have hl := h.len
 have hnx := h.next
 unfold zaW
 refine (at_t hl id).bind fun r hr => ?_
 obtain ⟨i, v⟩ := r
 obtain ⟨rfl, hr⟩ := hr
 simp only [] at hr ⊢
 refine T.bind (Q := fun r => r.1 = L ∧ r.2.1 = nx ∧ r.2.2.length ≤ 99999999) (T.iter (fun x => x.2.1 = L ∧ x.2.2.1 = nx ∧ (x.1 = -1 ∧ x.2.2.2.length ≤ 99999999 ∨ ∃ (k : Nat) (hk : k < L.length), x.1 = (k : Int) ∧ x.2.2.2.length + L[k].1.toNat < 99999999)) (fun x => if x.1 < 0 then 0 else (match L[x.1.toNat]? with | some n => n.1.toNat + 1 | none => 0)) _ (fun x hx => ?_) ⟨rfl, rfl, ?_⟩ ?_) fun r hr => T.ok hr
 ·obtain ⟨j, L', nx', acc⟩ := x
  obtain ⟨e1, e2, hx⟩ := hx
  simp only at e1 e2 hx
  subst e1 e2
  unfold zhN
  simp only []
  rcases hx with ⟨rfl, ha⟩ | ⟨k, hk, rfl, ha⟩
  ·rw [zkB (by omega)]
   exact T.ok ⟨rfl, rfl, ha⟩
  ·have hn := h.ids _ (List.getElem_mem hk)
   rw [zmD (by omega), zlL rfl hk, zaA, zrX (by simp; omega), zaA, zaA]
   refine (at_t hl _).bind fun r hr => ?_
   obtain ⟨i2, v⟩ := r
   obtain ⟨rfl, hr⟩ := hr
   simp only [] at hr
   rw [show (L'[k].2.2.1) = npar L'[k] from rfl] at hr
   rcases hr with ⟨rfl, _⟩ | ⟨k2, hk2, rfl, h2⟩
   ·refine T.ok ⟨⟨rfl, rfl, .inl ⟨rfl, ?_⟩⟩, ?_⟩
    ·simp; omega
    ·simp only [Int.toNat_natCast]
     rw [if_pos (by omega), if_neg (by omega), List.getElem?_eq_getElem hk]
     simp only []
     omega
   ·refine T.ok ⟨⟨rfl, rfl, .inr ⟨k2, hk2, rfl, ?_⟩⟩, ?_⟩
    ·rw [h2]; simp; omega
    ·simp only [Int.toNat_natCast]
     rw [if_neg (by omega), if_neg (by omega), List.getElem?_eq_getElem hk2, List.getElem?_eq_getElem hk]
     simp only [h2]
     omega
 ·rcases hr with ⟨rfl, _⟩ | ⟨k, hk, rfl, h2⟩
  ·exact .inl ⟨rfl, by simp⟩
  ·have hn := h.ids _ (List.getElem_mem hk)
   exact .inr ⟨k, hk, rfl, by simp; omega⟩
 ·split
  ·omega
  ·split
   ·rename_i n hn
    have := h.ids _ (List.mem_of_getElem? hn)
    have h3 : n.1.toNat < 99999999 := by omega
    exact Nat.lt_of_lt_of_le (Nat.succ_lt_succ h3) (by decide)
   ·omega
theorem ylF (h : RY L nx) (id : Int) : T (zbC zaB id L nx) fun r => r.2 = (L, nx) := by
 unfold zbC
 refine (yiU h id).bind fun r hr => ?_
 obtain ⟨L', nx', l⟩ := r
 obtain ⟨e1, e2, hl⟩ := hr
 simp only at e1 e2 hl
 subst e1 e2
 refine T.bind (Q := fun r => match r with
  | .inl v => v.2 = (L', nx')
  | .inr v => v = (L', nx')) (T.iter (fun x => x.2 = (L', nx', l) ∧ 0 ≤ x.1 ∧ x.1 ≤ (l.length : Int)) (fun x => l.length - x.1.toNat) _ (fun x hx => ?_) ⟨rfl, Int.le_refl _, by simp⟩ (by simp; omega)) fun r hr => ?_
 ·obtain ⟨i, v⟩ := x
  obtain ⟨rfl, h8, h9⟩ := hx
  simp only at h8 h9
  obtain ⟨k, rfl⟩ : ∃ k : Nat, i = k := ⟨i.toNat, by omega⟩
  unfold zgT
  simp only []
  refine T.dif (fun h2 => ?_) fun _ => T.ok rfl
  rw [decide_eq_true (show (0 : Int) ≤ (k : Int) by omega), decide_eq_true h2, Bool.and_self, zrH rfl, zaA]
  refine (T.ixn h2).bind fun _ _ => (ybN h.len _).bind fun r hr => ?_
  obtain ⟨n, b, v⟩ := r
  obtain ⟨rfl, _⟩ := hr
  refine T.bif (fun _ => T.ok rfl) fun _ => T.ok ⟨⟨rfl, ?_, ?_⟩, ?_⟩
  ·simp only []; rw [zcQ (by omega)]; omega
  ·simp only []; rw [zcQ (by omega)]; omega
  ·simp only []; rw [zcQ (by omega)]; omega
 ·cases r <;> exact T.ok hr
theorem yiQ (h : RY L nx) (id now : Int) : T (zaV zaB id now L nx) fun r => r.2 = (L, nx) := by
 unfold zaV
 refine (ybN h.len _).bind fun r hr => ?_
 obtain ⟨n, b, v⟩ := r
 obtain ⟨rfl, _⟩ := hr
 simp only []
 exact T.bif (fun _ => T.bif (fun _ => T.bif (fun _ => (ylF h id).bind fun _ hr => T.ok hr) fun _ => T.ok rfl) fun _ => T.ok rfl) fun _ => T.ok rfl
theorem yzA (h : RY L nx) (id on : Int) : T (zcU zaB id on L nx) fun r => r.2 = (L, nx) := by
 unfold zcU
 refine (yiU h id).bind fun r hr => ?_
 obtain ⟨L', nx', l⟩ := r
 obtain ⟨e1, e2, hl⟩ := hr
 simp only at e1 e2 hl
 subst e1 e2
 refine T.bind (Q := fun r => match r with
  | .inl v => v.2 = (L', nx')
  | .inr v => v = (L', nx')) (T.iter (fun x => x.2 = (L', nx', l) ∧ 0 ≤ x.1 ∧ x.1 ≤ (l.length : Int)) (fun x => l.length - x.1.toNat) _ (fun x hx => ?_) ⟨rfl, Int.le_refl _, by simp⟩ (by simp; omega)) fun r hr => ?_
 ·obtain ⟨i, v⟩ := x
  obtain ⟨rfl, h8, h9⟩ := hx
  simp only at h8 h9
  obtain ⟨k, rfl⟩ : ∃ k : Nat, i = k := ⟨i.toNat, by omega⟩
  unfold zhR
  simp only []
  refine T.dif (fun h2 => ?_) fun _ => T.ok rfl
  rw [decide_eq_true (show (0 : Int) ≤ (k : Int) by omega), decide_eq_true h2, Bool.and_self, zrH rfl, zaA]
  refine (T.ixn h2).bind fun _ _ => T.bif (fun _ => T.ok rfl) fun _ => T.ok ⟨⟨rfl, ?_, ?_⟩, ?_⟩
  ·simp only []; rw [zcQ (by omega)]; omega
  ·simp only []; rw [zcQ (by omega)]; omega
  ·simp only []; rw [zcQ (by omega)]; omega
 ·cases r <;> exact T.ok hr
end
section
variable {L : List Nd} {nx : Int}
theorem yqG (hl : L.length ≤ 256) (sec : L8) : T (zbG zaB sec L nx) fun r => r.2.2 = (L, nx) ∧ (r.1 ∈ L ∨ r.1 = zN) := by
 unfold zbG
 refine T.bind (Q := fun r => match r with
  | .inl v => v.2.1 = L ∧ v.2.2.1 = nx ∧ v.2.2.2 ∈ L
  | .inr v => v.1 = L ∧ v.2.1 = nx) (T.iter (fun x => x.2.1 = L ∧ x.2.2.1 = nx ∧ 0 ≤ x.1 ∧ x.1 ≤ (L.length : Int)) (fun x => L.length - x.1.toNat) _ (fun x hx => ?_) ⟨rfl, rfl, Int.le_refl _, by simp⟩ (by simp; omega)) fun r hr => ?_
 ·obtain ⟨i, L', nx', v⟩ := x
  obtain ⟨e1, e2, h8, h9⟩ := hx
  simp only at e1 e2 h8 h9
  subst e1 e2
  obtain ⟨k, rfl⟩ : ∃ k : Nat, i = k := ⟨i.toNat, by omega⟩
  unfold zhQ
  simp only []
  refine T.dif (fun h2 => (T.ixn h2).bind fun _ _ => T.bif (fun _ => (T.ixn h2).bind fun _ hx => T.ok ⟨rfl, rfl, hx⟩) fun _ => T.ok ⟨⟨rfl, rfl, ?_, ?_⟩, ?_⟩) fun _ => T.ok ⟨rfl, rfl⟩
  ·simp only []; rw [zcQ (by omega)]; omega
  ·simp only []; rw [zcQ (by omega)]; omega
  ·simp only []; rw [zcQ (by omega)]; omega
 ·cases r with
  | inl v =>
   obtain ⟨b, L', nx', n⟩ := v
   obtain ⟨e1, e2, h⟩ := hr
   simp only at e1 e2 h
   subst e1 e2
   exact T.ok ⟨rfl, .inl h⟩
  | inr v =>
   obtain ⟨L', nx', n⟩ := v
   obtain ⟨e1, e2⟩ := hr
   simp only at e1 e2
   subst e1 e2
   exact T.ok ⟨rfl, .inr rfl⟩
theorem yjS (h : RY L nx) (now : Int) : T (zbE zaB now L nx) fun r => r.2.1 = nx ∧ (∀ n ∈ r.2.2, n ∈ L) ∧ r.2.2.length ≤ L.length := by
 have hl := h.len
 unfold zbE
 refine T.bind (Q := fun r => r.1 = L ∧ r.2.1 = nx ∧ (∀ n ∈ r.2.2, n ∈ L) ∧ r.2.2.length ≤ L.length) (T.iter (fun x => x.2.1 = L ∧ x.2.2.1 = nx ∧ 0 ≤ x.1 ∧ x.1 ≤ (L.length : Int) ∧ (∀ n ∈ x.2.2.2, n ∈ L) ∧ (x.2.2.2.length : Int) ≤ x.1) (fun x => L.length - x.1.toNat) _ (fun x hx => ?_) ⟨rfl, rfl, Int.le_refl _, by simp, by simp, by simp⟩ (by simp; omega)) fun r hr => ?_
 ·obtain ⟨i, L', nx', out⟩ := x
  obtain ⟨e1, e2, h8, h9, h10, h11⟩ := hx
  simp only at e1 e2 h8 h9 h10 h11
  subst e1 e2
  obtain ⟨k, rfl⟩ : ∃ k : Nat, i = k := ⟨i.toNat, by omega⟩
  unfold zhA
  simp only []
  refine T.dif (fun h2 => ?_) fun h2 => T.ok ⟨rfl, rfl, h10, by simp only []; omega⟩
  have hin : T (iter (fun x => zeC zaB now (k : Int) x.1 x.2.1 x.2.2.1 x.2.2.2.1 x.2.2.2.2) (false, (k : Int), L', nx', out)) fun r => r.2 = (L', nx', out) := by
   refine T.iter (fun x => x.2.2 = (L', nx', out) ∧ 0 ≤ x.2.1 ∧ x.2.1 ≤ (L'.length : Int)) (fun x => L'.length - x.2.1.toNat) _ (fun x hx => ?_) ⟨rfl, h8, h9⟩ (by simp; omega)
   obtain ⟨b, j, v⟩ := x
   obtain ⟨rfl, h12, h13⟩ := hx
   simp only at h12 h13
   obtain ⟨j, rfl⟩ : ∃ q : Nat, j = q := ⟨j.toNat, by omega⟩
   unfold zeC
   simp only []
   refine T.bind (Q := fun r => match r with
    | .inl v => v = (L', nx', out) ∧ (j : Int) < (L'.length : Int)
    | .inr v => v = (L', nx', out)) ?_ fun r hr => ?_
   ·unfold zhC
    exact T.dif (fun h3 => T.bif (fun _ => T.ok ⟨rfl, h3⟩) fun _ => T.ok rfl) fun _ => T.ok rfl
   ·cases r with
    | inr v => exact T.ok hr
    | inl v =>
     obtain ⟨rfl, h3⟩ := hr
     simp only []
     have hw : ∀ b : Bool, (fun r : (Bool × Int × (List Nd) × Int × List Nd) ⊕ ((Bool × (List Nd) × Int × List Nd)) => match r with
       | .inl s' => (s'.2.2 = (L', nx', out) ∧ 0 ≤ s'.2.1 ∧ s'.2.1 ≤ (L'.length : Int)) ∧ L'.length - s'.2.1.toNat < L'.length - ((j : Int)).toNat
       | .inr b => b.2 = (L', nx', out)) (.inl (b, w64 ((j : Int) + 1), L', nx', out)) := fun b => by
      rw [zcQ (by omega)]
      exact ⟨⟨rfl, by show (0 : Int) ≤ ((j + 1 : Nat) : Int); omega, by show ((j + 1 : Nat) : Int) ≤ (L'.length : Int); omega⟩, by show L'.length - (((j + 1 : Nat) : Int)).toNat < _; omega⟩
     refine (T.ixn h3).bind fun _ _ => (yiQ h _ now).bind fun r hr => ?_
     obtain ⟨b2, v⟩ := r
     simp only at hr
     subst hr
     refine T.bif (fun _ => (T.ixn h3).bind fun _ _ => (T.ixn h2).bind fun _ _ => (yzA h _ _).bind fun r hr => ?_) fun _ => T.ok (hw false)
     obtain ⟨b3, v⟩ := r
     simp only at hr
     subst hr
     exact T.ok (hw b3)
  refine hin.bind fun r hr => ?_
  obtain ⟨b, v⟩ := r
  simp only at hr
  subst hr
  refine T.bif (fun _ => ?_) fun _ => T.ok ⟨⟨rfl, rfl, ?_, ?_, h10, ?_⟩, ?_⟩
  ·refine (T.ixn h2).bind fun n hn => ?_
   simp only []
   rw [zrX (by simp; omega), zaA]
   refine T.ok ⟨⟨rfl, rfl, ?_, ?_, fun m hm => ?_, ?_⟩, ?_⟩
   ·simp only []; rw [zcQ (by omega)]; omega
   ·simp only []; rw [zcQ (by omega)]; omega
   ·rcases List.mem_append.1 hm with hm | hm
    ·exact h10 m hm
    ·rw [List.mem_singleton] at hm
     subst hm
     exact hn
   ·simp only []; rw [zcQ (by omega), List.length_append, List.length_singleton]; omega
   ·simp only []; rw [zcQ (by omega)]; omega
  ·simp only []; rw [zcQ (by omega)]; omega
  ·simp only []; rw [zcQ (by omega)]; omega
  ·simp only []; rw [zcQ (by omega)]; omega
  ·simp only []; rw [zcQ (by omega)]; omega
 ·obtain ⟨L', nx', out⟩ := r
  obtain ⟨e1, e2, h10, h11⟩ := hr
  exact T.ok ⟨e2, h10, h11⟩
theorem ygA {α : Type} {l : List α} {i : Int} {x : α} (h0 : 0 ≤ i) (h : i < (l.length : Int)) : T (setL l i x) fun r => ∃ k : Nat, r = l.set k x := by
 obtain ⟨k, rfl⟩ : ∃ k : Nat, i = k := ⟨i.toNat, by omega⟩
 unfold setL
 rw [decide_eq_true (show (0 : Int) ≤ (k : Int) by omega), decide_eq_true h]
 exact ⟨_, rfl, k, by simp⟩
theorem yoX (h : RY L nx) {n m : Nd} (hm : m ∈ L) (h1 : n.1 = m.1) (h2 : npar n = npar m) (h3 : NdOk n) : T (zaK zaB n L nx) fun r => r.1 = nx ∧ RY r.2 nx ∧ r.2.length = L.length := by
 have hl := h.len
 unfold zaK
 refine (at_t hl _).bind fun r hr => ?_
 obtain ⟨i, v⟩ := r
 obtain ⟨rfl, hr⟩ := hr
 simp only [] at hr ⊢
 rw [ziJ _ (by omega), zaA]
 rcases hr with ⟨_, hn⟩ | ⟨k, hk, rfl, h4⟩
 ·exact absurd h1.symm (hn m hm)
 ·rw [decide_eq_true (show (0 : Int) ≤ (k : Int) by omega), decide_eq_true (show (k : Int) < (L.length : Int) by omega), Bool.and_self, zrH rfl, zaA]
  refine (ygA (by omega) (by omega)).bind fun r hr => ?_
  obtain ⟨j, rfl⟩ := hr
  have hmm : ∀ q ∈ L.set j n, q ∈ L ∨ q = n := fun q hq => List.mem_or_eq_of_mem_set hq
  exact T.ok ⟨rfl, {
    ids := fun q hq => by
     rcases hmm q hq with hq | rfl
     ·exact h.ids q hq
     ·have := h.ids m hm
      rw [h1, h2]
      exact this
    ok := fun q hq => by
     rcases hmm q hq with hq | rfl
     ·exact h.ok q hq
     ·exact h3
    next := h.next
    len := by rw [List.length_set]; exact hl }, List.length_set ..⟩
abbrev Rk : Int × List Nd × Int → Prop := fun r => RY r.2.1 r.2.2
theorem ysB (h : RY L nx) (id : Int) : T (zbK zaB id L nx) Rk := by
 unfold zbK
 refine (ybN h.len _).bind fun r hr => ?_
 obtain ⟨n, b, v⟩ := r
 obtain ⟨rfl, hr⟩ := hr
 simp only [] at hr ⊢
 rcases hr with ⟨rfl, hn, _⟩ | ⟨rfl, _⟩
 ·refine T.bif (fun _ => T.ok h) fun _ => (yoX h hn (by exact rfl) (by exact rfl) (by have hh := h.ok _ hn; exact hh)).bind fun r hr => ?_
  obtain ⟨q, L'⟩ := r
  obtain ⟨rfl, hr, _⟩ := hr
  exact T.ok hr
 ·exact T.ok h
theorem yuL (h : RY L nx) (id now : Int) : T (zcK zaB id now L nx) Rk := by
 unfold zcK
 refine (ybN h.len _).bind fun r hr => ?_
 obtain ⟨n, b, v⟩ := r
 obtain ⟨rfl, hr⟩ := hr
 simp only [] at hr ⊢
 rcases hr with ⟨rfl, hn, _⟩ | ⟨rfl, _⟩
 ·refine T.bif (fun _ => T.ok h) fun _ => T.bif (fun _ => (ysB h id).bind fun r hr => T.ok hr) fun _ => (yiQ h id now).bind fun r hr => ?_
  obtain ⟨b, v⟩ := r
  simp only at hr
  subst hr
  refine T.bif (fun _ => T.ok h) fun _ => (yoX h hn (by exact rfl) (by exact rfl) (by have hh := h.ok _ hn; exact hh)).bind fun r hr => ?_
  obtain ⟨q, L'⟩ := r
  obtain ⟨rfl, hr, _⟩ := hr
  exact T.ok hr
 ·exact T.ok h
theorem xbB (h : RY L nx) (id l : Int) : T (zcT zaB id l L nx) Rk := by
 unfold zcT
 refine (ybN h.len _).bind fun r hr => ?_
 obtain ⟨n, b, v⟩ := r
 obtain ⟨rfl, hr⟩ := hr
 refine T.bind (Q := fun r => match r with
  | .inl v => v.2 = (L, nx)
  | .inr v => v.1 = L ∧ v.2.1 = nx ∧ v.2.2 ∈ L) ?_ fun r hr => ?_
 ·unfold zhX
  simp only [] at hr ⊢
  rcases hr with ⟨rfl, hn, _⟩ | ⟨rfl, _⟩
  ·exact T.bif (fun _ => T.ok rfl) fun _ => T.bif (fun _ => T.ok rfl) fun _ => T.dif (fun _ => T.ok rfl) fun _ => T.dif (fun _ => T.ok rfl) fun _ => T.ok ⟨rfl, rfl, hn⟩
  ·exact T.ok rfl
 ·cases r with
  | inl v =>
   obtain ⟨e, v⟩ := v
   simp only at hr
   subst hr
   exact T.ok h
  | inr v =>
   obtain ⟨L', nx', m⟩ := v
   obtain ⟨e1, e2, hm⟩ := hr
   simp only at e1 e2 hm
   subst e1 e2
   refine T.dif (fun _ => (yoX h hm (by exact rfl) (by exact rfl) (by have hh := h.ok _ hm; exact hh)).bind fun r hr => ?_) fun _ => T.ok h
   obtain ⟨q, L'⟩ := r
   obtain ⟨rfl, hr, _⟩ := hr
   exact T.ok hr
theorem xcU (h : RY L nx) (id : Int) (d : L8) : T (zcV zaB id d L nx) Rk := by
 unfold zcV
 refine (ybN h.len _).bind fun r hr => ?_
 obtain ⟨n, b, v⟩ := r
 obtain ⟨rfl, hr⟩ := hr
 refine T.bind (Q := fun r => match r with
  | .inl v => v.2 = (L, nx)
  | .inr v => v.1 = L ∧ v.2.1 = nx ∧ v.2.2 ∈ L) ?_ fun r hr => ?_
 ·unfold zhW
  simp only [] at hr ⊢
  rcases hr with ⟨rfl, hn, _⟩ | ⟨rfl, _⟩
  ·exact T.bif (fun _ => T.ok rfl) fun _ => T.dif (fun _ => T.ok rfl) fun _ => T.ok ⟨rfl, rfl, hn⟩
  ·exact T.ok rfl
 ·cases r with
  | inl v =>
   obtain ⟨e, v⟩ := v
   simp only at hr
   subst hr
   exact T.ok h
  | inr v =>
   obtain ⟨L', nx', m⟩ := v
   obtain ⟨e1, e2, hm⟩ := hr
   simp only at e1 e2 hm
   subst e1 e2
   refine (yoX h hm (by exact rfl) (by exact rfl) (by have hh := h.ok _ hm; exact hh)).bind fun r hr => ?_
   obtain ⟨q, L'⟩ := r
   obtain ⟨rfl, hr, _⟩ := hr
   exact T.ok hr
theorem ysP (h : RY L nx) (s : L8) : T (zcE zaB s L nx) Rk := by
 have hl := h.len
 unfold zcE
 refine T.bind (Q := Rk) (T.iter (fun x => RY x.2.2.1 x.2.2.2 ∧ x.2.2.1.length = L.length ∧ 0 ≤ x.2.1 ∧ x.2.1 ≤ (L.length : Int)) (fun x => L.length - x.2.1.toNat) _ (fun x hx => ?_) ⟨h, rfl, Int.le_refl _, by simp⟩ (by simp; omega)) fun r hr => T.ok hr
 obtain ⟨m, i, L', nx'⟩ := x
 obtain ⟨h, e1, h8, h9⟩ := hx
 simp only at h e1 h8 h9
 obtain ⟨k, rfl⟩ : ∃ k : Nat, i = k := ⟨i.toNat, by omega⟩
 unfold zhB
 simp only []
 refine T.dif (fun h2 => (T.ixn h2).bind fun n hn => ?_) fun _ => T.ok h
 refine T.bind (Q := fun r => r.2 = (L', nx', n)) ?_ fun r hr => ?_
 ·unfold zhL
  refine T.bif (fun _ => ?_) fun _ => T.ok rfl
  have := (h.ok n hn).2.1
  rw [zrX (by simp; omega), zaA]
  exact T.ok rfl
 ·obtain ⟨b, v⟩ := r
  simp only at hr
  subst hr
  refine T.bind (Q := fun r => r.2 = (L', nx', n)) ?_ fun r hr => ?_
  ·unfold zhH
   exact T.bif (fun _ => T.bif (fun _ => T.ok rfl) fun _ => T.ok rfl) fun _ => T.ok rfl
  ·obtain ⟨b, v⟩ := r
   simp only at hr
   subst hr
   simp only []
   refine T.bif (fun _ => (yoX h hn (by exact rfl) (by exact rfl) (by have hh := h.ok _ hn; exact hh)).bind fun r hr => ?_) fun _ => T.ok ⟨⟨h, e1, ?_, ?_⟩, ?_⟩
   ·obtain ⟨q, L2⟩ := r
    obtain ⟨rfl, hr, e2⟩ := hr
    refine T.ok ⟨⟨hr, e2.trans e1, ?_, ?_⟩, ?_⟩
    ·simp only []; rw [zcQ (by omega)]; omega
    ·simp only []; rw [zcQ (by omega)]; omega
    ·simp only []; rw [zcQ (by omega)]; omega
   ·simp only []; rw [zcQ (by omega)]; omega
   ·simp only []; rw [zcQ (by omega)]; omega
   ·simp only []; rw [zcQ (by omega)]; omega
theorem yvJ (h : RY L nx) {n : Nd} (hn : NdOk n) (now : Int) : T (zcJ zaB n now L nx) fun r => RY r.2.2.1 r.2.2.2 := by
 have hnx := h.next
 unfold zcJ
 refine (yxQ hn).bind fun b hb => T.bif (fun _ => T.ok h) fun hb2 => ?_
 have hp0 : 0 ≤ npar n := hb (by simpa using hb2)
 refine (yqG h.len _).bind fun r hr => ?_
 obtain ⟨q, b2, v⟩ := r
 obtain ⟨rfl, _⟩ := hr
 simp only []
 refine T.bif (fun _ => T.ok h) fun _ => ?_
 refine T.bind (Q := fun r => match r with
  | .inl v => v.2.2 = (L, nx)
  | .inr v => v = (L, nx, n) ∧ npar n < nx) ?_ fun r hr => ?_
 ·unfold zgZ
  simp only []
  refine T.dif (fun hp => (at_t h.len _).bind fun r hr => ?_) fun hp => T.ok ⟨rfl, by show n.2.2.1 < nx; omega⟩
  obtain ⟨i, v⟩ := r
  obtain ⟨rfl, hr⟩ := hr
  simp only [] at hr ⊢
  refine T.dif (fun _ => T.ok rfl) fun hi => (ylF h _).bind fun r hr2 => ?_
  obtain ⟨b, v⟩ := r
  simp only at hr2
  subst hr2
  refine T.bif (fun _ => T.ok rfl) fun _ => T.ok ⟨rfl, ?_⟩
  rcases hr with ⟨rfl, _⟩ | ⟨k, hk, _, h2⟩
  ·omega
  ·have := h.ids _ (List.getElem_mem hk)
   show n.2.2.1 < nx
   omega
 ·cases r with
  | inl v =>
   obtain ⟨a, e, v⟩ := v
   simp only at hr
   subst hr
   exact T.ok h
  | inr v =>
   obtain ⟨rfl, hp1⟩ := hr
   simp only []
   refine (yjS h now).bind fun r hr => ?_
   obtain ⟨m, nx', out⟩ := r
   obtain ⟨e1, hsub, hlen⟩ := hr
   simp only at e1 hsub hlen
   subst e1
   have hO : RY out nx' := ⟨fun q hq => h.ids q (hsub q hq), fun q hq => h.ok q (hsub q hq), h.next, Nat.le_trans hlen h.len⟩
   have hn4 : n.2.2.2.2.2.2.1.length ≤ 1048576 := hn.2.2.2.1
   have hn6 : n.2.2.2.2.2.2.2.2.2.2.2.1.length ≤ 1048576 := hn.2.2.2.2.2.1
   unfold zgY
   simp only []
   by_cases hg : out.length ≥ 256
   ·rw [zmD (by omega)]
    exact T.ok hO
   ·rw [zkB (by omega)]
    by_cases hx : nx' ≥ 99999999
    ·rw [zmD hx]
     exact T.ok hO
    ·rw [zkB hx, zaA]
     simp only []
     rw [ziJ _ (by omega), zaA]
     unfold zgV
     simp only []
     rw [ziJ _ (by omega), zaA, zaA]
     simp only []
     rw [ziJ _ (by omega), zaA, zrX (by simp; omega), zaA, zlK (by omega) (by omega)]
     refine T.ok {
       ids := fun q hq => ?_
       ok := fun q hq => ?_
       next := ⟨by simp only []; omega, by simp only []; omega⟩
       len := by simp only [List.length_append, List.length_singleton]; omega }
     ·rcases List.mem_append.1 hq with hq | hq
      ·have := hO.ids q hq
       exact ⟨by simp only []; omega, this.2⟩
      ·rw [List.mem_singleton] at hq
       subst hq
       exact ⟨by simp only []; omega, hp0, hp1⟩
     ·rcases List.mem_append.1 hq with hq | hq
      ·exact hO.ok q hq
      ·rw [List.mem_singleton] at hq
       subst hq
       exact hn
end
theorem yoO {a b : List L8} (h : a.length ≤ 1048576) : T (zeH zaB a b) fun _ => True := by
 unfold zeH
 refine T.bif (fun _ => T.ok trivial) fun hl => ?_
 have hl : (a.length : Int) = (b.length : Int) := by simpa using hl
 refine T.bind (Q := fun _ => True) (T.places a.length (by omega) _ fun k hk => ?_) fun r _ => ?_
 ·unfold znX
  exact T.dif (fun h2 => (T.ixn h2).bind fun _ _ => (T.ixn (by omega)).bind fun _ _ => T.bif (fun _ => T.ok trivial) fun _ => T.ok ⟨zcQ (by omega), by omega⟩) fun _ => T.ok trivial
 ·cases r <;> exact T.ok trivial
theorem ykU {a b : Nd} (h : Lst a) : T (zcB zaB a b) fun _ => True := by
 unfold zcB
 refine T.bind (Q := fun _ => True) ?_ fun r _ => ?_
 ·unfold zoB
  exact (yoO h.1).bind fun _ _ => T.bif (fun _ => T.ok trivial) fun _ => (yoO h.2).bind fun _ _ => T.bif (fun _ => T.ok trivial) fun _ => T.ok trivial
 ·cases r with
  | inl _ => exact T.ok trivial
  | inr _ =>
   simp only []
   repeat' first | exact T.ok trivial | refine T.bif (fun _ => ?_) fun _ => ?_
theorem yhC {a b : List Int} (h : a.length ≤ 99999999) : T (zdI zaB a b) fun _ => True := by
 unfold zdI
 refine T.bif (fun _ => T.ok trivial) fun hl => ?_
 have hl : (a.length : Int) = (b.length : Int) := by simpa using hl
 refine T.bind (Q := fun _ => True) (T.places a.length (by omega) _ fun k hk => ?_) fun r _ => ?_
 ·unfold zlM
  exact T.dif (fun h2 => (T.ixn h2).bind fun _ _ => (T.ixn (by omega)).bind fun _ _ => T.bif (fun _ => T.ok trivial) fun _ => T.ok ⟨zcQ (by omega), by omega⟩) fun _ => T.ok trivial
 ·cases r <;> exact T.ok trivial
abbrev OpT : Type := Int × Int × Int × Int × L8 × Nd
def zyI (o : OpT) (nx : Int) (es : Es) : Int × Es :=
 bif o.2.1 == (0 : Int) then ((zpK o.2.2.2.2.2 o.2.2.1 nx es).2.2.1, (zpK o.2.2.2.2.2 o.2.2.1 nx es).2.2.2) else
 bif o.2.1 == (1 : Int) then (nx, es) else
 bif o.2.1 == (2 : Int) then (nx, (ydC es o.2.2.1 o.2.2.2.1).2) else
 bif o.2.1 == (3 : Int) then (nx, bif mhas keqI es o.2.2.1 then chI es o.2.2.1 zsA else es) else
 bif o.2.1 == (4 : Int) then (nx, yaP es o.2.2.2.2.1) else
 bif o.2.1 == (5 : Int) then (nx, (ynB es o.2.2.1 o.2.2.2.1).2) else
 bif o.2.1 == (6 : Int) then (nx, (ymL es o.2.2.1 o.2.2.2.2.1).2) else
 bif o.2.1 == (7 : Int) then (nx, zfH es o.2.2.1) else (nx, es)
theorem Ok.kill {nx : Int} {es : Es} (h : Ok nx es) (i : Int) : Ok nx (bif mhas keqI es i then chI es i zsA else es) := by
 cases mhas keqI es i with
 | false => exact h
 | true => exact h.ch (zsP _)
theorem Ok.step {nx : Int} {es : Es} (h : Ok nx es) (o : OpT) : Ok (zyI o nx es).1 (zyI o nx es).2 := by
 unfold zyI
 cases o.2.1 == (0 : Int) with
 | true => exact h.plant _ _
 | false =>
  cases o.2.1 == (1 : Int) with
  | true => exact h
  | false =>
   cases o.2.1 == (2 : Int) with
   | true => exact h.spend _ _
   | false =>
    cases o.2.1 == (3 : Int) with
    | true => exact h.kill _
    | false =>
     cases o.2.1 == (4 : Int) with
     | true => exact h.killed _
     | false =>
      cases o.2.1 == (5 : Int) with
      | true => exact h.lift _ _
      | false =>
       cases o.2.1 == (6 : Int) with
       | true => exact h.note _ _
       | false =>
        cases o.2.1 == (7 : Int) with
        | true => exact h.pruned _
        | false => exact h
theorem ypK : Lst zN := ⟨by decide, by decide⟩
theorem yhR {nx : Int} {es : Es} (h : Ok nx es) (i : Int) : Lst (zkA keqI es i zN) := by
 cases hh : mhas keqI es i with
 | false => rw [ymF hh]; exact ypK
 | true =>
  obtain ⟨n, hn, hp⟩ := zrV hh
  rw [zmF hn]
  exact h.lst hp
theorem yfT {nx : Int} {es : Es} (h : Ok nx es) {s : L8} {n : Nd} (hf : zvQ es s = some n) : Lst n := by
 unfold zvQ at hf
 obtain ⟨p, hp, rfl⟩ := Option.map_eq_some_iff.1 hf
 exact h.lst (List.mem_of_find?_eq_some hp)
theorem xbR {s : Int × Int × List Nd × Int × Es × Int × Int × Int × L8 × L8 × L8 × Int × Int × Bool × Bool × Int × L8 × L8 × List L8 × List L8} (h0 : s.1 = 0) (h1 : (s.2.2.2.2.2.2.2.2.2.2.2.2.2.2.2.2.2.2.1).length ≤ 1048576) (h2 : (s.2.2.2.2.2.2.2.2.2.2.2.2.2.2.2.2.2.2.2).length ≤ 1048576) : T (iter (fun x => ziL zaB x.1 x.2.1 x.2.2.1 x.2.2.2.1 x.2.2.2.2.1 x.2.2.2.2.2.1 x.2.2.2.2.2.2.1 x.2.2.2.2.2.2.2.1 x.2.2.2.2.2.2.2.2.1 x.2.2.2.2.2.2.2.2.2.1 x.2.2.2.2.2.2.2.2.2.2.1 x.2.2.2.2.2.2.2.2.2.2.2.1 x.2.2.2.2.2.2.2.2.2.2.2.2.1 x.2.2.2.2.2.2.2.2.2.2.2.2.2.1 x.2.2.2.2.2.2.2.2.2.2.2.2.2.2.1 x.2.2.2.2.2.2.2.2.2.2.2.2.2.2.2.1 x.2.2.2.2.2.2.2.2.2.2.2.2.2.2.2.2.1 x.2.2.2.2.2.2.2.2.2.2.2.2.2.2.2.2.2.1 x.2.2.2.2.2.2.2.2.2.2.2.2.2.2.2.2.2.2.1 x.2.2.2.2.2.2.2.2.2.2.2.2.2.2.2.2.2.2.2) s) fun r => r.1 = s.2.1 ∧ r.2.1 = s.2.2.1 ∧ r.2.2.1 = s.2.2.2.1 ∧ r.2.2.2.1 = s.2.2.2.2.1 ∧ (r.2.2.2.2.2.2.2.2.2.2.2.2.2.2.2.2.2.2).length ≤ 1048576 := by
 refine T.iter (fun x => x.2.1 = s.2.1 ∧ x.2.2.1 = s.2.2.1 ∧ x.2.2.2.1 = s.2.2.2.1 ∧ x.2.2.2.2.1 = s.2.2.2.2.1 ∧ 0 ≤ x.1 ∧ x.1 ≤ ((x.2.2.2.2.2.2.2.2.2.2.2.2.2.2.2.2.2.2.1).length : Int) ∧ (x.2.2.2.2.2.2.2.2.2.2.2.2.2.2.2.2.2.2.1).length ≤ 1048576 ∧ (x.2.2.2.2.2.2.2.2.2.2.2.2.2.2.2.2.2.2.2).length ≤ 1048576) (fun x => (x.2.2.2.2.2.2.2.2.2.2.2.2.2.2.2.2.2.2.1).length - x.1.toNat) _ (fun x hx => ?_) ⟨rfl, rfl, rfl, rfl, by omega, by omega, h1, h2⟩ (by omega)
 obtain ⟨e1, e2, e3, e4, h5, h6, h7, h8⟩ := hx
 obtain ⟨k, hk⟩ : ∃ k : Nat, x.1 = k := ⟨x.1.toNat, by omega⟩
 unfold ziL
 rw [hk]
 rw [hk] at h5 h6
 refine T.dif (fun h9 => ?_) fun _ => T.ok ⟨e1, e2, e3, e4, h8⟩
 rw [decide_eq_true (show (0 : Int) ≤ (k : Int) by omega), decide_eq_true h9, Bool.and_self, zrH rfl, zaA]
 refine (ygA (by omega) h9).bind fun r hr => ?_
 obtain ⟨j, rfl⟩ := hr
 refine T.ok ⟨⟨e1, e2, e3, e4, ?_, ?_, ?_, h8⟩, ?_⟩
 ·rw [zcQ (by omega)]; exact Int.natCast_nonneg _
 ·rw [zcQ (by omega), List.length_set]; exact Int.ofNat_le.2 (by omega)
 ·rw [List.length_set]; exact h7
 ·rw [zcQ (by omega), List.length_set, Int.toNat_natCast]; omega
theorem xaK {s : Int × Int × List Nd × Int × Es × Int × Int × Int × L8 × L8 × L8 × Int × Int × Bool × Bool × Int × L8 × L8 × List L8 × List L8} (h0 : s.1 = 0) (h2 : (s.2.2.2.2.2.2.2.2.2.2.2.2.2.2.2.2.2.2.2).length ≤ 1048576) : T (iter (fun x => ziH zaB x.1 x.2.1 x.2.2.1 x.2.2.2.1 x.2.2.2.2.1 x.2.2.2.2.2.1 x.2.2.2.2.2.2.1 x.2.2.2.2.2.2.2.1 x.2.2.2.2.2.2.2.2.1 x.2.2.2.2.2.2.2.2.2.1 x.2.2.2.2.2.2.2.2.2.2.1 x.2.2.2.2.2.2.2.2.2.2.2.1 x.2.2.2.2.2.2.2.2.2.2.2.2.1 x.2.2.2.2.2.2.2.2.2.2.2.2.2.1 x.2.2.2.2.2.2.2.2.2.2.2.2.2.2.1 x.2.2.2.2.2.2.2.2.2.2.2.2.2.2.2.1 x.2.2.2.2.2.2.2.2.2.2.2.2.2.2.2.2.1 x.2.2.2.2.2.2.2.2.2.2.2.2.2.2.2.2.2.1 x.2.2.2.2.2.2.2.2.2.2.2.2.2.2.2.2.2.2.1 x.2.2.2.2.2.2.2.2.2.2.2.2.2.2.2.2.2.2.2) s) fun r => r = (s.2.1, s.2.2.1, s.2.2.2.1, s.2.2.2.2.1) := by
 refine T.iter (fun x => x.2.1 = s.2.1 ∧ x.2.2.1 = s.2.2.1 ∧ x.2.2.2.1 = s.2.2.2.1 ∧ x.2.2.2.2.1 = s.2.2.2.2.1 ∧ 0 ≤ x.1 ∧ x.1 ≤ ((x.2.2.2.2.2.2.2.2.2.2.2.2.2.2.2.2.2.2.2).length : Int) ∧ (x.2.2.2.2.2.2.2.2.2.2.2.2.2.2.2.2.2.2.2).length ≤ 1048576) (fun x => (x.2.2.2.2.2.2.2.2.2.2.2.2.2.2.2.2.2.2.2).length - x.1.toNat) _ (fun x hx => ?_) ⟨rfl, rfl, rfl, rfl, by omega, by omega, h2⟩ (by omega)
 obtain ⟨e1, e2, e3, e4, h5, h6, h8⟩ := hx
 obtain ⟨k, hk⟩ : ∃ k : Nat, x.1 = k := ⟨x.1.toNat, by omega⟩
 unfold ziH
 rw [hk]
 rw [hk] at h5 h6
 refine T.dif (fun h9 => ?_) fun _ => T.ok (by rw [e1, e2, e3, e4])
 rw [decide_eq_true (show (0 : Int) ≤ (k : Int) by omega), decide_eq_true h9, Bool.and_self, zrH rfl, zaA]
 refine (ygA (by omega) h9).bind fun r hr => ?_
 obtain ⟨j, rfl⟩ := hr
 refine T.ok ⟨⟨e1, e2, e3, e4, ?_, ?_, ?_⟩, ?_⟩
 ·rw [zcQ (by omega)]; exact Int.natCast_nonneg _
 ·rw [zcQ (by omega), List.length_set]; exact Int.ofNat_le.2 (by omega)
 ·rw [List.length_set]; exact h8
 ·rw [zcQ (by omega), List.length_set, Int.toNat_natCast]; omega
def Did (nx : Int) (es : Es) : Bool × Int × List Nd × Int × Es → Prop := fun r => (r.2.1, r.2.2.2.2) = (nx, es) ∧ RY r.2.2.1 r.2.2.2.1
theorem xeM {nx ny : Int} {es : Es} {L : List Nd} (h : Ok nx es) (hy : RY L ny) (o : OpT) (ho : NdOk o.2.2.2.2.2) : T (zfY zaB o nx L ny es) (Did (zyI o nx es).1 (zyI o nx es).2) := by
 unfold zfY zyI
 have h4 : o.2.2.2.2.2.2.2.2.2.2.2.1.length ≤ 1048576 := ho.2.2.2.1
 have h6 : o.2.2.2.2.2.2.2.2.2.2.2.2.2.2.2.2.1.length ≤ 1048576 := ho.2.2.2.2.2.1
 cases o.2.1 == (0 : Int) with
 | true =>
  simp only [cond_true]
  rw [ziJ _ (by omega), zaA, ziJ _ (by omega), zaA]
  rw [show zbO zaB _ _ _ _ _ _ _ _ _ _ _ _ _ _ _ _ _ _ = _ from ygZ h o.2.2.2.2.2 o.2.2.1 ⟨h4, h6⟩, zaA]
  refine (yvJ hy ho o.2.2.1).bind fun r hr => ?_
  refine T.bind (xbR (by exact rfl) (by exact h4) (by exact h6)) fun v hv => ?_
  obtain ⟨e1, e2, e3, e4, h7⟩ := hv
  refine T.bind (xaK (by exact rfl) (by exact h7)) fun v2 hv2 => ?_
  simp only at e1 e2 e3 e4
  rw [e1, e2, e3, e4] at hv2
  subst hv2
  exact T.bif (fun _ => T.ok ⟨rfl, hr⟩) fun _ => T.ok ⟨rfl, hr⟩
 | false =>
  cases o.2.1 == (1 : Int) with
  | true =>
   simp only [cond_true, cond_false]
   rw [ysJ h, zaA]
   refine (ybN hy.len _).bind fun r hr => ?_
   obtain ⟨n1, b1, v⟩ := r
   obtain ⟨rfl, _⟩ := hr
   simp only []
   rw [zrS h, zaA]
   have hql : Lst ((zvQ es o.2.2.2.2.1).getD zN) := by
    cases hf : zvQ es o.2.2.2.2.1 with
    | none => exact ypK
    | some n => exact yfT h hf
   refine (yqG hy.len _).bind fun r hr => ?_
   obtain ⟨n2, b2, v⟩ := r
   obtain ⟨rfl, _⟩ := hr
   simp only []
   have hok : ∀ b : Bool, Did nx es (b, nx, L, ny, es) := fun b => ⟨rfl, hy⟩
   refine T.bif (fun _ => T.bif (fun _ => (ykU (yhR h _)).bind fun _ _ => T.bif (fun _ => (ykU hql).bind fun _ _ => T.bif (fun _ => ?_) fun _ => T.ok (hok _)) fun _ => T.ok (hok _)) fun _ => T.ok (hok _)) fun _ => T.ok (hok _)
   rw [yfP h, zaA]
   refine (yiQ hy _ _).bind fun r hr => ?_
   obtain ⟨b3, v⟩ := r
   simp only at hr
   subst hr
   refine T.bif (fun _ => ?_) fun _ => T.ok (hok _)
   rw [yeN h, zaA]
   refine (yiU hy _).bind fun r hr => ?_
   obtain ⟨L', ny', l⟩ := r
   obtain ⟨e1, e2, _⟩ := hr
   simp only at e1 e2
   subst e1 e2
   exact (yhC (zxD h _)).bind fun _ _ => T.ok (hok _)
  | false =>
   cases o.2.1 == (2 : Int) with
   | true =>
    simp only [cond_true, cond_false]
    rw [ylA h, zaA]
    exact (yuL hy _ _).bind fun r hr => T.ok ⟨rfl, hr⟩
   | false =>
    cases o.2.1 == (3 : Int) with
    | true =>
     simp only [cond_true, cond_false]
     rw [yqJ h, zaA]
     refine (ysB hy _).bind fun r hr => T.ok ⟨?_, hr⟩
     cases mhas keqI es o.2.2.1 <;> rfl
    | false =>
     cases o.2.1 == (4 : Int) with
     | true =>
      simp only [cond_true, cond_false]
      rw [yhX h, zaA]
      exact (ysP hy _).bind fun r hr => T.ok ⟨rfl, hr⟩
     | false =>
      cases o.2.1 == (5 : Int) with
      | true =>
       simp only [cond_true, cond_false]
       rw [ytM h, zaA]
       exact (xbB hy _ _).bind fun r hr => T.ok ⟨rfl, hr⟩
      | false =>
       cases o.2.1 == (6 : Int) with
       | true =>
        simp only [cond_true, cond_false]
        rw [yqV h, zaA]
        exact (xcU hy _ _).bind fun r hr => T.ok ⟨rfl, hr⟩
       | false =>
        cases o.2.1 == (7 : Int) with
        | true =>
         simp only [cond_true, cond_false]
         rw [zvS h, zaA]
         refine (yjS hy _).bind fun r hr => T.ok ⟨rfl, ?_⟩
         obtain ⟨m, nx', out⟩ := r
         obtain ⟨e1, hsub, hlen⟩ := hr
         simp only at e1 hsub hlen
         subst e1
         exact ⟨fun q hq => hy.ids q (hsub q hq), fun q hq => hy.ok q (hsub q hq), hy.next, Nat.le_trans hlen hy.len⟩
        | false => exact T.ok ⟨rfl, hy⟩
def ybX (l : List OpT) : Int × Es := l.foldl (fun s o => zyI o s.1 s.2) (1, [])
theorem yxY : Ok 1 [] := ⟨List.Pairwise.nil, fun _ h => (by cases h), fun _ h => (by cases h), fun _ h => (by cases h), fun _ h => (by cases h), ⟨by decide, by decide⟩, by decide⟩
theorem yeL : ∀ (l : List OpT) (s : Int × Es), Ok s.1 s.2 → Ok (l.foldl (fun s o => zyI o s.1 s.2) s).1 (l.foldl (fun s o => zyI o s.1 s.2) s).2
 | [], _, h => h
 | o :: l, s, h => yeL l (zyI o s.1 s.2) (h.step o)
theorem ypG (l : List OpT) : Ok (ybX l).1 (ybX l).2 := yeL l (1, []) yxY
theorem yzX {l : List OpT} (hl : l.length ≤ 1048576) (ho : ∀ o ∈ l, NdOk o.2.2.2.2.2) : zgF zaB l = some (ybX l) := by
 have h : T (iter (fun x => zjI zaB l x.1 x.2.1 x.2.2.1 x.2.2.2.1 x.2.2.2.2) ((0 : Int), 1, ([] : List Nd), 1, ([] : Es))) fun r => r = ybX l := by
  refine T.iter (fun x => 0 ≤ x.1 ∧ x.1 ≤ (l.length : Int) ∧ (x.2.1, x.2.2.2.2) = (l.take x.1.toNat).foldl (fun s o => zyI o s.1 s.2) (1, []) ∧ RY x.2.2.1 x.2.2.2.1) (fun x => l.length - x.1.toNat) _ (fun x hx => ?_) ⟨Int.le_refl _, by simp, rfl, ⟨fun _ h => (by cases h), fun _ h => (by cases h), ⟨by decide, by decide⟩, by decide⟩⟩ (by simp; omega)
  obtain ⟨i, nx, L, ny, es⟩ := x
  obtain ⟨h1, h2, h3, hy⟩ := hx
  simp only at h1 h2 h3 hy
  obtain ⟨k, rfl⟩ : ∃ k : Nat, i = k := ⟨i.toNat, by omega⟩
  rw [Int.toNat_natCast] at h3
  unfold zjI
  simp only []
  refine T.dif (fun h4 => ?_) fun h4 => T.ok ?_
  ·have hk : k < l.length := by omega
   rw [zlL rfl hk, zaA]
   have hO := yeL (l.take k) (1, []) yxY
   rw [← h3] at hO
   refine (xeM hO hy l[k] (ho _ (List.getElem_mem hk))).bind fun r hr => ?_
   obtain ⟨b, nx', L', ny', es'⟩ := r
   obtain ⟨h5, h6⟩ := hr
   refine T.ok ⟨⟨?_, ?_, ?_, h6⟩, ?_⟩
   ·simp only []; rw [zcQ (by omega)]; omega
   ·simp only []; rw [zcQ (by omega)]; omega
   ·simp only []
    rw [zcQ (by omega), Int.toNat_natCast, List.take_succ_eq_append_getElem hk, List.foldl_append, ← h3]
    exact h5
   ·simp only []; rw [zcQ (by omega)]; omega
  ·rw [List.take_of_length_le (by omega)] at h3
   exact h3
 obtain ⟨r, h1, rfl⟩ := h
 unfold zgF zhZ zdV
 rw [zaA, zaA]
 rw [show iter _ _ = _ from h1, zaA]
end Go.Proofs.YtebbcofojchkpaaGreatDoor.Am
namespace Go.Proofs.YtebbcofojchkpaaGreatDoor
open Go Go.RowKit
section
open Go Go.RowKit Go.ChangeShapes Go.WideShapes Go.ChangeAt
section
variable {H : Type} {enc : TypeId × Value → H} {P : Program} {W W' : World}
theorem ybZ (hl : laidOutB P = true) (hx : Below W.heap.size W W') : ∀ {ts : List TypeId} {vs : LV} {ds : List (DataW H)} {ps : List MemPlace}, ts.all (fun t => P.readableRec t && decide (t < P.types.size)) = true →
  DataW.TrodAll enc P W 0 (fun _ => true) true ts vs ds ps → (∀ x ∈ ps, x.block < W.heap.size) → DataW.TrodAll enc P W' 0 (fun b => decide (b < W.heap.size)) true ts vs ds ps
 | [], vs, ds, ps, _, h, _ => by
  obtain ⟨rfl, rfl, rfl⟩ := trodAll_nil h
  exact trodAll_mk0
 | t :: ts, vs, ds, ps, ha, h, hlt => by
  obtain ⟨v, vs', d, ds', p, q, rfl, rfl, rfl, h0, hr⟩ := trodAll_cons h
  simp only [List.all_cons, Bool.and_eq_true, decide_eq_true_eq] at ha
  exact trodAll_cons_mk (Below.trod hl ha.1.1 ha.1.2 h0 hx fun x hx => hlt x (List.mem_append.2 (.inl hx)))
   (ybZ hl hx ha.2 hr fun x hx => hlt x (List.mem_append.2 (.inr hx)))
theorem trodAll_length : ∀ {ts : List TypeId} {vs : LV} {ds : List (DataW H)} {ps : List MemPlace} {w : World} {b : Nat} {sp : Nat → Bool} {hd : Bool}, DataW.TrodAll enc P w b sp hd ts vs ds ps → vs.length = ts.length ∧ ds.length = ts.length
 | [], vs, ds, ps, _, _, _, _, h => by
  obtain ⟨rfl, rfl, rfl⟩ := trodAll_nil h
  exact ⟨rfl, rfl⟩
 | t :: ts, vs, ds, ps, _, _, _, _, h => by
  obtain ⟨v, vs', d, ds', p, q, rfl, rfl, rfl, h0, hr⟩ := trodAll_cons h
  have := trodAll_length hr
  simp [this.1, this.2]
theorem ytV {f : Func} {s : ChangeSpec} {args : Array Value} {ds gs : List (DataW H)} {before : List MemPlace} {B : TypeId} {n : Nat} (hl : laidOutB P = true) (hv : s.vars = [])
  (hp : f.params.toList.all (fun t => P.readableRec t && decide (t < P.types.size)) = true) (hn : f.params.toList.length = n) (hB : P.underlying B = some .bool) (hr : f.resultTypes = #[B])
  (hfn : ∀ ds : List (DataW H), ds.length = n → (s.fn H (ds ++ [])).results = [.lit (.bool true)] ∧ (s.fn H (ds ++ [])).args = ds ∧ (s.fn H (ds ++ [])).vars = [])
  (hW : DataW.Whole enc P f.params.toList s.vars false W args.toList ds gs before) (hx : Ext W W') : s.post enc P f false true false false W args (.bool true) W' := by
 have hW' := hW
 obtain ⟨p, q, hA, hV, rfl, _, _⟩ := hW
 rw [hv] at hV
 obtain ⟨rfl, rfl⟩ := trodVars_none hV
 have hA : DataW.TrodAll enc P W 0 (fun _ => true) true f.params.toList args.toList ds p := hA
 have hlen := trodAll_length hA
 obtain ⟨f1, f2, f3⟩ := hfn ds (hlen.2.trans hn)
 refine ⟨ds, [], p ++ [], [], p, [], hW', ?_, ?_, ?_, Below.frame hx _, fun h => by cases h⟩
 ·rw [f1, hr]
  exact trodAll_mk1 (shut_bool hB _)
 ·rw [f2]
  exact ybZ hl hx hp hA fun x hxp => by simpa using hW'.lt x (by simp [hxp])
 ·rw [f3, hv]; exact rfl
variable {b0 : Nat} {T E : TypeId} {v : Value}
theorem ytZ {fits : TypeId → Bool} : ∀ {d : Nat} {e : TypeId} {count off n : Nat}, rowAt P fits d e count off n = true → off ≤ count * P.cellsOf e
 | 0, _, _, _, _, h => by simp [rowAt] at h
 | d + 1, e, count, off, n, h => by
  unfold rowAt at h
  by_cases hs : P.cellsOf e = 0
  ·simp [hs] at h
  ·have hd := Nat.div_add_mod off (P.cellsOf e)
   have hm := Nat.mod_lt off (Nat.pos_of_ne_zero hs)
   simp only [hs, if_false, Bool.or_eq_true, Bool.and_eq_true, decide_eq_true_eq, beq_iff_eq] at h
   rcases h with ⟨⟨h1, h2⟩, _⟩ | ⟨h1, _⟩
   ·have h3 : P.cellsOf e * (off / P.cellsOf e) ≤ P.cellsOf e * count := Nat.mul_le_mul_left _ (by omega)
    rw [Nat.mul_comm count]; omega
   ·have h3 : P.cellsOf e * (off / P.cellsOf e + 1) ≤ P.cellsOf e * count := Nat.mul_le_mul_left _ (by omega)
    rw [Nat.mul_add, Nat.mul_one] at h3
    rw [Nat.mul_comm count]; omega
theorem ygP : ∀ {d : Nat} {e : TypeId} {count off : Nat} {u : TypeId} {n : Nat}, liesAt P d e count off u n = true → off ≤ count * P.cellsOf e
 | 0, _, _, _, _, _, h => by simp [liesAt] at h
 | d + 1, e, count, off, u, n, h => by
  unfold liesAt at h
  rw [Bool.or_eq_true] at h
  rcases h with h | h
  ·exact ytZ h
  ·split at h
   ·exact ygP h
   ·cases h
theorem yvB {a : Addr} {len cap : Nat} (hu : P.underlying T = some (.slice E)) (h : Value.okWide P W .any b0 T (.slice (some a) len cap)) :
  a.spot = none ∧ ∃ cs R fz, W.heap[a.block]? = some (.cells cs R fz) ∧ a.off ≤ cs.size := by
 simp only [Value.okWide, Cell.okWide, Cell.ok, hu] at h
 obtain ⟨_, _, _, h2, row, cells, h3, h4⟩ := h
 refine ⟨h2, ?_⟩
 unfold World.shape? at h3
 split at h3
 ·rename_i c elem fz hb
  simp only [Option.some.injEq, Prod.mk.injEq] at h3
  obtain ⟨rfl, rfl⟩ := h3
  have h5 := ygP h4
  have h6 := Nat.div_mul_le_self c.size (P.cellsOf elem)
  exact ⟨c, _, fz, hb, by omega⟩
 ·cases h3
theorem ok_slice (hu : P.underlying T = some (.slice E)) (h : Value.okWide P W .any b0 T v) : v = .slice none 0 0 ∨ ∃ a len cap, v = .slice (some a) len cap := by
 simp only [Value.okWide, Cell.okWide, Cell.ok, hu] at h
 cases v with
 | slice a len cap =>
  cases a with
  | none =>
   left
   cases len with
   | zero => cases cap with
    | zero => rfl
    | succ n => simp at h
   | succ n => simp at h
  | some a => exact .inr ⟨a, len, cap, rfl⟩
 | _ => simp at h
theorem ykN {l r : List (DataW H)} : Rows.uptoBulkAll (l ++ r) = Rows.uptoBulkAll l + Rows.uptoBulkAll r := by
 induction l with
 | nil => simp [Rows.uptoBulkAll]
 | cons x l ih => simp only [List.cons_append, Rows.uptoBulkAll, ih]; omega
end
end
end Go.Proofs.YtebbcofojchkpaaGreatDoor
namespace Go.Proofs.YtebbcofojchkpaaGreatDoor.Am
open Go Go.RowKit Go.ChangeShapes Go.WideShapes Go.ChangeAt
def dsz : (t : Ty) → den t → Nat
 | .s, x => List.length x + 1
 | .pr a c, x => dsz a x.1 + dsz c x.2
 | .un, _ => 0
 | .sl e, x => (List.map (dsz e) x).sum + 1
 | _, _ => 1
def fOk (q : TypeId → Ty → Bool) (c : TypeId → Nat) : List Field → Nat → Ty → Bool
 | [], _, t => match t with
  | .un => true
  | _ => false
 | [f], off, t => (q f.type t && (Nat.beq f.offset off && Nat.beq (c f.type) (tsz t))) || (match t with
  | .pr a .un => q f.type a && (Nat.beq f.offset off && Nat.beq (c f.type) (tsz a))
  | _ => false)
 | f :: g :: fs, off, t => match t with
  | .pr a r => (q f.type a && (Nat.beq f.offset off && Nat.beq (c f.type) (tsz a))) && fOk q c (g :: fs) (off + tsz a) r
  | _ => false
def tyOk (P : Program) : Nat → TypeId → Ty → Bool
 | 0, _, _ => false
 | n + 1, T, t => match P.underlying T, t with
  | some (.int k), .i k' => (ikEq k k').isSome
  | some .bool, .b => true
  | some .string, .s => true
  | some (.slice E), .sl e => tyOk P n E e && (Nat.beq (P.cellsOf E) (tsz e) && Nat.blt 0 (tsz e))
  | some (.struct fs), t => (Nat.beq (P.cellsOf T) (tsz t) && !(one t)) && fOk (tyOk P n) P.cellsOf fs.toList 0 t
  | _, _ => false
section
variable {H : Type} {enc : TypeId × Value → H} {P : Program} {W : World} {sp : Nat → Bool} {S : Mem}
theorem xcZ : ∀ {k : IntKind} {n : Int}, (Lit.int k n).wf = true → toI k (ofI k n) = n := fun {k n} h => by
 rw [ytB]
 cases k <;> simp [Lit.wf, IntKind.has, IntKind.min, IntKind.max, IntKind.signed, IntKind.bits] at h <;> simp [IntKind.wrap, IntKind.signed, IntKind.bits] <;> omega
theorem yfV {a c : Ty} {cs : LV} {x : den a} {y : den c} (hx : rep a S (cs.take (tsz a)) x) (hy : rep c S (cs.drop (tsz a)) y) : rep (.pr a c) S cs (x, y) :=
 ⟨_, _, (List.take_append_drop (tsz a) cs).symm, hx, hy⟩
theorem yxH : rep .un S ([] : LV) () := rfl
theorem yfZ {q : TypeId → Ty → Bool} {fuel : Nat} (hq : ∀ (T : TypeId) (t : Ty), q T t = true → ∀ cs d ps, DataW.trod enc P W 0 sp true fuel T cs = some (d, ps) → ∃ x : den t, rep t S cs x ∧ dsz t x ≤ Rows.uptoBulk d) {cs : LV} :
  ∀ (fs : List Field) (off : Nat) (t : Ty) (xs : List (DataW H × List MemPlace)), fOk q P.cellsOf fs off t = true → cs.length = off + tsz t →
   A2 (fun (f : Field) y => DataW.trod enc P W 0 sp true fuel f.type ((cs.drop f.offset).take (P.cellsOf f.type)) = some y) fs xs →
   ∃ x : den t, rep t S (cs.drop off) x ∧ dsz t x ≤ Rows.uptoBulkAll (xs.map (·.1))
 | [], off, t, xs, h, hl, hA => by
  cases t <;> simp only [fOk] at h <;> try (cases h; done)
  cases hA
  refine ⟨(), ?_, Nat.zero_le _⟩
  rw [List.drop_eq_nil_of_le (by rw [hl]; exact Nat.le_refl _)]
  exact yxH
 | [f], off, t, xs, h, hl, hA => by
  cases hA with
  | @cons _ y _ _ h1 h2 =>
   cases h2
   simp only [fOk, Bool.or_eq_true] at h
   rcases h with h | h
   ·rw [Bool.and_eq_true, Bool.and_eq_true] at h
    obtain ⟨h0, h2, h3⟩ := h
    have h2 := Nat.eq_of_beq_eq_true h2
    have h3 := Nat.eq_of_beq_eq_true h3
    obtain ⟨x, hx, hd⟩ := hq _ _ h0 _ _ _ h1
    refine ⟨x, ?_, by simp only [List.map_cons, List.map_nil, Rows.uptoBulkAll]; omega⟩
    rw [h2, h3, List.take_of_length_le (by rw [List.length_drop]; omega)] at hx
    exact hx
   ·cases t with
    | pr a c =>
     cases c with
     | un =>
      rw [Bool.and_eq_true, Bool.and_eq_true] at h
      obtain ⟨h0, h2, h3⟩ := h
      have h2 := Nat.eq_of_beq_eq_true h2
      have h3 := Nat.eq_of_beq_eq_true h3
      obtain ⟨x, hx, hd⟩ := hq _ _ h0 _ _ _ h1
      rw [h2, h3] at hx
      have hl : cs.length = off + tsz a := hl
      refine ⟨(x, ()), yfV hx ?_, by simp only [List.map_cons, List.map_nil, Rows.uptoBulkAll]; show dsz a x + 0 ≤ _; omega⟩
      rw [List.drop_eq_nil_of_le (by rw [List.length_drop]; omega)]
      exact yxH
     | _ => simp at h
    | _ => simp at h
 | f :: g :: fs, off, t, xs, h, hl, hA => by
  cases t with
  | pr a r =>
   simp only [fOk] at h
   rw [Bool.and_eq_true, Bool.and_eq_true, Bool.and_eq_true] at h
   obtain ⟨⟨h1, h2, h3⟩, h4⟩ := h
   have h2 := Nat.eq_of_beq_eq_true h2
   have h3 := Nat.eq_of_beq_eq_true h3
   have hl : cs.length = off + (tsz a + tsz r) := hl
   cases hA with
   | @cons _ y _ ys g1 g2 =>
    obtain ⟨x, hx, hd⟩ := hq _ _ h1 _ _ _ g1
    obtain ⟨z, hz, he⟩ := yfZ hq (g :: fs) (off + tsz a) r ys h4 (by omega) g2
    rw [h2, h3] at hx
    refine ⟨(x, z), yfV hx (by rw [List.drop_drop]; exact hz), ?_⟩
    simp only [List.map_cons, Rows.uptoBulkAll]
    show dsz a x + dsz r z ≤ _
    omega
  | _ => simp [fOk] at h
theorem yyB {α β : Type} {R : α → β → Prop} : ∀ {l : List α} {m : List β}, l.length = m.length → (∀ (i : Nat) (a : α) (b : β), l[i]? = some a → m[i]? = some b → R a b) → A2 R l m
 | [], [], _, _ => .nil
 | [], _ :: _, h, _ => by cases h
 | _ :: _, [], h, _ => by cases h
 | a :: l, b :: m, h, hR => .cons (hR 0 a b rfl rfl) (yyB (by simpa using h) fun i a b ha hb => hR (i + 1) a b (by simpa using ha) (by simpa using hb))
theorem ysF {e : Ty} : ∀ {xs : List (den e)} {cs ds : LV} {x : den e}, @RL (den e) (rpD e) S cs xs → rep e S ds x → @RL (den e) (rpD e) S (cs ++ ds) (xs ++ [x])
 | [], cs, ds, x, h, hx => by
  have h : cs = [] := h
  subst h
  exact ⟨ds, [], by simp, hx, rfl⟩
 | y :: xs, cs, ds, x, h, hx => by
  obtain ⟨c, d, rfl, h1, h2⟩ := h
  exact ⟨c, d ++ ds, by simp, h1, ysF h2 hx⟩
theorem sl_of {T E : TypeId} {e : Ty} {fuel : Nat} (hu : P.underlying T = some (.slice E)) (hc : P.cellsOf E = tsz e) (hz : 0 < tsz e) (hq : ∀ (m : Nat) (cs : LV) (d : DataW H) (ps : List MemPlace), DataW.trod enc P W 0 (fun _ => true) true m E cs = some (d, ps) → ∃ x : den e, rep e (zqP W) cs x ∧ dsz e x ≤ Rows.uptoBulk d) {cs : LV} {d : DataW H} {ps : List MemPlace} (hd : DataW.trod enc P W 0 (fun _ => true) true fuel T cs = some (d, ps)) :
  ∃ xs : List (den e), rep (.sl e) (zqP W) cs xs ∧ dsz (.sl e) xs ≤ Rows.uptoBulk d := by
 rcases DataW.trod_slice hu hd with ⟨rfl, h2⟩ | ⟨a, len, cap, elems, rest, m, rfl, rfl, h2, _, hlc, _, hel, hget, hrest, _⟩
 ·cases h2
  exact ⟨[], ⟨_, rfl, [], .inl ⟨⟨none, rfl⟩, rfl, rfl⟩, rfl⟩, Nat.le_refl _⟩
 ·cases h2
  by_cases hcap : cap = 0
  ·subst hcap
   obtain rfl : len = 0 := by omega
   refine ⟨[], ⟨_, rfl, [], .inl ⟨⟨some a, rfl⟩, rfl, rfl⟩, rfl⟩, ?_⟩
   show 0 + 1 ≤ _
   simp only [Rows.uptoBulk]
   omega
  have h0 : ∃ us, W.cells? 0 a (P.cellsOf E) = some us := by
   by_cases hl0 : len = 0
   ·subst hl0
    obtain ⟨g1, g2⟩ := hrest rfl
    have g3 := g2 0 (by omega)
    rw [List.getElem?_eq_getElem (by omega : 0 < rest.length)] at g3
    obtain ⟨us, hus, _⟩ := Option.bind_eq_some_iff.1 g3
    rw [show a.add ((0 + 0) * P.cellsOf E) = a by simp [Addr.add]] at hus
    exact ⟨us, hus⟩
   ·have g3 := hget 0 (by omega)
    rw [List.getElem?_eq_getElem (by omega : 0 < elems.length)] at g3
    obtain ⟨us, hus, _⟩ := Option.bind_eq_some_iff.1 g3
    rw [show a.add (0 * P.cellsOf E) = a by simp [Addr.add]] at hus
    exact ⟨us, hus⟩
  obtain ⟨us, hus⟩ := h0
  obtain ⟨_, hul, huc⟩ := World.cells?_some hus
  have hc0 := huc 0 (by omega)
  rw [show a.add 0 = a by simp [Addr.add], List.getElem?_eq_getElem (by omega : 0 < us.length)] at hc0
  obtain ⟨blk, off, spot⟩ := a
  obtain ⟨cs, R, fz, hb, hsp, ho⟩ : ∃ cs R fz, W.heap[blk]? = some (.cells cs R fz) ∧ spot = none ∧ off ≤ cs.size := by
   unfold World.cell? at hc0
   dsimp only at hc0
   split at hc0
   ·rename_i c R fz hb
    cases spot with
    | some s => simp at hc0
    | none =>
     rw [if_neg (by simp)] at hc0
     have := (Array.getElem?_eq_some_iff.1 hc0).1
     exact ⟨c, R, fz, hb, rfl, Nat.le_of_lt this⟩
   ·cases hc0
  subst hsp
  have ad : ∀ j, (⟨blk, off, none⟩ : Addr).add j = ⟨blk, off + j, none⟩ := fun j => by simp [Addr.add]
  have each : ∀ i, i < len → ∃ y x, elems[i]? = some y ∧ rep e (zqP W) (piece cs.toList (off + i * tsz e) (tsz e)) x ∧ dsz e x ≤ Rows.uptoBulk y.1 ∧ off + (i + 1) * tsz e ≤ cs.toList.length := fun i hi => by
   have hg := hget i hi
   obtain ⟨y, hy⟩ : ∃ y, elems[i]? = some y := ⟨_, List.getElem?_eq_getElem (by omega)⟩
   rw [hy] at hg
   obtain ⟨us, hus, hg⟩ := Option.bind_eq_some_iff.1 hg
   obtain ⟨_, hul, huc⟩ := World.cells?_some hus
   obtain ⟨x, hx, hdx⟩ := hq m us y.1 y.2 hg
   rw [hc, ad] at huc
   rw [hc] at hul
   have hcell : ∀ j, j < tsz e → cs.toList[off + i * tsz e + j]? = us[j]? := fun j hj => by
    have := huc j hj
    rw [show (⟨blk, off + i * tsz e, none⟩ : Addr).add j = ⟨blk, off + i * tsz e + j, none⟩ by simp [Addr.add]] at this
    simp only [World.cell?, hb, Option.isSome_none, if_neg (show ¬ (false = true) by decide)] at this
    simpa using this
   have hlen : off + (i + 1) * tsz e ≤ cs.toList.length := by
    have h1 := hcell (tsz e - 1) (by omega)
    rw [List.getElem?_eq_getElem (by omega : tsz e - 1 < us.length)] at h1
    have := (List.getElem?_eq_some_iff.1 h1).1
    rw [Nat.add_mul]; omega
   refine ⟨y, x, hy, ?_, hdx, hlen⟩
   have : piece cs.toList (off + i * tsz e) (tsz e) = us := by
    apply List.ext_getElem?
    intro j
    rw [zaI, List.getElem?_take]
    by_cases hj : j < tsz e
    ·rw [if_pos hj, List.getElem?_drop]; exact hcell j hj
    ·rw [if_neg hj, List.getElem?_eq_none (by omega)]
   rw [this]; exact hx
  have key : ∀ k, k ≤ len → ∃ xs : List (den e), xs.length = k ∧ @RL (den e) (rpD e) (zqP W) (piece cs.toList off (k * tsz e)) xs ∧ (List.map (dsz e) xs).sum ≤ Rows.uptoBulkAll ((elems.take k).map (·.1)) := by
   intro k
   induction k with
   | zero => intro _; exact ⟨[], rfl, by simp [piece, RL], Nat.zero_le _⟩
   | succ k ih =>
    intro hk
    obtain ⟨xs, h1, h2, h3⟩ := ih (by omega)
    obtain ⟨y, x, g1, g2, g3, _⟩ := each k (by omega)
    refine ⟨xs ++ [x], by simp [h1], ?_, ?_⟩
    ·have e2 : piece cs.toList off ((k + 1) * tsz e) = piece cs.toList off (k * tsz e) ++ piece cs.toList (off + k * tsz e) (tsz e) := by
      rw [zaI, zaI, zaI, Nat.add_mul, Nat.one_mul, List.take_add, List.drop_drop]
     rw [e2]
     exact ysF h2 g2
    ·rw [List.take_add_one, g1]
     simp only [Option.toList_some, List.map_append, List.map_cons, List.map_nil, List.sum_append, List.sum_cons, List.sum_nil, ykN, Rows.uptoBulkAll]
     omega
  obtain ⟨xs, h1, h2, h3⟩ := key len (Nat.le_refl _)
  have hfit : off + len * tsz e ≤ cs.toList.length := by
   rcases Nat.eq_zero_or_pos len with h0 | h0
   ·subst h0; rw [Array.length_toList]; omega
   ·obtain ⟨_, _, _, _, _, h4⟩ := each (len - 1) (by omega)
    rwa [Nat.sub_add_cancel h0] at h4
  refine ⟨xs, ⟨_, rfl, piece cs.toList off (len * tsz e), ?_, h2⟩, ?_⟩
  ·right
   refine ⟨blk, off, cap, cs.toList, R, fz, ?_, by rw [h1]; exact hlc, by simpa [zqP] using hb, ?_, ?_⟩
   ·rw [h1]
   ·rw [h1]; show _ + _ * (rpD e).sz ≤ _; rw [zmC]; exact hfit
   ·rw [h1]; show piece _ _ (_ * (rpD e).sz) = _; rw [zmC]
  ·rw [List.take_of_length_le (by omega)] at h3
   show (List.map (dsz e) xs).sum + 1 ≤ _
   simp only [Rows.uptoBulk]
   omega
theorem yeC : ∀ (n : Nat) (T : TypeId) (t : Ty), tyOk P n T t = true → ∀ (fuel : Nat) (cs : LV) (d : DataW H) (ps : List MemPlace), DataW.trod enc P W 0 (fun _ => true) true fuel T cs = some (d, ps) → ∃ x : den t, rep t (zqP W) cs x ∧ dsz t x ≤ Rows.uptoBulk d
 | 0, _, _, h, _, _, _, _, _ => by cases h
 | n + 1, T, t, h, fuel, cs, d, ps, hd => by
  unfold tyOk at h
  split at h
  ·rename_i k k' hu
   obtain ⟨hk, _⟩ := Option.isSome_iff_exists.1 h
   obtain rfl := hk.down
   obtain ⟨m, rfl, he, hw⟩ := DataW.trod_int hu hd
   cases he
   exact ⟨ofI _ m, (by show [Value.int _ m] = [.int _ (toI _ (ofI _ m))]; rw [xcZ hw]), Nat.le_refl 1⟩
  ·rename_i hu
   obtain ⟨b, rfl, he⟩ := DataW.trod_bool hu hd
   cases he
   exact ⟨b, rfl, Nat.le_refl 1⟩
  ·rename_i hu
   obtain ⟨s, rfl, he, _⟩ := DataW.trod_string hu hd
   cases he
   exact ⟨s.data.toList, (by show [Value.string s] = [str s.data.toList]; simp [str]), Nat.le_refl _⟩
  ·rename_i E e hu
   rw [Bool.and_eq_true, Bool.and_eq_true] at h
   obtain ⟨h1, h2, h3⟩ := h
   exact sl_of hu (Nat.eq_of_beq_eq_true h2) (by rw [znI] at h3; simpa using h3) (fun m cs d ps hd => yeC n E e h1 m cs d ps hd) hd
  ·rename_i fs hu
   rw [Bool.and_eq_true, Bool.and_eq_true] at h
   obtain ⟨⟨h1, _⟩, h2⟩ := h
   have h1 := Nat.eq_of_beq_eq_true h1
   obtain ⟨xs, fuel, rfl, he, hl, hxl, hm⟩ := DataW.trod_struct hu hd
   cases he
   obtain ⟨x, hx, hb⟩ := yfZ (S := zqP W) (fuel := fuel) (fun T' t' hq cs d ps => yeC n T' t' hq fuel cs d ps) fs.toList 0 _ xs h2 (by rw [hl, h1]; omega) (yyB (by simp [hxl]) fun i f y hf hy => (hm i f (by simpa using hf)).trans hy)
   exact ⟨x, by simpa using hx, by simp only [Rows.uptoBulk]; omega⟩
  ·cases h
variable {b0 : Nat} {T E : TypeId} {v : Value}
theorem ywJ {n : Nat} {e : Ty} (hu : P.underlying T = some (.slice E)) (he : tyOk P n E e = true) (hc : P.cellsOf E = tsz e) (hz : 0 < tsz e) (h : Value.okWide P W .any b0 T v) {d : DataW H} {ps : List MemPlace} (hd : DataW.Trod enc P W 0 (fun _ => true) true T v d ps) :
  ∃ xs : List (den e), @RdS (den e) (rpD e) (zqP W) v xs ∧ dsz (.sl e) xs ≤ Rows.uptoBulk d := by
 obtain ⟨fuel, hf⟩ := hd
 have hv := ok_slice hu h
 have hcells : v.cells.toList = [v] := by
  rcases hv with rfl | ⟨a, len, cap, rfl⟩ <;> rfl
 rw [hcells] at hf
 rcases DataW.trod_slice hu hf with ⟨h1, h2⟩ | ⟨a, len, cap, elems, rest, m, rfl, h1, h2, _, hlc, _, hel, hget, _, _⟩
 ·simp only [List.cons.injEq, and_true] at h1
  subst h1
  cases h2
  exact ⟨[], ⟨[], .inl ⟨⟨none, rfl⟩, rfl, rfl⟩, rfl⟩, Nat.le_refl _⟩
 ·simp only [List.cons.injEq, and_true] at h1
  subst h1
  cases h2
  obtain ⟨hsp, cs, R, fz, hb, ho⟩ := yvB hu h
  obtain ⟨blk, off, spot⟩ := a
  dsimp only at hsp hb ho
  subst hsp
  have ad : ∀ j, (⟨blk, off, none⟩ : Addr).add j = ⟨blk, off + j, none⟩ := fun j => by simp [Addr.add]
  have each : ∀ i, i < len → ∃ y x, elems[i]? = some y ∧ rep e (zqP W) (piece cs.toList (off + i * tsz e) (tsz e)) x ∧ dsz e x ≤ Rows.uptoBulk y.1 ∧ off + (i + 1) * tsz e ≤ cs.toList.length := fun i hi => by
   have hg := hget i hi
   obtain ⟨y, hy⟩ : ∃ y, elems[i]? = some y := ⟨_, List.getElem?_eq_getElem (by omega)⟩
   rw [hy] at hg
   obtain ⟨us, hus, hg⟩ := Option.bind_eq_some_iff.1 hg
   obtain ⟨_, hul, huc⟩ := World.cells?_some hus
   obtain ⟨x, hx, hdx⟩ := yeC n E e he m us y.1 y.2 hg
   rw [hc, ad] at huc
   rw [hc] at hul
   have hcell : ∀ j, j < tsz e → cs.toList[off + i * tsz e + j]? = us[j]? := fun j hj => by
    have := huc j hj
    rw [show (⟨blk, off + i * tsz e, none⟩ : Addr).add j = ⟨blk, off + i * tsz e + j, none⟩ by simp [Addr.add]] at this
    simp only [World.cell?, hb, Option.isSome_none, if_neg (show ¬ (false = true) by decide)] at this
    simpa using this
   have hlen : off + (i + 1) * tsz e ≤ cs.toList.length := by
    have h1 := hcell (tsz e - 1) (by omega)
    rw [List.getElem?_eq_getElem (by omega : tsz e - 1 < us.length)] at h1
    have := (List.getElem?_eq_some_iff.1 h1).1
    rw [Nat.add_mul]; omega
   refine ⟨y, x, hy, ?_, hdx, hlen⟩
   have : piece cs.toList (off + i * tsz e) (tsz e) = us := by
    apply List.ext_getElem?
    intro j
    rw [zaI, List.getElem?_take]
    by_cases hj : j < tsz e
    ·rw [if_pos hj, List.getElem?_drop]; exact hcell j hj
    ·rw [if_neg hj, List.getElem?_eq_none (by omega)]
   rw [this]; exact hx
  have key : ∀ k, k ≤ len → ∃ xs : List (den e), xs.length = k ∧ @RL (den e) (rpD e) (zqP W) (piece cs.toList off (k * tsz e)) xs ∧ (List.map (dsz e) xs).sum ≤ Rows.uptoBulkAll ((elems.take k).map (·.1)) := by
   intro k
   induction k with
   | zero => intro _; exact ⟨[], rfl, by simp [piece, RL], Nat.zero_le _⟩
   | succ k ih =>
    intro hk
    obtain ⟨xs, h1, h2, h3⟩ := ih (by omega)
    obtain ⟨y, x, g1, g2, g3, _⟩ := each k (by omega)
    refine ⟨xs ++ [x], by simp [h1], ?_, ?_⟩
    ·have e2 : piece cs.toList off ((k + 1) * tsz e) = piece cs.toList off (k * tsz e) ++ piece cs.toList (off + k * tsz e) (tsz e) := by
      rw [zaI, zaI, zaI, Nat.add_mul, Nat.one_mul, List.take_add, List.drop_drop]
     rw [e2]
     exact ysF h2 g2
    ·rw [List.take_add_one, g1]
     simp only [Option.toList_some, List.map_append, List.map_cons, List.map_nil, List.sum_append, List.sum_cons, List.sum_nil, ykN, Rows.uptoBulkAll]
     omega
  obtain ⟨xs, h1, h2, h3⟩ := key len (Nat.le_refl _)
  have hfit : off + len * tsz e ≤ cs.toList.length := by
   rcases Nat.eq_zero_or_pos len with h0 | h0
   ·subst h0; rw [Array.length_toList]; omega
   ·obtain ⟨_, _, _, _, _, h4⟩ := each (len - 1) (by omega)
    rwa [Nat.sub_add_cancel h0] at h4
  refine ⟨xs, ⟨piece cs.toList off (len * tsz e), ?_, h2⟩, ?_⟩
  ·right
   refine ⟨blk, off, cap, cs.toList, R, fz, ?_, by rw [h1]; exact hlc, by simpa [zqP] using hb, ?_, ?_⟩
   ·rw [h1]
   ·rw [h1]; show _ + _ * (rpD e).sz ≤ _; rw [zmC]; exact hfit
   ·rw [h1]; show piece _ _ (_ * (rpD e).sz) = _; rw [zmC]
  ·rw [List.take_of_length_le (by omega)] at h3
   show (List.map (dsz e) xs).sum + 1 ≤ _
   simp only [Rows.uptoBulk]
   omega
def argOk (P : Program) (T : TypeId) (t : Ty) : Bool := match P.underlying T, t with
 | some (.slice E), .sl e => tyOk P 8 E e && (Nat.beq (P.cellsOf E) (tsz e) && Nat.blt 0 (tsz e))
 | _, t => tyOk P 8 T t
theorem argD_ok {t : Ty} (ha : argOk P T t = true) (h : Value.okWide P W .any b0 T v) {d : DataW H} {ps : List MemPlace} (hd : DataW.Trod enc P W 0 (fun _ => true) true T v d ps) :
  ∃ x : den t, rep1 t (zqP W) v x ∧ dsz t x ≤ Rows.uptoBulk d := by
 unfold argOk at ha
 split at ha
 ·rename_i E e hu
  rw [Bool.and_eq_true, Bool.and_eq_true] at ha
  obtain ⟨h1, h2, h3⟩ := ha
  obtain ⟨xs, g1, g2⟩ := ywJ hu h1 (Nat.eq_of_beq_eq_true h2) (by rw [znI] at h3; simpa using h3) h hd
  exact ⟨xs, ⟨v, rfl, g1⟩, g2⟩
 ·obtain ⟨fuel, hf⟩ := hd
  obtain ⟨x, hx, hb⟩ := yeC 8 T _ ha fuel _ _ _ hf
  refine ⟨x, ?_, hb⟩
  unfold rep1
  unfold tyOk at ha
  split at ha
  ·rename_i hu
   have hv : v.cells.toList = [v] := by
    simp only [Value.okWide, hu, Cell.okWide, Cell.ok] at h
    cases v <;> simp_all <;> rfl
   rw [hv] at hx
   rw [if_pos (show one (.i _) = true from rfl)]; exact hx
  ·rename_i hu
   have hv : v.cells.toList = [v] := by
    simp only [Value.okWide, hu, Cell.okWide, Cell.ok] at h
    cases v <;> simp_all <;> rfl
   rw [hv] at hx
   rw [if_pos (show one .b = true from rfl)]; exact hx
  ·rename_i hu
   have hv : v.cells.toList = [v] := by
    simp only [Value.okWide, hu, Cell.okWide, Cell.ok] at h
    cases v <;> simp_all <;> rfl
   rw [hv] at hx
   rw [if_pos (show one .s = true from rfl)]; exact hx
  ·rename_i hu hno
   exact (hno _ _ hu rfl).elim
  ·rename_i fs hu _
   rw [Bool.and_eq_true, Bool.and_eq_true] at ha
   simp only [Value.okWide, hu] at h
   obtain ⟨cs, rfl, _, _⟩ := h
   rw [if_neg (by simpa using ha.1.2)]
   exact ⟨cs.toList, by simp, hx⟩
  ·cases ha
def posT : Ty → Bool
 | .un => false
 | .pr a c => posT a || posT c
 | _ => true
theorem yiG : ∀ {e : Ty}, posT e = true → ∀ x : den e, 1 ≤ dsz e x
 | .i _, _, _ => Nat.le_refl 1
 | .b, _, _ => Nat.le_refl 1
 | .s, _, _ => Nat.le_add_left 1 _
 | .er, _, _ => Nat.le_refl 1
 | .sl _, _, _ => Nat.le_add_left 1 _
 | .mp _ _, _, _ => Nat.le_refl 1
 | .pr a c, h, x => by
  show 1 ≤ dsz a x.1 + dsz c x.2
  have h : (posT a || posT c) = true := h
  rw [Bool.or_eq_true] at h
  rcases h with h | h
  ·have := yiG h x.1; omega
  ·have := yiG h x.2; omega
theorem yfB {e : Ty} (he : posT e = true) : ∀ xs : List (den e), xs.length + 1 ≤ dsz (.sl e) xs
 | [] => Nat.le_refl 1
 | x :: xs => by
  have h1 := yiG he x
  have h2 : xs.length + 1 ≤ (List.map (dsz e) xs).sum + 1 := yfB he xs
  show (x :: xs).length + 1 ≤ (List.map (dsz e) (x :: xs)).sum + 1
  simp only [List.length_cons, List.map_cons, List.sum_cons]
  omega
theorem rep1_vr {t : Ty} {S : Mem} {E : List EI} {v : Value} {x : den t} (h : rep1 t S v x) : VR S E (svOf t x) v := yqL (l := [t]) h
end
end Go.Proofs.YtebbcofojchkpaaGreatDoor.Am
namespace Go.Proofs.YtebbcofojchkpaaGreatDoor.Am
open Go Go.RowKit
theorem nd_id {nx : Int} {es : Es} (h : Ok nx es) {k : Nat} (hk : k < es.length) : es[k].2.1 = es[k].1 := (h.ids _ (List.getElem_mem hk)).1
theorem ylV {e : Ty} {x : den e} : ∀ {xs : List (den e)}, x ∈ xs → dsz e x ≤ dsz (.sl e) xs
 | y :: ys, h => by
  show _ ≤ (List.map (dsz e) (y :: ys)).sum + 1
  simp only [List.map_cons, List.sum_cons]
  rcases List.mem_cons.1 h with rfl | h
  ·omega
  ·have : dsz e x ≤ (List.map (dsz e) ys).sum + 1 := ylV h
   omega
theorem xbQ {n : Nd} (h : dsz zjB n ≤ 1048576) : NdOk n := by
 obtain ⟨a0, a1, a2, a3, a4, a5, a6, a7, a8, a9, a10, a11, a12, a13, a14⟩ := n
 have h : dsz (.i .i64) a0 + (dsz (.i .i64) a1 + (dsz (.i .i64) a2 + (dsz .s a3 + (dsz .s a4 + (dsz .s a5 + (dsz (.sl .s) a6 + (dsz (.i .i64) a7 + (dsz (.i .i64) a8 + (dsz .b a9 + (dsz .b a10 + (dsz (.sl .s) a11 + (dsz (.i .i64) a12 + (dsz .s a13 + dsz .s a14))))))))))))) ≤ 1048576 := h
 have e3 : dsz .s a3 = a3.length + 1 := rfl
 have e4 : dsz .s a4 = a4.length + 1 := rfl
 have e5 : dsz .s a5 = a5.length + 1 := rfl
 have h6 : a6.length + 1 ≤ dsz (.sl .s) a6 := yfB (e := .s) rfl a6
 have h11 : a11.length + 1 ≤ dsz (.sl .s) a11 := yfB (e := .s) rfl a11
 refine ⟨?_, ?_, ?_, ?_, fun s hs => ?_, ?_, fun s hs => ?_⟩
 ·show a3.length ≤ _; omega
 ·show a4.length ≤ _; omega
 ·show a5.length ≤ _; omega
 ·show a6.length ≤ _; omega
 ·have h1 := ylV (e := .s) hs
  have e : dsz .s s = s.length + 1 := rfl
  have h1 : s.length + 1 ≤ dsz (.sl .s) a6 := h1
  omega
 ·show a11.length ≤ _; omega
 ·have h1 : s.length + 1 ≤ dsz (.sl .s) a11 := ylV (e := .s) hs
  omega
theorem op_of {o : OpT} (h : dsz zzC o ≤ 1048576) : NdOk o.2.2.2.2.2 := by
 obtain ⟨a, b, c, d, e, n⟩ := o
 have h : dsz (.i .i64) a + (dsz (.i .i64) b + (dsz (.i .i64) c + (dsz (.i .i64) d + (dsz .s e + dsz zjB n)))) ≤ 1048576 := h
 have h2 : dsz zjB n ≤ 1048576 := by omega
 exact xbQ h2
theorem yxP {l : List OpT} (h : dsz (.sl zzC) l ≤ 1048576) : l.length ≤ 1048576 ∧ ∀ o ∈ l, NdOk o.2.2.2.2.2 := by
 have h1 : l.length + 1 ≤ dsz (.sl zzC) l := yfB (e := zzC) rfl l
 refine ⟨by omega, fun o ho => op_of ?_⟩
 have h2 : dsz zzC o ≤ dsz (.sl zzC) l := ylV (e := zzC) ho
 omega
theorem at0 (i ny : Int) : zaT zaB i ny = some (-1, ny) := by
 unfold zaT
 rw [show iter _ ((0 : Int), ny) = some ny from zeS rfl, zaA]
theorem get0 (i ny : Int) : zaF zaB i ny = some ((0 : Int), (0 : Int), (0 : Int), ([] : L8), ([] : L8), ([] : L8), (0 : Int), (0 : Int), false, false, (0 : Int), ([] : L8), ([] : L8), false, ny) := by
 unfold zaF
 rw [at0, zaA]
 rfl
theorem xdX (s : L8) (ny : Int) : zbS zaB s ny = some ((0 : Int), (0 : Int), (0 : Int), ([] : L8), ([] : L8), ([] : L8), (0 : Int), (0 : Int), false, false, (0 : Int), ([] : L8), ([] : L8), false, ny) := by
 unfold zbS
 rw [show iter _ ((0 : Int), ny, _) = some (ny, (0 : Int), (0 : Int), (0 : Int), ([] : L8), ([] : L8), ([] : L8), (0 : Int), (0 : Int), false, false, (0 : Int), ([] : L8), ([] : L8)) from zeS rfl, zaA]
theorem path0 (i ny : Int) : zbT zaB i ny = some (ny, []) := by
 unfold zbT
 rw [at0, zaA, show iter _ ((-1 : Int), ny, ([] : List Int)) = some (ny, []) from zeS rfl, zaA]
theorem live0 (i now ny : Int) : zbP zaB i now ny = some (false, ny) := by
 unfold zbP
 rw [get0, zaA]
 rfl
theorem yxS (now ny : Int) : zbI zaB now ny = some (0, ny, []) := by
 unfold zbI
 rw [show iter _ ((0 : Int), ny, ([] : List Nd)) = some (ny, []) from zeS rfl, zaA]
 simp only [List.length_nil]
 rw [zlK (by omega) (by omega)]
 rfl
theorem kill0 (i ny : Int) : zbU zaB i ny = some (131, [], ny) := by
 unfold zbU
 rw [get0, zaA]
 rfl
theorem xdC (i now ny : Int) : zcS zaB i now ny = some (131, [], ny) := by
 unfold zcS
 rw [get0, zaA]
 rfl
theorem xcC (s : L8) (ny : Int) : zcI zaB s ny = some (0, ny) := by
 unfold zcI
 exact bind_ok (a := ((0 : Int), ny)) (zeS rfl)
theorem lift0 (i l ny : Int) : zdL zaB i l ny = some (131, [], ny) := by
 unfold zdL
 rw [get0, zaA]
 rfl
theorem note0 (i : Int) (d : L8) (ny : Int) : zdM zaB i d ny = some (131, [], ny) := by
 unfold zdM
 rw [get0, zaA]
 rfl
theorem yuJ {n : Nd} (hn : NdOk n) (now : Int) : T (zcW zaB n now 1) fun _ => True := by
 have hn4 : n.2.2.2.2.2.2.1.length ≤ 1048576 := hn.2.2.2.1
 have hn6 : n.2.2.2.2.2.2.2.2.2.2.2.1.length ≤ 1048576 := hn.2.2.2.2.2.1
 unfold zcW
 refine (yxQ hn).bind fun b hb => T.bif (fun _ => T.ok trivial) fun hb2 => ?_
 rw [xdX, zaA]
 simp only [cond_false]
 have hj : T (zeL zaB n ((0 : Int), (0 : Int), (0 : Int), ([] : L8), ([] : L8), ([] : L8), (0 : Int), (0 : Int), false, false, (0 : Int), ([] : L8), ([] : L8), false, 1)) fun r => match r with
   | .inl _ => True
   | .inr v => v = (1, n) := by
  unfold zeL
  simp only []
  refine T.dif (fun _ => ?_) fun _ => T.ok rfl
  rw [at0, zaA]
  exact T.dif (fun _ => T.ok trivial) fun h => absurd (show (-1 : Int) < 0 by decide) h
 refine hj.bind fun r hr => ?_
 cases r with
 | inl v => exact T.ok trivial
 | inr v =>
  subst hr
  simp only []
  rw [yxS, zaA]
  unfold zhO
  simp only [List.length_nil]
  rw [zkB (by omega), zkB (by omega), zaA]
  simp only []
  rw [ziJ _ (by omega), zaA]
  unfold zhS
  simp only []
  rw [ziJ _ (by omega), zaA, zaA]
  simp only []
  rw [ziJ _ (by simp), zaA, zrX (by simp), zaA]
  exact T.ok trivial
theorem xaY {s : Int × Int × List Nd × Int × Es × Int × Int × Int × L8 × L8 × L8 × Int × Int × Bool × Bool × Int × L8 × L8 × List L8 × List L8} (h0 : s.1 = 0) (h1 : (s.2.2.2.2.2.2.2.2.2.2.2.2.2.2.2.2.2.2.1).length ≤ 1048576) (h2 : (s.2.2.2.2.2.2.2.2.2.2.2.2.2.2.2.2.2.2.2).length ≤ 1048576) : T (iter (fun x => zjJ zaB x.1 x.2.1 x.2.2.1 x.2.2.2.1 x.2.2.2.2.1 x.2.2.2.2.2.1 x.2.2.2.2.2.2.1 x.2.2.2.2.2.2.2.1 x.2.2.2.2.2.2.2.2.1 x.2.2.2.2.2.2.2.2.2.1 x.2.2.2.2.2.2.2.2.2.2.1 x.2.2.2.2.2.2.2.2.2.2.2.1 x.2.2.2.2.2.2.2.2.2.2.2.2.1 x.2.2.2.2.2.2.2.2.2.2.2.2.2.1 x.2.2.2.2.2.2.2.2.2.2.2.2.2.2.1 x.2.2.2.2.2.2.2.2.2.2.2.2.2.2.2.1 x.2.2.2.2.2.2.2.2.2.2.2.2.2.2.2.2.1 x.2.2.2.2.2.2.2.2.2.2.2.2.2.2.2.2.2.1 x.2.2.2.2.2.2.2.2.2.2.2.2.2.2.2.2.2.2.1 x.2.2.2.2.2.2.2.2.2.2.2.2.2.2.2.2.2.2.2) s) fun r => r.1 = s.2.1 ∧ r.2.1 = s.2.2.1 ∧ r.2.2.1 = s.2.2.2.1 ∧ r.2.2.2.1 = s.2.2.2.2.1 ∧ (r.2.2.2.2.2.2.2.2.2.2.2.2.2.2.2.2.2.2).length ≤ 1048576 := by
 refine T.iter (fun x => x.2.1 = s.2.1 ∧ x.2.2.1 = s.2.2.1 ∧ x.2.2.2.1 = s.2.2.2.1 ∧ x.2.2.2.2.1 = s.2.2.2.2.1 ∧ 0 ≤ x.1 ∧ x.1 ≤ ((x.2.2.2.2.2.2.2.2.2.2.2.2.2.2.2.2.2.2.1).length : Int) ∧ (x.2.2.2.2.2.2.2.2.2.2.2.2.2.2.2.2.2.2.1).length ≤ 1048576 ∧ (x.2.2.2.2.2.2.2.2.2.2.2.2.2.2.2.2.2.2.2).length ≤ 1048576) (fun x => (x.2.2.2.2.2.2.2.2.2.2.2.2.2.2.2.2.2.2.1).length - x.1.toNat) _ (fun x hx => ?_) ⟨rfl, rfl, rfl, rfl, by omega, by omega, h1, h2⟩ (by omega)
 obtain ⟨e1, e2, e3, e4, h5, h6, h7, h8⟩ := hx
 obtain ⟨k, hk⟩ : ∃ k : Nat, x.1 = k := ⟨x.1.toNat, by omega⟩
 unfold zjJ
 rw [hk]
 rw [hk] at h5 h6
 refine T.dif (fun h9 => ?_) fun _ => T.ok ⟨e1, e2, e3, e4, h8⟩
 rw [decide_eq_true (show (0 : Int) ≤ (k : Int) by omega), decide_eq_true h9, Bool.and_self, zrH rfl, zaA]
 refine (ygA (by omega) h9).bind fun r hr => ?_
 obtain ⟨j, rfl⟩ := hr
 refine T.ok ⟨⟨e1, e2, e3, e4, ?_, ?_, ?_, h8⟩, ?_⟩
 ·rw [zcQ (by omega)]; exact Int.natCast_nonneg _
 ·rw [zcQ (by omega), List.length_set]; exact Int.ofNat_le.2 (by omega)
 ·rw [List.length_set]; exact h7
 ·rw [zcQ (by omega), List.length_set, Int.toNat_natCast]; omega
theorem xcE {s : Int × Int × List Nd × Int × Es × Int × Int × Int × L8 × L8 × L8 × Int × Int × Bool × Bool × Int × L8 × L8 × List L8 × List L8} (h0 : s.1 = 0) (h2 : (s.2.2.2.2.2.2.2.2.2.2.2.2.2.2.2.2.2.2.2).length ≤ 1048576) : T (iter (fun x => zjL zaB x.1 x.2.1 x.2.2.1 x.2.2.2.1 x.2.2.2.2.1 x.2.2.2.2.2.1 x.2.2.2.2.2.2.1 x.2.2.2.2.2.2.2.1 x.2.2.2.2.2.2.2.2.1 x.2.2.2.2.2.2.2.2.2.1 x.2.2.2.2.2.2.2.2.2.2.1 x.2.2.2.2.2.2.2.2.2.2.2.1 x.2.2.2.2.2.2.2.2.2.2.2.2.1 x.2.2.2.2.2.2.2.2.2.2.2.2.2.1 x.2.2.2.2.2.2.2.2.2.2.2.2.2.2.1 x.2.2.2.2.2.2.2.2.2.2.2.2.2.2.2.1 x.2.2.2.2.2.2.2.2.2.2.2.2.2.2.2.2.1 x.2.2.2.2.2.2.2.2.2.2.2.2.2.2.2.2.2.1 x.2.2.2.2.2.2.2.2.2.2.2.2.2.2.2.2.2.2.1 x.2.2.2.2.2.2.2.2.2.2.2.2.2.2.2.2.2.2.2) s) fun r => r = (s.2.1, s.2.2.1, s.2.2.2.1, s.2.2.2.2.1) := by
 refine T.iter (fun x => x.2.1 = s.2.1 ∧ x.2.2.1 = s.2.2.1 ∧ x.2.2.2.1 = s.2.2.2.1 ∧ x.2.2.2.2.1 = s.2.2.2.2.1 ∧ 0 ≤ x.1 ∧ x.1 ≤ ((x.2.2.2.2.2.2.2.2.2.2.2.2.2.2.2.2.2.2.2).length : Int) ∧ (x.2.2.2.2.2.2.2.2.2.2.2.2.2.2.2.2.2.2.2).length ≤ 1048576) (fun x => (x.2.2.2.2.2.2.2.2.2.2.2.2.2.2.2.2.2.2.2).length - x.1.toNat) _ (fun x hx => ?_) ⟨rfl, rfl, rfl, rfl, by omega, by omega, h2⟩ (by omega)
 obtain ⟨e1, e2, e3, e4, h5, h6, h8⟩ := hx
 obtain ⟨k, hk⟩ : ∃ k : Nat, x.1 = k := ⟨x.1.toNat, by omega⟩
 unfold zjL
 rw [hk]
 rw [hk] at h5 h6
 refine T.dif (fun h9 => ?_) fun _ => T.ok (by rw [e1, e2, e3, e4])
 rw [decide_eq_true (show (0 : Int) ≤ (k : Int) by omega), decide_eq_true h9, Bool.and_self, zrH rfl, zaA]
 refine (ygA (by omega) h9).bind fun r hr => ?_
 obtain ⟨j, rfl⟩ := hr
 refine T.ok ⟨⟨e1, e2, e3, e4, ?_, ?_, ?_⟩, ?_⟩
 ·rw [zcQ (by omega)]; exact Int.natCast_nonneg _
 ·rw [zcQ (by omega), List.length_set]; exact Int.ofNat_le.2 (by omega)
 ·rw [List.length_set]; exact h8
 ·rw [zcQ (by omega), List.length_set, Int.toNat_natCast]; omega
theorem yrL {nx : Int} {es : Es} (h : Ok nx es) (o : OpT) (ho : NdOk o.2.2.2.2.2) : T (zeO zaB o nx 1 es) fun r => (r.2.1, r.2.2.2.2) = zyI o nx es := by
 unfold zeO zyI
 have h4 : o.2.2.2.2.2.2.2.2.2.2.2.1.length ≤ 1048576 := ho.2.2.2.1
 have h6 : o.2.2.2.2.2.2.2.2.2.2.2.2.2.2.2.2.1.length ≤ 1048576 := ho.2.2.2.2.2.1
 cases o.2.1 == (0 : Int) with
 | true =>
  simp only [cond_true]
  rw [ziJ _ (by omega), zaA, ziJ _ (by omega), zaA]
  rw [show zbO zaB _ _ _ _ _ _ _ _ _ _ _ _ _ _ _ _ _ _ = _ from ygZ h o.2.2.2.2.2 o.2.2.1 ⟨h4, h6⟩, zaA]
  refine (yuJ ho o.2.2.1).bind fun r hr => ?_
  refine T.bind (xaY (by exact rfl) (by exact h4) (by exact h6)) fun v hv => ?_
  obtain ⟨e1, e2, e3, e4, h7⟩ := hv
  refine T.bind (xcE (by exact rfl) (by exact h7)) fun v2 hv2 => ?_
  simp only at e1 e2 e3 e4
  rw [e1, e2, e3, e4] at hv2
  subst hv2
  exact T.bif (fun _ => T.ok rfl) fun _ => T.ok rfl
 | false =>
  cases o.2.1 == (1 : Int) with
  | true =>
   simp only [cond_true, cond_false]
   rw [ysJ h, zaA, get0, zaA]
   simp only []
   rw [zrS h, zaA, xdX, zaA]
   have hql : Lst ((zvQ es o.2.2.2.2.1).getD zN) := by
    cases hf : zvQ es o.2.2.2.2.1 with
    | none => exact ypK
    | some n => exact yfT h hf
   simp only []
   refine T.bif (fun _ => T.bif (fun _ => (ykU (yhR h _)).bind fun _ _ => T.bif (fun _ => (ykU hql).bind fun _ _ => T.bif (fun _ => ?_) fun _ => T.ok rfl) fun _ => T.ok rfl) fun _ => T.ok rfl) fun _ => T.ok rfl
   rw [yfP h, zaA, live0, zaA]
   refine T.bif (fun _ => ?_) fun _ => T.ok rfl
   rw [yeN h, zaA, path0, zaA]
   exact (yhC (zxD h _)).bind fun _ _ => T.ok rfl
  | false =>
   cases o.2.1 == (2 : Int) with
   | true =>
    simp only [cond_true, cond_false]
    rw [ylA h, zaA, xdC, zaA]
    exact T.ok rfl
   | false =>
    cases o.2.1 == (3 : Int) with
    | true =>
     simp only [cond_true, cond_false]
     rw [yqJ h, zaA, kill0, zaA]
     refine T.ok ?_
     cases mhas keqI es o.2.2.1 <;> rfl
    | false =>
     cases o.2.1 == (4 : Int) with
     | true =>
      simp only [cond_true, cond_false]
      rw [yhX h, zaA, xcC, zaA]
      exact T.ok rfl
     | false =>
      cases o.2.1 == (5 : Int) with
      | true =>
       simp only [cond_true, cond_false]
       rw [ytM h, zaA, lift0, zaA]
       exact T.ok rfl
      | false =>
       cases o.2.1 == (6 : Int) with
       | true =>
        simp only [cond_true, cond_false]
        rw [yqV h, zaA, note0, zaA]
        exact T.ok rfl
       | false =>
        cases o.2.1 == (7 : Int) with
        | true =>
         simp only [cond_true, cond_false]
         rw [zvS h, zaA, yxS, zaA]
         exact T.ok rfl
        | false => exact T.ok rfl
theorem ypN (u : Nat) (hu : u < 1000000000000000) : zpW zaB (Lib.decDigits u) = some (.inr ()) := by
 have hl := zkV 15 u (by decide) hu
 have ht : zaB.trim (Lib.decDigits u) tenL = some [] := yhT u hu
 unfold zpW
 by_cases h0 : u = 0
 ·subst h0
  rw [show Lib.decDigits 0 = [48] by rw [ztW]; rfl] at ht ⊢
  rw [show zaB.trim ([48] : Bs) ([48, 49, 50, 51, 52, 53, 54, 55, 56, 57] : Bs) = some [] from ht]
  rfl
 ·obtain ⟨b, l, h1, h2⟩ := yhD u h0
  rw [h1] at hl ht ⊢
  rw [show ((b :: l : Bs) == []) = false from rfl]
  simp only [cond_false]
  rw [zkB (by simp only [List.length_cons] at hl ⊢; omega), show idx (b :: l) 0 = some b from rfl, zaA]
  have : ((b.toNat : Int) == ((48 : UInt8).toNat : Int)) = false := beq_eq_false_iff_ne.2 fun e => h2 (UInt8.toNat_inj.1 (by exact_mod_cast e))
  rw [this]
  simp only [cond_false]
  rw [show zaB.trim (b :: l) ([48, 49, 50, 51, 52, 53, 54, 55, 56, 57] : Bs) = some [] from ht, zaA]
  rfl
theorem ypA (u : Nat) (hu : u < 1000000000000000) : zmV zaB (Lib.decDigits u) = some ((u : Int), true) := by
 unfold zmV
 rw [ypN u hu, zaA]
 simp only []
 rw [show zaB.atoi (Lib.decDigits u) = some ((u : Int), false) from yhJ u hu, zaA]
 rfl
theorem ynM (u : Nat) (hu : u < 1000000000000000) : zpT zaB (Lib.decDigits u) = some (.inr ()) := by
 have hl := zkV 15 u (by decide) hu
 have ht : zaB.trim (Lib.decDigits u) tenL = some [] := yhT u hu
 unfold zpT
 by_cases h0 : u = 0
 ·subst h0
  rw [show Lib.decDigits 0 = [48] by rw [ztW]; rfl] at ht ⊢
  rw [show zaB.trim ([48] : Bs) ([48, 49, 50, 51, 52, 53, 54, 55, 56, 57] : Bs) = some [] from ht]
  rfl
 ·obtain ⟨b, l, h1, h2⟩ := yhD u h0
  rw [h1] at hl ht ⊢
  rw [show ((b :: l : Bs) == []) = false from rfl]
  simp only [cond_false]
  rw [zkB (by simp only [List.length_cons] at hl ⊢; omega), show idx (b :: l) 0 = some b from rfl, zaA]
  have : ((b.toNat : Int) == ((48 : UInt8).toNat : Int)) = false := beq_eq_false_iff_ne.2 fun e => h2 (UInt8.toNat_inj.1 (by exact_mod_cast e))
  rw [this]
  simp only [cond_false]
  rw [show zaB.trim (b :: l) ([48, 49, 50, 51, 52, 53, 54, 55, 56, 57] : Bs) = some [] from ht, zaA]
  rfl
theorem ydT (u : Nat) (hu : u < 1000000000000000) : zkU zaB (Lib.decDigits u) = some ((u : Int), true) := by
 unfold zkU
 rw [ynM u hu, zaA]
 simp only []
 rw [show zaB.atoi (Lib.decDigits u) = some ((u : Int), false) from yhJ u hu, zaA]
 rfl
theorem yjU (ts : List Bs) (hl : (zeZ ts).length < 4294967281) (hn : ts.length < 4294967281) : zjC zaB (zeZ ts) = some (ts, true) := by
 have key : ∀ (k : Nat), k ≤ ts.length → (zeZ (ts.drop k)).length < 4294967281 := by
  intro k hk
  induction k with
  | zero => exact hl
  | succ k ih =>
   have := ih (by omega)
   rw [List.drop_eq_getElem_cons (by omega)] at this
   simp only [zeZ, List.length_append, List.length_cons] at this
   omega
 have h : iter (fun x => zpY zaB x.1 x.2) (zeZ (ts.drop 0), ts.take 0) = (some (.inr ts) : Option (Bool ⊕ List Bs)) := by
  refine zrZ (fun k => (zeZ (ts.drop k), ts.take k)) ts.length (by omega) (Sum.inr ts) (fun k hk => ?_) ?_
  ·have hd : ts.drop k = ts[k] :: ts.drop (k + 1) := List.drop_eq_getElem_cons hk
   have hlen := key k (by omega)
   have ht : ts.take (k + 1) = ts.take k ++ [ts[k]] := by rw [List.take_succ_eq_append_getElem hk]
   rw [hd] at hlen
   generalize ts[k] = t at hd hlen ht
   generalize ts.drop (k + 1) = r at hd hlen
   have hlen2 : (Lib.decDigits t.length ++ 58 :: (t ++ zeZ r)).length < 4294967281 := hlen
   have htl : t.length < 4294967281 := by
    simp only [List.length_append, List.length_cons] at hlen2; omega
   have hne : (zeZ (ts.drop k) != ([] : Bs)) = true := by
    rw [hd]
    cases he : zeZ (t :: r) with
    | nil => exact absurd (List.append_eq_nil_iff.1 he).1 (yqY _)
    | cons a l => rfl
   unfold zpY
   simp only []
   rw [hne]
   simp only [cond_true]
   rw [hd, show zaB.cut (zeZ (t :: r)) ([58] : Bs) = some (Lib.decDigits t.length, t ++ zeZ r, true) from yuH t.length (t ++ zeZ r) hlen2, zaA]
   simp only []
   rw [ypA t.length (by omega), zaA]
   have hj : zqB zaB (ts.take k) (Lib.decDigits t.length, t ++ zeZ r, true) ((t.length : Int), true) = some (.inr (ts.take k)) := by
    unfold zqB
    simp only [Bool.not_true, cond_false]
    rw [zkB (by rw [List.length_append]; omega)]
   rw [hj, zaA]
   simp only []
   rw [ybR (by rw [List.length_append]; omega), zaA, List.take_left, Am.zrX (by rw [List.length_take]; simp; omega), zaA, ht]
   rw [show subL (t ++ zeZ r) (t.length : Int) = some (zeZ r) from ?_, zaA]
   unfold subL
   rw [List.length_append, show (decide ((0 : Int) ≤ (t.length : Int)) && decide ((t.length : Int) ≤ ((t.length + (zeZ r).length : Nat) : Int))) = true by simp; omega]
   simp
  ·rw [List.drop_length, List.take_length]
   rfl
 unfold zjC
 rw [List.drop_zero, List.take_zero] at h
 rw [h, zaA]
theorem ybT : ∀ (a b : List Bs), zeZ (a ++ b) = zeZ a ++ zeZ b
 | [], _ => rfl
 | t :: a, b => by
  show Lib.decDigits t.length ++ 58 :: (t ++ zeZ (a ++ b)) = (Lib.decDigits t.length ++ 58 :: (t ++ zeZ a)) ++ zeZ b
  rw [ybT a b]; simp
theorem yqC (ts : List Bs) (hl : (zeZ ts).length < 4294967281) (hn : ts.length < 1099511627776) : zkY ts = some (zeZ ts) := by
 have key : ∀ (k : Nat), (zeZ (ts.take k)).length ≤ (zeZ ts).length := fun k => by
  have := ybT (ts.take k) (ts.drop k)
  rw [List.take_append_drop] at this
  rw [this, List.length_append]; omega
 have h : iter (zjD ts) ((((0 : Nat) : Int)), zeZ (ts.take 0)) = some (zeZ ts) := by
  refine zrZ (fun k => ((k : Int), zeZ (ts.take k))) ts.length hn (zeZ ts) (fun k hk => ?_) ?_
  ·have ht : ts.take (k + 1) = ts.take k ++ [ts[k]] := by rw [List.take_succ_eq_append_getElem hk]
   have e : zeZ (ts.take (k + 1)) = zeZ (ts.take k) ++ (Lib.decDigits ts[k].length ++ 58 :: ts[k]) := by
    rw [ht, ybT]; simp [zeZ]
   have h1 := key (k + 1)
   rw [e] at h1
   simp only [List.length_append, List.length_cons] at h1
   unfold zjD
   simp only []
   rw [zmD (by omega), zlL rfl hk, zaA, ybB _ (by omega), zaA, Am.zrX (by simp only [List.length_cons, List.length_nil]; omega), zaA, Am.zrX (by simp only [List.length_append, List.length_cons, List.length_nil]; omega), zaA]
   unfold zgN
   rw [show zlT (zeZ (ts.take k)) = some _ from rfl, zaA, Am.zrX (by simp only [List.length_append, List.length_cons, List.length_nil]; omega), zaA, zaA, zlK (by omega) (by omega), e]
   simp
  ·unfold zjD
   simp only []
   rw [zkB (by omega), List.take_length]
 unfold zkY
 have h : iter (zjD ts) ((0 : Int), ([] : Bs)) = some (zeZ ts) := h
 rw [h, zaA, zaA, zrH (decide_eq_true (by omega)), zaA]
theorem ywW {s : L8} {n : Int} {cs : L8} (h : ziC zaB s n cs = some true) : (s.length : Int) ≤ n := by
 unfold ziC at h
 by_cases hl : (s.length : Int) ≤ n
 ·exact hl
 ·rw [zkB hl] at h
  cases hb : s != ([] : L8) <;> rw [hb] at h <;> cases h
theorem ymG {s : L8} (h : nmB s = true) : s.length ≤ 24 := by
 have h1 := yzJ s
 rw [h] at h1
 unfold zfJ at h1
 cases ho : ziC zaB s 24 [97, 98, 99, 100, 101, 102, 103, 104, 105, 106, 107, 108, 109, 110, 111, 112, 113, 114, 115, 116, 117, 118, 119, 120, 121, 122, 48, 49, 50, 51, 52, 53, 54, 55, 56, 57, 46, 95, 45] with
 | none => rw [ho] at h1; cases h1
 | some b =>
  rw [ho] at h1
  cases h1
  have := ywW ho
  omega
theorem ytD {s : L8} (h : scB s = true) : s.length ≤ 32 := by
 have h1 := yvH s
 rw [h] at h1
 unfold zgP at h1
 cases ho : ziC zaB s 32 [97, 98, 99, 100, 101, 102, 103, 104, 105, 106, 107, 108, 109, 110, 111, 112, 113, 114, 115, 116, 117, 118, 119, 120, 121, 122, 48, 49, 50, 51, 52, 53, 54, 55, 56, 57, 46, 95, 45, 58] with
 | none => rw [ho] at h1; cases h1
 | some b =>
  rw [ho] at h1
  cases h1
  have := ywW ho
  omega
theorem yvS {s : L8} (h : txB s = true) : s.length ≤ 128 := by
 have h1 := tx_ok s
 rw [h] at h1
 unfold zgJ at h1
 by_cases hl : (s.length : Int) ≤ 128
 ·omega
 ·rw [zkB hl] at h1
  cases hb : s != ([] : L8) <;> rw [hb] at h1 <;> cases h1
theorem ykP {s : L8} (h : prB s = true) : s.length ≤ 26 := by
 have h1 := yzI s
 rw [h] at h1
 unfold zcL at h1
 by_cases hl : (s.length : Int) > 2
 ·rw [zmD hl, show subH s 2 = some (s.take 2) from ybR (n := 2) (by omega), zaA, show subL s 2 = some (s.drop 2) from zwU (n := 2) (by omega)] at h1
  have hd : (s.drop 2).length = s.length - 2 := List.length_drop ..
  simp only [zaA] at h1
  rw [yzJ] at h1
  simp only [zaA] at h1
  cases hn : nmB (s.drop 2) with
  | true =>
   have := ymG hn
   omega
  | false =>
   rw [hn] at h1
   cases h2 : s.take 2 == ([117, 58] : L8) <;> cases h3 : s.take 2 == ([99, 58] : L8) <;> rw [h2] at h1 <;> simp only [cond_true, cond_false] at h1 <;> (try rw [h3] at h1) <;> cases h1
 ·rw [zkB hl] at h1
  cases h1
theorem xaD {l : List L8} (hl : l.length ≤ 1048576) : axB l = l.any fun s => !prB s := by
 have h : T (iter (ziG zaB l) (0 : Int)) fun r => match r with
   | .inl i => 0 ≤ i ∧ (l.any fun s => !prB s) = true
   | .inr _ => (l.any fun s => !prB s) = false := by
  refine T.iter (fun x => 0 ≤ x ∧ x ≤ (l.length : Int) ∧ ((l.take x.toNat).any fun s => !prB s) = false) (fun x => l.length - x.toNat) _ (fun x hx => ?_) ⟨Int.le_refl _, by omega, rfl⟩ (by omega)
  obtain ⟨h2, h3, h4⟩ := hx
  obtain ⟨k, rfl⟩ : ∃ k : Nat, x = k := ⟨x.toNat, by omega⟩
  rw [Int.toNat_natCast] at h4
  unfold ziG
  refine T.dif (fun h5 => ?_) fun h5 => T.ok ?_
  ·have hk : k < l.length := by omega
   rw [zlL rfl hk, zaA]
   unfold zlI
   rw [yzI, zaA, zaA]
   refine T.bif (fun h6 => T.ok ⟨by omega, yyM hk h6⟩) fun h6 => T.ok ⟨⟨?_, ?_, ?_⟩, ?_⟩
   ·rw [zcQ (by omega)]; omega
   ·rw [zcQ (by omega)]; omega
   ·rw [zcQ (by omega), Int.toNat_natCast]
    exact ylG (p := fun s => !prB s) hk h4 h6
   ·rw [zcQ (by omega)]; omega
  ·rw [List.take_of_length_le (by omega)] at h4
   exact h4
 obtain ⟨r, h1, h2⟩ := h
 have h3 := xfI hl
 unfold zaP zjV at h3
 rw [h1, zaA] at h3
 cases r with
 | inl i =>
  simp only [zaA] at h3
  rw [decide_eq_true (show i ≥ 0 from h2.1)] at h3
  rw [← osi h3, h2.2]
 | inr u =>
  simp only [zaA] at h3
  rw [← osi h3, show (l.any fun s => !prB s) = false from h2]
  rfl
theorem yoP {l : List L8} : ∀ (f i : Nat), f + i = l.length → scpF l f i = true → ∀ k, i ≤ k → (hk : k < l.length) → scB l[k] = true
 | 0, i, hf, _, k, hi, hk => by omega
 | f + 1, i, hf, h, k, hi, hk => by
  have hil : i < l.length := by omega
  unfold scpF at h
  rw [List.getElem?_eq_getElem hil] at h
  simp only [Bool.and_eq_true] at h
  by_cases e : k = i
  ·subst e; exact h.1.1
  ·exact yoP f (i + 1) (by omega) h.2 k (by omega) hk
theorem yrN (l : List (List L8)) (h : l.flatten.length ≤ 1000000) (hn : l.length ≤ 1000000) : znJ zaB l = some l.flatten := by
 have hp : ∀ k, (l.take k).flatten.length ≤ l.flatten.length := fun k => by
  have e : l.flatten = (l.take k).flatten ++ (l.drop k).flatten := by rw [← List.flatten_append, List.take_append_drop]
  rw [e, List.length_append]
  omega
 have hs : ∀ (k : Nat) (hk : k < l.length), (l.take (k + 1)).flatten = (l.take k).flatten ++ l[k] := fun k hk => by
  rw [List.take_succ_eq_append_getElem hk, List.flatten_append, List.flatten_singleton]
 have hI : iter (fun x => zlO zaB l x.1 x.2) ((0 : Int), (0 : Int)) = some (l.flatten.length : Int) := by
  refine zrZ (fun k => (((l.take k).flatten.length : Int), (k : Int))) l.length (by omega) _ (fun k hk => ?_) ?_
  ·have h1 := hp (k + 1)
   rw [hs k hk, List.length_append] at h1
   unfold zlO
   simp only []
   rw [zmD (by omega), zlL rfl hk, zaA, zlK (by omega) (by omega), zkB (by omega), zcQ (by omega), hs k hk, List.length_append]
   simp only [Int.natCast_add]
  ·unfold zlO
   simp only []
   rw [zkB (by omega), List.take_of_length_le (Nat.le_refl _)]
 have hI2 : iter (fun x => zlN zaB l x.1 x.2) ((0 : Int), ([] : List L8)) = some l.flatten := by
  refine zrZ (fun k => ((k : Int), (l.take k).flatten)) l.length (by omega) _ (fun k hk => ?_) ?_
  ·have h1 := hp (k + 1)
   rw [hs k hk, List.length_append] at h1
   unfold zlN
   simp only []
   rw [zmD (by omega), zlL rfl hk, zaA, zrX (by omega), zaA, zcQ (by omega), hs k hk]
  ·unfold zlN
   simp only []
   rw [zkB (by omega), List.take_of_length_le (Nat.le_refl _)]
 unfold znJ
 rw [show iter _ ((0 : Int), (0 : Int)) = _ from hI, zaA]
 unfold ymP
 rw [decide_eq_true (show (0 : Int) ≤ (l.flatten.length : Int) by omega), decide_eq_true (show (l.flatten.length : Int) ≤ 1048576 by omega)]
 simp only [Bool.and_self, cond_true, zaA]
 exact bind_ok hI2
theorem ykM (m : Nat) (hm : m < 1000000) : ∀ (ts : List L8), (∀ t ∈ ts, t.length ≤ m) → (zeZ ts).length ≤ ts.length * (m + 16)
 | [], _ => Nat.zero_le _
 | t :: ts, h => by
  have h1 := ykM m hm ts fun t ht => h t (List.mem_cons_of_mem _ ht)
  have h2 := h t List.mem_cons_self
  have h3 := zkV 15 t.length (by decide) (by omega)
  simp only [zeZ, List.length_append, List.length_cons, Nat.add_mul]
  omega
abbrev decI (x : Int) : L8 := Lib.decDigits x.toNat
def yiM (b : Bool) : L8 := bif b then [49] else [48]
def zrJ (n : Nd) : List L8 := ([([decI n.2.1, decI n.2.2.1, n.2.2.2.1, n.2.2.2.2.1, n.2.2.2.2.2.1] : List L8), Lib.decDigits (zdR n).length :: zdR n, ([decI n.2.2.2.2.2.2.2.1, decI (nexp n), yiM (yiS n), yiM (yaZ n)] : List L8), Lib.decDigits (nact n).length :: nact n, ([decI (nlev n), nsec n, yuZ n] : List L8)] : List (List L8)).flatten
def padE (i : Int) : L8 := Lib.repeatL [48] (8 - (decI i).length) ++ decI i
def rowE (p : Int × Nd) : L8 × L8 := ([110, 111, 100, 101, 47] ++ padE p.1, zeZ (zrJ p.2))
def yaW (nx : Int) (es : Es) : List (L8 × L8) := ([102, 111, 114, 101, 115, 116], zeZ [decI nx]) :: es.map rowE
theorem yaI {x : Int} (h0 : 0 ≤ x) (h : x < 9223372036854775808) : zaB.itoa x = some (decI x) := by
 obtain ⟨k, rfl⟩ : ∃ k : Nat, x = k := ⟨x.toNat, by omega⟩
 exact ybB k (by omega)
theorem yfG {n : Nd} (h : mayB n = true) : (1 ≤ n.2.1 ∧ n.2.1 ≤ 5) ∧ (0 ≤ n.2.2.2.2.2.2.2.1 ∧ n.2.2.2.2.2.2.2.1 ≤ 1099511627776) ∧ (0 ≤ nexp n ∧ nexp n ≤ 1099511627776) ∧ (0 ≤ nlev n ∧ nlev n ≤ 3) := by
 unfold mayB inB at h
 simp only [Bool.and_eq_true, decide_eq_true_eq] at h
 exact ⟨by omega, by omega, ⟨h.1.1.1.1.1.2.1, h.1.1.1.1.1.2.2⟩, ⟨show 0 ≤ n.2.2.2.2.2.2.2.2.2.2.2.2.1 by omega, show n.2.2.2.2.2.2.2.2.2.2.2.2.1 ≤ 3 by omega⟩⟩
theorem yqW {n : Nd} (h : mayB n = true) : n.2.2.2.1.length ≤ 26 ∧ n.2.2.2.2.1.length ≤ 24 ∧ n.2.2.2.2.2.1.length ≤ 128 ∧ (∀ s ∈ zdR n, s.length ≤ 32) ∧ ∀ s ∈ nact n, s.length ≤ 26 := by
 have hl := zwT h
 unfold mayB at h
 simp only [Bool.and_eq_true] at h
 obtain ⟨⟨⟨⟨⟨⟨⟨⟨⟨⟨⟨⟨⟨h1, h2⟩, h3⟩, h4⟩, h5⟩, h6⟩, h7⟩, h8⟩, h9⟩, h10⟩, h11⟩, h12⟩, h13⟩, h14⟩ := h
 refine ⟨ykP h4, ?_, ?_, fun s hs => ?_, fun s hs => ?_⟩
 ·rcases Bool.or_eq_true _ _ ▸ h5 with h5 | h5
  ·rw [beq_iff_eq.1 h5]; exact Nat.zero_le _
  ·exact ymG h5
 ·rcases Bool.or_eq_true _ _ ▸ h6 with h6 | h6
  ·rw [beq_iff_eq.1 h6]; exact Nat.zero_le _
  ·exact yvS h6
 ·obtain ⟨k, hk, rfl⟩ := List.getElem_of_mem hs
  exact ytD (yoP _ 0 (by omega) h1 k (Nat.zero_le _) hk)
 ·rw [xaD (by omega)] at h11
  have h11 : ((nact n).any fun s => !prB s) = false := by simpa using h11
  rw [List.any_eq_false] at h11
  have := h11 s hs
  exact ykP (by simpa using this)
theorem ygB {l : List L8} (h : l.length ≤ 1048576) : zkE zaB l = some (Lib.decDigits l.length :: l) := by
 unfold zkE
 rw [show zaB.itoa (l.length : Int) = some (Lib.decDigits l.length) from ybB _ (by omega), zaA, zrX (by simp; omega), zaA]
 rfl
theorem ytA (b : Bool) : zqO zaB b = some (yiM b) := by cases b <;> rfl
theorem dec8 {i : Int} (h0 : 0 ≤ i) (h : i < 100000000) : (decI i).length ≤ 8 := zkV 8 i.toNat (by decide) (by omega)
theorem zwS {n : Nd} (h : mayB n = true) : (zrJ n).length ≤ 34 := by
 have hl := zwT h
 unfold zrJ
 simp only [List.flatten_cons, List.flatten_nil, List.length_append, List.length_cons, List.length_nil]
 omega
theorem ztT (x : Int) (h : x < 1000000000000000) : (decI x).length ≤ 15 := by
 by_cases h0 : 0 ≤ x
 ·exact zkV 15 x.toNat (by decide) (by omega)
 ·rw [decI, show x.toNat = 0 by omega]; exact zkV 15 0 (by decide) (by decide)
theorem ymO {n : Nd} (h : mayB n = true) (hp : npar n < 100000000) : ∀ t ∈ zrJ n, t.length ≤ 256 := by
 have hl := zwT h
 have hn := yfG h
 have ht := yqW h
 intro t hm
 unfold zrJ at hm
 simp only [List.flatten_cons, List.flatten_nil, List.append_nil, List.mem_append, List.mem_cons, List.not_mem_nil, or_false] at hm
 have d1 := ztT n.2.1 (by omega)
 have d2 := ztT n.2.2.1 (by have : n.2.2.1 < 100000000 := hp; omega)
 have d3 := ztT n.2.2.2.2.2.2.2.1 (by omega)
 have d4 := ztT (nexp n) (by omega)
 have d5 := ztT (nlev n) (by omega)
 have d6 := zkV 15 (zdR n).length (by decide) (by omega)
 have d7 := zkV 15 (nact n).length (by decide) (by omega)
 have d8 : ∀ b, (yiM b).length = 1 := fun b => by cases b <;> rfl
 rcases hm with (rfl | rfl | rfl | rfl | rfl) | (rfl | hm) | (rfl | rfl | rfl | rfl) | (rfl | hm) | (rfl | rfl | rfl)
 ·omega
 ·omega
 ·omega
 ·omega
 ·omega
 ·omega
 ·have := ht.2.2.2.1 t hm; omega
 ·omega
 ·omega
 ·rw [d8]; omega
 ·rw [d8]; omega
 ·omega
 ·have := ht.2.2.2.2 t hm; omega
 ·omega
 ·omega
 ·omega
theorem ydF {n : Nd} (h : mayB n = true) (hp : npar n < 100000000) : (zeZ (zrJ n)).length ≤ 10000 := by
 have h1 := ykM 256 (by decide) (zrJ n) (ymO h hp)
 have h2 := zwS h
 have h3 : (zrJ n).length * (256 + 16) ≤ 34 * 272 := Nat.mul_le_mul h2 (Nat.le_refl _)
 omega
theorem rows_ok {nx : Int} {es : Es} (h : Ok nx es) : zaS zaB nx es = some (yaW nx es, nx, es) := by
 have hnx := h.next
 have hlen := h.len
 have hd := ztT nx (by omega)
 unfold zaS
 rw [yaI (by omega) (by omega), zaA, show zaB.form [decI nx] = some (zeZ [decI nx]) from yqC [decI nx] (by
  have := zkV 15 (decI nx).length (by decide) (by omega)
  simp only [zeZ, List.append_nil, List.length_append, List.length_cons]
  omega) (by simp), zaA, ylR h, zaA]
 have hI : iter (fun x => zgD zaB (nx, es, es.map (·.2)) x.1 x.2.1 x.2.2.1 x.2.2.2.1 x.2.2.2.2) ((0 : Int), nx, es, ([([102, 111, 114, 101, 115, 116], zeZ [decI nx])] : List (L8 × L8)), es.map (·.2)) = some (nx, es, yaW nx es) := by
  refine zrZ (fun k => ((k : Int), nx, es, ([102, 111, 114, 101, 115, 116], zeZ [decI nx]) :: (es.take k).map rowE, es.map (·.2))) es.length (by omega) _ (fun k hk => ?_) ?_
  ·have hm := h.may _ (List.getElem_mem hk)
   have hid := h.ids _ (List.getElem_mem hk)
   have hpar := h.par _ (List.getElem_mem hk)
   have hl := zwT hm
   have hn := yfG hm
   have hp0 : 0 ≤ es[k].2.2.2.1 := hpar.1
   have hp1 : es[k].2.2.2.1 < es[k].1 := hpar.2
   have ht := ydF hm (by omega)
   have htc := zwS hm
   have he : 0 ≤ es[k].2.2.2.2.2.2.2.2.2.1 ∧ es[k].2.2.2.2.2.2.2.2.2.1 ≤ 1099511627776 := hn.2.2.1
   have hv : 0 ≤ es[k].2.2.2.2.2.2.2.2.2.2.2.2.2.1 ∧ es[k].2.2.2.2.2.2.2.2.2.2.2.2.2.1 ≤ 3 := hn.2.2.2
   have h8 := dec8 (i := es[k].1) (by omega) (by omega)
   unfold zgD
   simp only [List.length_map]
   rw [zmD (show (k : Int) < (es.length : Int) by omega), decide_eq_true (show (0 : Int) ≤ (k : Int) by omega), decide_eq_true (show (k : Int) < (es.length : Int) by omega), Bool.and_self, zrH rfl, zaA, zlL (i := k) rfl (by rw [List.length_map]; exact hk), zaA, List.getElem_map, nd_id h hk]
   rw [yaI (by omega) (by omega), zaA, yaI (by omega) (by omega), zaA, yaI hp0 (by omega), zaA, ygB (Nat.le_trans hl.1 (by decide)), zaA, yaI (by omega) (by omega), zaA, yaI he.1 (by omega), zaA, ytA, zaA, ytA, zaA, ygB (Nat.le_trans hl.2.1 (by decide)), zaA, yaI hv.1 (by omega), zaA]
   rw [yrN _ (by show (zrJ es[k].2).length ≤ 1000000; omega) (by simp), zaA]
   have hw : w64 ((8 : Int) - ((decI es[k].1).length : Int)) = ((8 - (decI es[k].1).length : Nat) : Int) := by rw [zlK (by omega) (by omega)]; omega
   have hrl : (Lib.repeatL [48] (8 - (decI es[k].1).length)).length = 8 - (decI es[k].1).length := by rw [Lib.repeatL_length]; simp
   rw [hw, zmD (by omega)]
   rw [show zaB.rep [48] ((8 - (decI es[k].1).length : Nat) : Int) = some (Lib.repeatL [48] (8 - (decI es[k].1).length)) from by
    show zyJ [48] _ = _
    unfold zyJ
    rw [decide_eq_true (show (0 : Int) ≤ ((8 - (decI es[k].1).length : Nat) : Int) by omega), decide_eq_true (show ((8 - (decI es[k].1).length : Nat) : Int) ≤ 1048576 by omega)]
    simp only [List.length_cons, List.length_nil, Int.toNat_natCast]
    rfl, zaA]
   rw [zrX (by simp only [List.length_cons, List.length_nil]; omega), zaA, zrX (by simp only [List.length_append, List.length_cons, List.length_nil]; omega), zaA]
   refine (bind_ok (a := zeZ (zrJ es[k].2)) (by exact yqC (zrJ es[k].2) (by omega) (by omega))).trans ?_
   rw [zrX (by simp; omega), zaA, zcQ (by omega), List.take_succ_eq_append_getElem hk, List.map_append, List.cons_append]
   simp only [List.map_cons, List.map_nil, rowE, padE, List.append_assoc]
  ·unfold zgD
   simp only [List.length_map]
   rw [zkB (by omega), List.take_of_length_le (Nat.le_refl _)]
   rfl
 rw [show iter _ _ = _ from hI, zaA]
theorem zwX (t : L8) (ts : List L8) : zaR zaB (t :: ts) false = some (t, ts, false) := by
 unfold zaR
 have e : ((((t :: ts).length : Nat) : Int) == (0 : Int)) = false := beq_eq_false_iff_ne.2 (by simp only [List.length_cons]; omega)
 rw [e]
 simp only [cond_false]
 rw [show idx (t :: ts) 0 = some t from rfl, zaA, show subL (t :: ts) 1 = some ts from zwU (n := 1) (by simp), zaA]
theorem ydN {x : Int} (h0 : 0 ≤ x) (h : x < 1000000000000000) (ts : List L8) : zaM zaB (decI x :: ts) false = some (x, ts, false) := by
 unfold zaM
 rw [zwX, zaA]
 simp only []
 rw [ydT x.toNat (by omega), zaA]
 simp only [cond_false, Bool.not_true]
 rw [show ((x.toNat : Nat) : Int) = x by omega]
theorem yrS (b : Bool) (ts : List L8) : zfF zaB (yiM b :: ts) false = some (b, ts, false) := by
 unfold zfF
 rw [zwX, zaA]
 cases b <;> rfl
theorem yrQ (l ts : List L8) (hl : l.length ≤ 1048576) : zfC zaB (Lib.decDigits l.length :: (l ++ ts)) false = some (l, ts, false) := by
 unfold zfC
 rw [show zaM zaB (Lib.decDigits l.length :: (l ++ ts)) false = some ((l.length : Int), l ++ ts, false) from ydN (x := (l.length : Int)) (by omega) (by omega) _, zaA]
 have hj : zkT zaB ((l.length : Int), l ++ ts, false) = some (.inr (l ++ ts, false)) := by
  unfold zkT
  simp only [cond_false]
  rw [zkB (by rw [List.length_append]; omega)]
 rw [hj, zaA]
 simp only [decide_true]
 rw [zrH rfl, zaA, ybR (by rw [List.length_append]; omega), zaA, List.take_left, zwU (by rw [List.length_append]; omega), zaA, List.drop_left]
theorem ybH (l : L8) (u : Nat) (h : Lib.parseUint10 0 l = .ok u) : ∀ k, Lib.parseUint10 0 (Lib.repeatL [48] k ++ l) = .ok u
 | 0 => h
 | k + 1 => by
  show Lib.parseUint10 0 (48 :: (Lib.repeatL [48] k ++ l)) = .ok u
  have e : (48 : UInt8).toNat = 48 := rfl
  simp only [Lib.parseUint10]
  rw [if_pos (by rw [e]; omega), if_neg (by omega), if_neg (by rw [e]; omega), e]
  exact ybH l u h k
theorem yrA {i : Int} : ∀ b ∈ padE i, 48 ≤ b.toNat ∧ b.toNat ≤ 57 := fun b hb => by
 have hz : ∀ k, ∀ b ∈ Lib.repeatL [48] k, b = 48 := by
  intro k
  induction k with
  | zero => intro b hb; cases hb
  | succ k ih =>
   intro b hb
   rcases List.mem_cons.1 hb with rfl | hb
   ·rfl
   ·exact ih b hb
 unfold padE at hb
 rcases List.mem_append.1 hb with hb | hb
 ·rw [hz _ b hb]; exact ⟨by decide, by decide⟩
 ·exact zzJ _ b hb
theorem yiH {i : Int} (h0 : 0 ≤ i) (h : i < 100000000) : (padE i).length = 8 := by
 have h1 := dec8 h0 h
 unfold padE
 rw [List.length_append, Lib.repeatL_length]
 simp only [List.length_cons, List.length_nil]
 omega
theorem yuC {i : Int} (h0 : 0 ≤ i) (h : i < 100000000) : zaB.atoi (padE i) = some (i, false) := by
 have hl := yiH h0 h
 have hd := yrA (i := i)
 have hp : Lib.parseUint10 0 (padE i) = .ok i.toNat := ybH _ _ (yhM i.toNat (by omega)) _
 show ygU (padE i) = _
 unfold ygU
 rw [decide_eq_true (show (padE i).length ≤ 9223372036854775806 by omega)]
 have ha : Lib.atoiAll (padE i) = .ok (i.toNat : Int) := by
  cases hc : padE i with
  | nil => rw [hc] at hl; cases hl
  | cons c r =>
   have hcd := hd c (by rw [hc]; exact List.mem_cons_self)
   rw [hc] at hp
   unfold Lib.atoiAll
   simp only
   rw [if_neg (by omega)]
   unfold Lib.parseMag
   rw [if_neg (by simp), hp]
   simp only
   rw [if_neg (by omega), if_neg (by omega), if_neg (by omega)]
 rw [ha]
 simp only [cond_true]
 rw [show ((i.toNat : Nat) : Int) = i by omega]
theorem yuX {i : Int} (h0 : 0 ≤ i) (h : i < 100000000) : zaB.trim (padE i) tenL = some [] := by
 have hl := yiH h0 h
 show ycS (padE i) tenL = _
 unfold ycS
 rw [decide_eq_true (show (padE i).length ≤ 9223372036854775807 by omega), decide_eq_true (show tenL.length < 4294967281 by decide), show tenL.all (fun b => decide (b.toNat < 128)) = true by decide]
 simp only [Bool.and_self, cond_true]
 rw [ykH (yrA (i := i))]
theorem xbJ (s : L8) : zcY zaB (([110, 111, 100, 101, 47] : L8) ++ s) ([110, 111, 100, 101, 47] : L8) = some (s, true) := by
 unfold zcY zbW zbX
 simp only [List.length_append, List.length_cons, List.length_nil]
 rw [zmD (by omega), show subH (([110, 111, 100, 101, 47] : L8) ++ s) (((0 + 1 + 1 + 1 + 1 + 1 : Nat)) : Int) = some [110, 111, 100, 101, 47] from ybR (n := 5) (by simp), zaA, zaA]
 rw [show subL (([110, 111, 100, 101, 47] : L8) ++ s) (((0 + 1 + 1 + 1 + 1 + 1 : Nat)) : Int) = some s from zwU (n := 5) (by simp)]
 rfl
theorem yvV (n : Nd) : zrJ n = decI n.2.1 :: decI n.2.2.1 :: n.2.2.2.1 :: n.2.2.2.2.1 :: n.2.2.2.2.2.1 :: Lib.decDigits (zdR n).length :: (zdR n ++ (decI n.2.2.2.2.2.2.2.1 :: decI (nexp n) :: yiM (yiS n) :: yiM (yaZ n) :: Lib.decDigits (nact n).length :: (nact n ++ [decI (nlev n), nsec n, yuZ n]))) := by
 unfold zrJ
 simp only [List.flatten_cons, List.flatten_nil, List.append_nil, List.cons_append, List.nil_append]
theorem xbD {nx : Int} {es : Es} (h : Ok nx es) {p : Int × Nd} (hp : p ∈ es) : zlA zaB (rowE p) = some (p.2, true) := by
 have hm := h.may p hp
 have hid := h.ids p hp
 have hpar := h.par p hp
 have hnx := h.next
 have hl := zwT hm
 have hn := yfG hm
 have ht := ydF hm (by omega)
 have htc := zwS hm
 unfold zlA rowE
 simp only []
 rw [xbJ, zaA, yjU (zrJ p.2) (by omega) (by omega), zaA]
 have hj : zsE zaB (padE p.1, true) (zrJ p.2, true) = some (.inr ((0 : Int), (0 : Int), (0 : Int), ([] : L8), ([] : L8), ([] : L8), (0 : Int), (0 : Int), false, false, (0 : Int), ([] : L8), ([] : L8))) := by
  have h8 := yiH (i := p.1) (by omega) (by omega)
  unfold zsE
  simp only [Bool.not_true, cond_false]
  rw [h8, show zaB.trim (padE p.1) ([48, 49, 50, 51, 52, 53, 54, 55, 56, 57] : L8) = some [] from yuX (by omega) (by omega)]
  rfl
 rw [hj, zaA]
 simp only []
 rw [yvV, ydN (by omega) (by omega), zaA]
 simp only []
 rw [ydN (x := p.2.2.2.1) hpar.1 (by have : p.2.2.2.1 < p.1 := hpar.2; omega), zaA]
 simp only []
 rw [zwX, zaA]
 simp only []
 rw [zwX, zaA]
 simp only []
 rw [zwX, zaA]
 simp only []
 rw [yrQ _ _ (by omega), zaA]
 simp only []
 rw [ydN (by omega) (by omega), zaA]
 simp only []
 rw [ydN hn.2.2.1.1 (by omega), zaA]
 simp only []
 rw [yrS, zaA]
 simp only []
 rw [yrS, zaA]
 simp only []
 rw [yrQ _ _ (by omega), zaA]
 simp only []
 rw [ydN hn.2.2.2.1 (by omega), zaA]
 simp only []
 rw [zwX, zaA]
 simp only []
 rw [zwX, zaA]
 simp only []
 rw [yuC (by omega) (by omega), zaA]
 simp only []
 rw [← hid.1, show zfN zaB _ = some p.2 from own_ok (h.lst hp), zaA]
 simp only [Bool.not_false, cond_true, List.length_nil]
 rw [show zfO zaB _ = some (mayB p.2) from ymE p.2 (h.lst hp).1, hm]
 rfl
theorem Ok.take {nx : Int} {es : Es} (h : Ok nx es) (k : Nat) : Ok nx (es.take k) where
 rises := h.rises.sublist (List.take_sublist k es)
 ids p hp := h.ids p (List.mem_of_mem_take hp)
 par p hp := h.par p (List.mem_of_mem_take hp)
 may p hp := h.may p (List.mem_of_mem_take hp)
 uniq p hp q hq := h.uniq p (List.mem_of_mem_take hp) q (List.mem_of_mem_take hq)
 next := h.next
 len := Nat.le_trans (List.length_take_le' _ _) h.len
theorem yuT {es : Es} (h : zpZ es) {k : Nat} (hk : k < es.length) : ∀ p ∈ es.take k, p.1 < es[k].1 := fun p hp => by
 obtain ⟨j, hj, rfl⟩ := List.getElem_of_mem hp
 rw [List.length_take] at hj
 rw [List.getElem_take]
 exact List.pairwise_iff_getElem.1 h j k (by omega) hk (by omega)
theorem yuS {nx : Int} {es : Es} (h : Ok nx es) : ziM zaB (yaW nx es) = some (.inr (0, nx, es)) := by
 have hnx := h.next
 have hlen := h.len
 have hd := ztT nx (by omega)
 have hf : (zeZ [decI nx]).length < 4294967281 := by
  have := zkV 15 (decI nx).length (by decide) (by omega)
  simp only [zeZ, List.append_nil, List.length_append, List.length_cons]
  omega
 unfold ziM
 have hj0 : zoS zaB (yaW nx es) = some (.inr ()) := by
  unfold zoS yaW
  simp only [List.length_cons, List.length_map]
  rw [show ((((es.length + 1 : Nat)) : Int) == (0 : Int)) = false from beq_eq_false_iff_ne.2 (by omega)]
  simp only [cond_false]
  rw [show idx (([102, 111, 114, 101, 115, 116], zeZ [decI nx]) :: es.map rowE) 0 = some (([102, 111, 114, 101, 115, 116] : L8), zeZ [decI nx]) from rfl, zaA]
  simp only [bne_self_eq_false, cond_false]
  rw [zkB (by omega)]
 rw [hj0, zaA]
 simp only []
 rw [show idx (yaW nx es) 0 = some (([102, 111, 114, 101, 115, 116] : L8), zeZ [decI nx]) from rfl, zaA]
 simp only []
 rw [yjU [decI nx] hf (by simp), zaA, show zsF zaB ([decI nx], true) = some (.inr ()) from rfl, zaA]
 simp only []
 rw [show zhZ zaB = some (1, []) from rfl, zaA]
 have hj2 : zoT zaB ([decI nx], true) (1, []) = some (.inr (nx, [])) := by
  unfold zoT
  rw [show idx [decI nx] 0 = some (decI nx) from rfl, zaA, ydT nx.toNat (by omega), zaA]
  simp only [Bool.not_true, cond_false]
  rw [show ((nx.toNat : Nat) : Int) = nx by omega, xaZ, zaA, decide_eq_true (show (1 : Int) ≤ nx by omega), decide_eq_true (show nx ≤ 99999999 by omega)]
  rfl
 rw [hj2, zaA]
 simp only []
 rw [show subL (yaW nx es) 1 = some (es.map rowE) from zwU (n := 1) (by simp [yaW]), zaA]
 have hT : T (iter (fun x => zfL zaB (es.map rowE) x.1 x.2.1 x.2.2.1 x.2.2.2) ((0 : Int), (0 : Int), nx, ([] : Es))) fun r => r = .inr (nx, es) := by
  refine T.iter (fun x => 0 ≤ x.2.1 ∧ x.2.1 ≤ (es.length : Int) ∧ x.2.2.1 = nx ∧ x.2.2.2 = es.take x.2.1.toNat ∧ (x.1 = 0 ∨ ∃ p ∈ x.2.2.2, p.1 = x.1)) (fun x => es.length - x.2.1.toNat) _ (fun x hx => ?_) ⟨Int.le_refl _, by simp, rfl, rfl, .inl rfl⟩ (by simp; omega)
  obtain ⟨last, i, nx', es'⟩ := x
  obtain ⟨h1, h2, e1, e2, h3⟩ := hx
  simp only at h1 h2 e1 e2 h3
  obtain ⟨k, rfl⟩ : ∃ k : Nat, i = k := ⟨i.toNat, by omega⟩
  rw [Int.toNat_natCast] at e2
  subst e1 e2
  unfold zfL
  simp only [List.length_map]
  refine T.dif (fun h5 => ?_) fun h5 => T.ok ?_
  ·have hk : k < es.length := by omega
   have hmem := List.getElem_mem hk
   have hid := h.ids _ hmem
   have hpar := h.par _ hmem
   have hlow := yuT h.rises hk
   have hO := h.take k
   rw [zlL (i := k) rfl (by rw [List.length_map]; exact hk), zaA, List.getElem_map, xbD h hmem, zaA]
   simp only []
   rw [zrS hO, zaA]
   have hf0 : zvQ (es.take k) (nsec es[k].2) = none := by
    unfold zvQ
    rw [Option.map_eq_none_iff, List.find?_eq_none]
    intro p hp hs
    have e := h.uniq p (List.mem_of_mem_take hp) es[k] hmem (beq_iff_eq.1 hs)
    have := hlow p hp
    rw [e] at this
    omega
   rw [hf0]
   have hlast : last < es[k].1 := by
    rcases h3 with rfl | ⟨p, hp, rfl⟩
    ·omega
    ·exact hlow p hp
   unfold zwO
   simp only [Bool.not_true, cond_false, Option.isSome_none]
   have hp2 : es[k].2.2.2.1 < es[k].1 := hpar.2
   rw [hid.1, zkB (by omega), zkB (by omega), zkB (by omega), zaA]
   simp only []
   rw [zxO hlow, zcQ (by omega)]
   refine T.ok ⟨⟨?_, ?_, rfl, ?_, .inr ⟨(es[k].1, _), List.mem_append_right _ (List.mem_singleton.2 rfl), rfl⟩⟩, ?_⟩
   ·simp only []; omega
   ·simp only []; omega
   ·simp only []
    rw [Int.toNat_natCast, List.take_succ_eq_append_getElem hk]
    congr 2
    refine Prod.ext rfl ?_
    show (es[k].1, es[k].2.2) = es[k].2
    rw [← hid.1]
   ·simp only []; omega
  ·rw [List.take_of_length_le (by omega)]
 obtain ⟨r, g1, rfl⟩ := hT
 rw [show iter _ _ = _ from g1, zaA]
end Go.Proofs.YtebbcofojchkpaaGreatDoor.Am
