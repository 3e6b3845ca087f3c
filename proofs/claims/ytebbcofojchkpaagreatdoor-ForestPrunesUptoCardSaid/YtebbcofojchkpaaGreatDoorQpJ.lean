/- Functions that answer whatever they are given: plain laws. Forests: find, paths, what is live: plain laws. Forests: what is live, and the list of nodes: plain laws. Forests: nodes that are changed: plain laws. Forests: what is pruned: plain laws. Forests: what is planted: plain laws. Calls on forests whose answers the document fixes: plain law, and that the code does so. Conditions: as each theorem says. -/
import Derived.Test.YtebbcofojchkpaaGreatDoorQpI
namespace Go.Proofs.YtebbcofojchkpaaGreatDoor.Am
open Go Go.RowKit
section
variable {α β γ σ : Type}
def T (o : Option α) (P : α → Prop) : Prop := ∃ r, o = some r ∧ P r
theorem T.ok {a : α} {P : α → Prop} (h : P a) : T (some a) P := ⟨a, rfl, h⟩
theorem T.bind {o : Option α} {f : α → Option β} {Q : α → Prop} {P : β → Prop} (h : T o Q) (g : ∀ a, Q a → T (f a) P) : T (o.bind f) P := by
 obtain ⟨a, rfl, h⟩ := h
 exact g a h
theorem T.bif {c : Bool} {a b : Option α} {P : α → Prop} (h : c = true → T a P) (g : c = false → T b P) : T (bif c then a else b) P := by
 cases c
 ·exact g rfl
 ·exact h rfl
theorem T.dif {p : Prop} [Decidable p] {a b : Option α} {P : α → Prop} (h : p → T a P) (g : ¬ p → T b P) : T (bif decide p then a else b) P :=
 T.bif (fun e => h (of_decide_eq_true e)) fun e => g (of_decide_eq_false e)
theorem T.mono {o : Option α} {P Q : α → Prop} (h : T o P) (g : ∀ a, P a → Q a) : T o Q := by
 obtain ⟨a, h1, h2⟩ := h
 exact ⟨a, h1, g a h2⟩
theorem T.get {o : Option Bool} {P : Bool → Prop} (h : T o P) : o = some (o.getD false) := by
 obtain ⟨a, rfl, _⟩ := h
 rfl
theorem T.at {o : Option α} {P : α → Prop} {a : α} (h : T o P) (e : o = some a) : P a := by
 obtain ⟨b, e2, h2⟩ := h
 rw [e] at e2
 cases e2
 exact h2
theorem T.idx {l : List α} {i : Int} {P : α → Prop} (h0 : 0 ≤ i) (h : i < (l.length : Int)) (g : ∀ (k : Nat) (hk : k < l.length), i = (k : Int) → P l[k]) : T (idx l i) P := by
 obtain ⟨k, rfl⟩ : ∃ k : Nat, i = k := ⟨i.toNat, by omega⟩
 exact ⟨_, zoE rfl (by omega), g k (by omega) rfl⟩
theorem T.ix {l : List α} {i : Int} (h0 : 0 ≤ i) (h : i < (l.length : Int)) : T (Go.Proofs.YtebbcofojchkpaaGreatDoor.idx l i) fun _ => True := T.idx h0 h fun _ _ _ => trivial
theorem T.iter {body : σ → Option (σ ⊕ β)} (I : σ → Prop) (m : σ → Nat) (G : β → Prop) (hr : ∀ s, I s → T (body s) fun r => match r with
  | .inl s' => I s' ∧ m s' < m s
  | .inr b => G b) {s : σ} (hs : I s) (hm : m s < 1099511627776) : T (iter body s) G :=
 ycI I m G (fun s hs => by
  obtain ⟨r, h1, h2⟩ := hr s hs
  cases r with
  | inl s' => exact .inl ⟨s', h1, h2⟩
  | inr b => exact .inr ⟨b, h1, h2⟩) FU s hs (by unfold FU; exact hm)
theorem zvN {a b : List α} (h : a.length + b.length ≤ 68719476736) : app a b = some (a ++ b) := by
 unfold app
 rw [zoH (by unfold LIM; omega)]
theorem zlL (xs : List α) (h : xs.length ≤ 68719476736) : app ([] : List α) xs = some xs := by
 rw [zvN (by simpa using h)]; rfl
theorem T.app {a b : List α} {P : List α → Prop} (h : a.length + b.length ≤ 68719476736) (g : P (a ++ b)) : T (app a b) P := ⟨_, zvN h, g⟩
theorem T.places {body : Int → Option (Int ⊕ β)} (n : Nat) (hn : n < 1099511627776) (G : β → Prop) (hr : ∀ k : Nat, k ≤ n → T (body (k : Int)) fun r => match r with
  | .inl s' => s' = ((k + 1 : Nat) : Int) ∧ k < n
  | .inr b => G b) : T (Go.Proofs.YtebbcofojchkpaaGreatDoor.iter body 0) G := by
 refine T.iter (fun i => 0 ≤ i ∧ i ≤ (n : Int)) (fun i => (n - i).toNat) G (fun i hi => ?_) ⟨by omega, by omega⟩ (by omega)
 obtain ⟨k, rfl⟩ : ∃ k : Nat, i = k := ⟨i.toNat, by omega⟩
 refine (hr k (by omega)).mono fun r h => ?_
 cases r with
 | inl s => obtain ⟨rfl, h⟩ := h; exact ⟨⟨by omega, by omega⟩, by omega⟩
 | inr b => exact h
end
theorem yvA (s : ByteArray) (pos : Nat) : 1 ≤ (Utf8.decode s pos).2 := by
 unfold Utf8.decode
 simp only []
 repeat' split
 all_goals simp
theorem yzE {l : Bs} {p : Nat} (h : p < l.length) : p < nxP l p := by
 unfold nxP dec
 rw [zoH h]
 have := yvA ⟨l.toArray⟩ p
 omega
theorem yzI (s cs : Bs) (h : s.length ≤ 1048576) (h2 : cs.length < 4294967281) (h3 : cs.all (fun b => decide (b.toNat < 128)) = true) : T (zaB.trim s cs) fun _ => True := by
 refine ⟨Lib.trimS s cs, ?_, trivial⟩
 show yiC s cs = _
 unfold yiC
 rw [decide_eq_true (show s.length ≤ 9223372036854775807 by omega), decide_eq_true h2, h3]
 rfl
theorem of_t (v : Bs) (n : Int) (cs : Bs) (hn : n ≤ 1048576) (h2 : cs.length < 4294967281) (h3 : cs.all (fun b => decide (b.toNat < 128)) = true) : T (znS zaB v n cs) fun _ => True := by
 unfold znS
 refine T.bif (fun _ => T.dif (fun h => ?_) fun _ => T.ok trivial) fun _ => T.ok trivial
 exact (yzI v cs (by omega) h2 h3).bind fun _ _ => T.ok trivial
theorem yuX (s : Bs) : T (zgR zaB s) fun _ => True := by
 unfold zgR
 exact (of_t s _ _ (by decide) (by decide) (by decide)).bind fun _ _ => T.ok trivial
theorem ylF (s : Bs) : T (zeS zaB s) fun _ => True := by
 unfold zeS
 exact (of_t s _ _ (by decide) (by decide) (by decide)).bind fun _ _ => T.ok trivial
theorem yhH {α : Type} {s : List α} {n : Int} (h0 : 0 ≤ n) (h : n ≤ (s.length : Int)) : T (subH s n) fun _ => True := by
 obtain ⟨k, rfl⟩ : ∃ k : Nat, n = k := ⟨n.toNat, by omega⟩
 unfold subH
 rw [decide_eq_true (show (0 : Int) ≤ (k : Int) by omega), decide_eq_true h]
 exact ⟨_, rfl, trivial⟩
theorem ytD {α : Type} {s : List α} {n : Int} (h0 : 0 ≤ n) (h : n ≤ (s.length : Int)) : T (subL s n) fun _ => True := by
 obtain ⟨k, rfl⟩ : ∃ k : Nat, n = k := ⟨n.toNat, by omega⟩
 unfold subL
 rw [decide_eq_true (show (0 : Int) ≤ (k : Int) by omega), decide_eq_true h]
 exact ⟨_, rfl, trivial⟩
theorem ysA (s : Bs) : T (zcK zaB s) fun _ => True := by
 unfold zcK
 refine T.dif (fun h => (yhH (by omega) (by omega)).bind fun _ _ => T.bif (fun _ => (ytD (by omega) (by omega)).bind fun _ _ => (ylF _).bind fun _ _ => T.ok trivial) fun _ => (yhH (by omega) (by omega)).bind fun _ _ => T.bif (fun _ => (ytD (by omega) (by omega)).bind fun _ _ => (ylF _).bind fun _ _ => T.ok trivial) fun _ => T.ok trivial) fun _ => T.ok trivial
theorem xaZ (s : Bs) : T (zlK zaB s) fun _ => True := by
 unfold zlK
 exact (ysA s).bind fun _ _ => T.ok trivial
theorem xaQ (l : List Bs) (h : l.length ≤ 1048576) : T (zaR zaB l) fun _ => True := by
 unfold zaR zjG
 refine T.bind (Q := fun _ => True) (T.bind (Q := fun _ => True) (T.places l.length (by omega) (fun _ => True) fun k hk => ?_) fun r _ => ?_) fun _ _ => T.ok trivial
 ·unfold znQ
  refine T.dif (fun h2 => ?_) fun _ => T.ok trivial
  refine (T.ix (by omega) h2).bind fun _ _ => (xaZ _).bind fun _ _ => T.bif (fun _ => T.ok trivial) fun _ => T.ok ⟨?_, by omega⟩
  rw [zmG (by omega) (by omega)]; omega
 ·cases r <;> exact T.ok trivial
theorem xaR (s : Bs) : T (zgM zaB s) fun _ => True := by
 unfold zgM
 refine T.bif (fun _ => T.dif (fun h => ?_) fun _ => T.ok trivial) fun _ => T.ok trivial
 refine T.bind (Q := fun _ => True) ?_ fun _ _ => T.ok trivial
 unfold zgZ ziO ziR
 refine T.bind (Q := fun _ => True) (T.bind (Q := fun _ => True) (T.bind (Q := fun _ => True) (T.iter (fun x => x.1 = s ∧ 0 ≤ x.2) (fun x => s.length - x.2.toNat) (fun _ => True) (fun x hx => ?_) ⟨rfl, Int.le_refl _⟩ (by simp; omega)) fun r _ => ?_) fun _ _ => T.ok trivial) fun _ _ => T.ok trivial
 ·obtain ⟨v, i⟩ := x
  obtain ⟨rfl, h0⟩ := hx
  unfold zmP
  simp only at h0 ⊢
  refine T.dif (fun h2 => ?_) fun _ => T.ok trivial
  refine T.bind (Q := fun _ => True) ?_ fun _ _ => T.bif (fun _ => T.ok trivial) fun _ => T.ok ⟨⟨rfl, by simp⟩, ?_⟩
  ·unfold znU
   exact T.dif (fun _ => T.ok trivial) fun _ => T.ok trivial
  ·have := yzE h2
   simp only [Int.toNat_natCast]
   omega
 ·cases r <;> exact T.ok trivial
theorem yyW (n a b : Int) : zaM zaB n a b = some (decide (a ≤ n) && decide (n ≤ b)) := by
 unfold zaM
 by_cases h : n ≥ a
 ·rw [zoH h]; simp [show a ≤ n from h]
 ·rw [zsZ h]; simp [show ¬ a ≤ n from h]
theorem yfX {c a b : Bool} : (bif c then some a else some b) = some (bif c then a else b) := by cases c <;> rfl
theorem yvE {c a : Bool} : (bif c then a else false) = (c && a) := by cases c <;> rfl
abbrev L8 : Type := Bs
abbrev Nd : Type := Int × Int × Int × L8 × L8 × L8 × List L8 × Int × Int × Bool × Bool × List L8 × Int × L8 × L8
abbrev Es : Type := List (Int × Nd)
abbrev npar (n : Nd) : Int := n.2.2.1
abbrev zdL (n : Nd) : List L8 := n.2.2.2.2.2.2.1
abbrev nexp (n : Nd) : Int := n.2.2.2.2.2.2.2.2.1
abbrev yoC (n : Nd) : Bool := n.2.2.2.2.2.2.2.2.2.1
abbrev ydO (n : Nd) : Bool := n.2.2.2.2.2.2.2.2.2.2.1
abbrev nact (n : Nd) : List L8 := n.2.2.2.2.2.2.2.2.2.2.2.1
abbrev nsec (n : Nd) : L8 := n.2.2.2.2.2.2.2.2.2.2.2.2.2.1
abbrev yyZ (n : Nd) : L8 := n.2.2.2.2.2.2.2.2.2.2.2.2.2.2
def scB (s : L8) : Bool := (zgR zaB s).getD false
def nmB (s : L8) : Bool := (zeS zaB s).getD false
def prB (s : L8) : Bool := (zcK zaB s).getD false
def txB (s : L8) : Bool := (zgM zaB s).getD false
def axB (l : List L8) : Bool := (zaR zaB l).getD false
theorem ywV (s : L8) : zgR zaB s = some (scB s) := (yuX s).get
theorem xbY (s : L8) : zeS zaB s = some (nmB s) := (ylF s).get
theorem xcP (s : L8) : zcK zaB s = some (prB s) := (ysA s).get
theorem xbZ (s : L8) : zgM zaB s = some (txB s) := (xaR s).get
theorem xbW {l : List L8} (h : l.length ≤ 1048576) : zaR zaB l = some (axB l) := (xaQ l h).get
def scpF (l : List L8) : Nat → Nat → Bool
 | 0, _ => true
 | f + 1, i => match l[i]? with
  | none => true
  | some s => scB s && (decide (i = 0) || !(match l[i - 1]? with | none => true | some q => Op.bytesLess s q || s == q)) && scpF l f (i + 1)
theorem ykV (n : Nd) (h : (zdL n).length ≤ 1048576) : ∀ (f i k : Nat), f + i = (zdL n).length → f < k →
  zpH (fun x : Int × Nd => zgK zaB n x.1 x.2.1 x.2.2.1 x.2.2.2.1 x.2.2.2.2.1 x.2.2.2.2.2.1 x.2.2.2.2.2.2.1 x.2.2.2.2.2.2.2.1 x.2.2.2.2.2.2.2.2.1 x.2.2.2.2.2.2.2.2.2.1 x.2.2.2.2.2.2.2.2.2.2.1 x.2.2.2.2.2.2.2.2.2.2.2.1 x.2.2.2.2.2.2.2.2.2.2.2.2.1 x.2.2.2.2.2.2.2.2.2.2.2.2.2.1 x.2.2.2.2.2.2.2.2.2.2.2.2.2.2.1 x.2.2.2.2.2.2.2.2.2.2.2.2.2.2.2) k ((i : Int), n) = some (bif scpF (zdL n) f i then Sum.inr n else Sum.inl false)
 | 0, i, k + 1, hf, _ => by
  rw [zgO (b := Sum.inr n)]
  ·rfl
  ·unfold zgK
   rw [zsZ (show ¬ (i : Int) < ((zdL n).length : Int) by omega)]
 | f + 1, i, k + 1, hf, hk => by
  have hi : i < (zdL n).length := by omega
  unfold scpF
  rw [List.getElem?_eq_getElem hi]
  simp only []
  cases hs : scB (zdL n)[i] with
  | false =>
   simp only [Bool.false_and, cond_false]
   refine zgO ?_
   unfold zgK
   simp only []
   rw [zoH (show (i : Int) < ((zdL n).length : Int) by omega), zoE rfl hi, zaA, ywV, hs, zaA]
   rfl
  | true =>
   simp only [Bool.true_and]
   by_cases h0 : i = 0
   ·subst h0
    simp only [decide_true, Bool.true_or, Bool.true_and]
    rw [zdR (s' := (((1 : Nat) : Int), n))]
    ·exact ykV n h f 1 k (by omega) (by omega)
    ·unfold zgK
     simp only []
     rw [zoH (show ((0 : Nat) : Int) < ((zdL n).length : Int) by omega), zoE rfl hi, zaA, ywV, hs, zaA]
     rfl
   ·have hp : i - 1 < (zdL n).length := by omega
    rw [List.getElem?_eq_getElem hp]
    simp only [decide_eq_false h0, Bool.false_or]
    have e1 : w64 ((i : Int) - 1) = ((i - 1 : Nat) : Int) := by rw [zmG (by omega) (by omega)]; omega
    have e2 : w64 ((i : Int) + 1) = ((i + 1 : Nat) : Int) := by rw [zmG (by omega) (by omega)]; omega
    have hb : zgK zaB n (i : Int) n.1 n.2.1 n.2.2.1 n.2.2.2.1 n.2.2.2.2.1 n.2.2.2.2.2.1 n.2.2.2.2.2.2.1 n.2.2.2.2.2.2.2.1 n.2.2.2.2.2.2.2.2.1 n.2.2.2.2.2.2.2.2.2.1 n.2.2.2.2.2.2.2.2.2.2.1 n.2.2.2.2.2.2.2.2.2.2.2.1 n.2.2.2.2.2.2.2.2.2.2.2.2.1 n.2.2.2.2.2.2.2.2.2.2.2.2.2.1 n.2.2.2.2.2.2.2.2.2.2.2.2.2.2 = bif (Op.bytesLess (zdL n)[i] (zdL n)[i - 1] || (zdL n)[i] == (zdL n)[i - 1]) then some (.inr (.inl false)) else some (.inl (((i + 1 : Nat) : Int), n)) := by
     unfold zgK
     rw [zoH (show (i : Int) < ((zdL n).length : Int) by omega), zoE rfl hi, zaA, ywV, hs, zaA]
     simp only [Bool.not_true, cond_false]
     rw [zoH (show (i : Int) > 0 by omega), e1, zoE rfl hp, zaA, e2]
    cases hq : (Op.bytesLess (zdL n)[i] (zdL n)[i - 1] || (zdL n)[i] == (zdL n)[i - 1]) with
    | true =>
     rw [hq] at hb
     simp only [Bool.not_true, Bool.false_and, cond_false]
     exact zgO hb
    | false =>
     rw [hq] at hb
     simp only [Bool.not_false, Bool.true_and]
     rw [zdR (s' := (((i + 1 : Nat) : Int), n)) hb]
     exact ykV n h f (i + 1) k (by omega) (by omega)
def inB (n a b : Int) : Bool := decide (a ≤ n) && decide (n ≤ b)
def mayB (n : Nd) : Bool := scpF (zdL n) (zdL n).length 0 && inB n.2.1 1 5 && decide (n.2.2.1 ≥ 0) && prB n.2.2.2.1 && (n.2.2.2.2.1 == ([] : L8) || nmB n.2.2.2.2.1) && (n.2.2.2.2.2.1 == ([] : L8) || txB n.2.2.2.2.2.1) && decide (((zdL n).length : Int) ≤ 16) && inB n.2.2.2.2.2.2.2.1 0 1099511627776 && inB (nexp n) 0 1099511627776 && decide (((nact n).length : Int) ≤ 4) && !axB (nact n) && inB n.2.2.2.2.2.2.2.2.2.2.2.2.1 0 3 && inB ((nsec n).length : Int) 1 64 && decide (((yyZ n).length : Int) ≤ 256)
theorem ytC (n : Nd) (h : (zdL n).length ≤ 1048576) : zgA zaB n = some (mayB n) := by
 unfold zgA
 rw [show iter _ ((0 : Int), n) = _ from ykV n h (zdL n).length 0 FU (by omega) (by unfold FU; omega), zaA]
 unfold mayB
 cases scpF (zdL n) (zdL n).length 0 with
 | false => simp only [cond_false, Bool.false_and]
 | true =>
  simp only [cond_true, Bool.true_and, yyW, xcP, xbY, xbZ, zaA]
  by_cases h4 : ((nact n).length : Int) ≤ 4
  ·rw [xbW (l := n.2.2.2.2.2.2.2.2.2.2.2.1) (by have : ((n.2.2.2.2.2.2.2.2.2.2.2.1).length : Int) ≤ 4 := h4; omega)]
   simp only [zaA, yfX]
   simp only [yvE]
   unfold inB
   congr 1
   cases (n.2.2.2.2.1 == ([] : L8)) <;> cases nmB n.2.2.2.2.1 <;> cases (n.2.2.2.2.2.1 == ([] : L8)) <;> cases txB n.2.2.2.2.2.1 <;> simp only [cond_true, cond_false, Bool.false_and, Bool.true_and, Bool.and_false, Bool.or_true, Bool.or_false, Bool.true_or, Bool.false_or, Bool.and_assoc]
  ·have h5 : decide (((n.2.2.2.2.2.2.2.2.2.2.2.1).length : Int) ≤ 4) = false := decide_eq_false h4
   simp only [h5, cond_false, zaA, yfX, Bool.and_false, Bool.false_and, Bool.cond_self]
section
variable {S R : Type}
theorem ygP {f : S → List (Option (S ⊕ R))} (hne : ∀ s, f s ≠ []) : ∀ (n : Nat) {s : S} {r r' : R} {m : Nat}, Rng f n s r → Rng f m s r' → r = r'
 | 0, _, _, _, _, h, _ => h.elim
 | _ + 1, _, _, _, 0, _, h => h.elim
 | n + 1, s, r, r', m + 1, h, h' => by
  obtain ⟨o, ho⟩ := List.exists_mem_of_ne_nil _ (hne s)
  have h1 := h o ho
  have h2 := h' o ho
  match o, h1, h2 with
  | some (.inl s'), h1, h2 => exact ygP hne n h1 h2
  | some (.inr r0), h1, h2 => exact h1.symm.trans h2
theorem yuV {f : S → List (Option (S ⊕ R))} (hne : ∀ s, f s ≠ []) {n : Nat} {s : S} {r : R} (h : Rng f n s r) : rngA f s = some r := by
 unfold rngA
 have hx : ∃ r n, Rng f n s r := ⟨r, n, h⟩
 rw [dif_pos hx]
 obtain ⟨m, hm⟩ := hx.choose_spec
 rw [ygP hne m hm h]
theorem ytL {α γ : Type} (l : List α) (d : γ) (F : α → γ) : rngL l d F ≠ [] := by
 unfold rngL
 cases l <;> simp
theorem xcH {α γ : Type} {l : List α} {d : γ} {F : α → γ} {o : γ} (h : o ∈ rngL l d F) : (l = [] ∧ o = d) ∨ ∃ p ∈ l, o = F p := by
 unfold rngL at h
 cases l with
 | nil => exact .inl ⟨rfl, List.mem_singleton.1 h⟩
 | cons x l =>
  obtain ⟨p, hp, rfl⟩ := List.mem_map.1 h
  exact .inr ⟨p, hp, rfl⟩
theorem ygO {γ : Type} {es : List (Int × γ)} {left : List Int} {p : Int × γ} : p ∈ rngC keqI es left ↔ p ∈ es ∧ p.1 ∈ left := by
 unfold rngC
 rw [List.mem_filter, List.any_eq_true]
 constructor
 ·rintro ⟨h, k, hk, e⟩
  rw [zcI.1 e]; exact ⟨h, hk⟩
 ·rintro ⟨h, hk⟩
  exact ⟨h, _, hk, zcI.2 rfl⟩
theorem zuM {left : List Int} {k j : Int} : j ∈ rngD keqI left k ↔ j ∈ left ∧ j ≠ k := by
 unfold rngD
 rw [List.mem_filter, Bool.not_eq_true', ← Bool.not_eq_true, zcI]
theorem yrF {left : List Int} {k : Int} (h : k ∈ left) : (rngD keqI left k).length < left.length := by
 unfold rngD
 refine List.length_filter_lt_length_iff_exists.2 ⟨k, h, ?_⟩
 rw [zcI.2 rfl]; simp
theorem zuQ {γ : Type} {f : S → List (Option (S ⊕ R))} (I : S → Prop) (es : S → List (Int × γ)) (left : S → List Int) {d : S → Option (S ⊕ R)} {F : S → Int × γ → Option (S ⊕ R)} {r : R}
  (hf : ∀ s, f s = rngL (rngC keqI (es s) (left s)) (d s) (F s))
  (h1 : ∀ s, I s → (∀ p ∈ es s, p.1 ∉ left s) → d s = some (.inr r))
  (h2 : ∀ s p, I s → p ∈ es s → p.1 ∈ left s → (∃ s', F s p = some (.inl s') ∧ I s' ∧ left s' = rngD keqI (left s) p.1) ∨ F s p = some (.inr r)) {s : S} (hs : I s) : rngA f s = some r := by
 have key : ∀ n s, I s → (left s).length < n → Rng f n s r := by
  intro n
  induction n with
  | zero => intro s _ h; omega
  | succ n ih =>
   intro s hs hn o ho
   rw [hf] at ho
   rcases xcH ho with ⟨h3, rfl⟩ | ⟨p, hp, rfl⟩
   ·rw [h1 s hs fun p hp hl => by have := ygO.2 ⟨hp, hl⟩; rw [h3] at this; cases this]
    rfl
   ·obtain ⟨hp, hl⟩ := ygO.1 hp
    rcases h2 s p hs hp hl with ⟨s', e, hI, hle⟩ | e
    ·rw [e]
     refine ih s' hI ?_
     rw [hle]
     have := yrF hl
     omega
    ·rw [e]; rfl
 exact yuV (fun s => by rw [hf]; exact ytL _ _ _) (key _ s hs (Nat.lt_succ_self _))
end
abbrev zN : Nd := ((0 : Int), (0 : Int), (0 : Int), ([] : L8), ([] : L8), ([] : L8), ([] : List L8), (0 : Int), (0 : Int), false, false, ([] : List L8), (0 : Int), ([] : L8), ([] : L8))
def Lst (n : Nd) : Prop := (zdL n).length ≤ 1048576 ∧ (nact n).length ≤ 1048576
theorem own_ok {n : Nd} (h : Lst n) : zfS zaB n = some n := by
 have h1 : n.2.2.2.2.2.2.1.length ≤ 1048576 := h.1
 have h2 : n.2.2.2.2.2.2.2.2.2.2.2.1.length ≤ 1048576 := h.2
 unfold zfS
 rw [zlL _ (by omega), zaA, zlL _ (by omega), zaA]
structure Ok (nx : Int) (es : Es) : Prop where
 rises : zmH es
 ids : ∀ p ∈ es, p.2.1 = p.1 ∧ 1 ≤ p.1 ∧ p.1 < nx
 par : ∀ p ∈ es, 0 ≤ npar p.2 ∧ npar p.2 < p.1
 may : ∀ p ∈ es, mayB p.2 = true
 uniq : ∀ p ∈ es, ∀ q ∈ es, nsec p.2 = nsec q.2 → p = q
 next : 1 ≤ nx ∧ nx ≤ 99999999
 len : es.length ≤ 256
theorem zaX {a b : Bool} (h : (a && b) = true) : a = true := by cases a <;> simp_all
theorem ynV {n : Nd} (h : mayB n = true) : (zdL n).length ≤ 16 ∧ (nact n).length ≤ 4 ∧ 1 ≤ (nsec n).length ∧ (nsec n).length ≤ 64 ∧ (yyZ n).length ≤ 256 ∧ 0 ≤ npar n := by
 unfold mayB inB at h
 simp only [Bool.and_eq_true, decide_eq_true_eq] at h
 exact ⟨by omega, by omega, by omega, by omega, by omega, show 0 ≤ n.2.2.1 by omega⟩
theorem Ok.lst {nx : Int} {es : Es} (h : Ok nx es) {p : Int × Nd} (hp : p ∈ es) : Lst p.2 := by
 have := ynV (h.may p hp)
 exact ⟨by omega, by omega⟩
def zwD (es : Es) (sec : L8) : Option Nd := (es.find? fun p => nsec p.2 == sec).map (·.2)
theorem ztY {nx : Int} {es : Es} (h : Ok nx es) (sec : L8) : zbK zaB sec nx es = some ((zwD es sec).getD zN, (zwD es sec).isSome, nx, es) := by
 unfold zbK zwD
 cases hf : es.find? (fun p => nsec p.2 == sec) with
 | none =>
  have hn : ∀ p ∈ es, (nsec p.2 == sec) = false := fun p hp => by
   have := List.find?_eq_none.1 hf p hp
   simpa using this
  refine Eq.trans (bind_ok (a := Sum.inl (nx, es, 0, 0, 0, [], [], [], 0, 0, false, false, 0, [], [])) ?_) rfl
  refine zuQ (fun s => ∃ left, s = (nx, es, 0, 0, 0, [], [], [], 0, 0, false, false, 0, [], [], left)) (fun s => s.2.1) (fun s => s.2.2.2.2.2.2.2.2.2.2.2.2.2.2.2) (hf := fun s => rfl) ?_ ?_ ⟨_, rfl⟩
  ·rintro s ⟨left, rfl⟩ _
   rfl
  ·rintro s p ⟨left, rfl⟩ hp hl
   refine .inl ⟨_, ?_, ⟨_, rfl⟩, rfl⟩
   simp only []
   rw [zgJ h.rises (k := p.1) (v := p.2) hp, zaA]
   have := hn p hp
   simp only [nsec] at this
   rw [this]
   rfl
 | some q =>
  have hq := List.mem_of_find?_eq_some hf
  have hs : (nsec q.2 == sec) = true := List.find?_some (p := fun p : Int × Nd => nsec p.2 == sec) hf
  refine Eq.trans (bind_ok (a := Sum.inr (true, nx, es, q.2)) ?_) rfl
  refine zuQ (fun s => ∃ left, s = (nx, es, 0, 0, 0, [], [], [], 0, 0, false, false, 0, [], [], left) ∧ q.1 ∈ left) (fun s => s.2.1) (fun s => s.2.2.2.2.2.2.2.2.2.2.2.2.2.2.2) (hf := fun s => rfl) ?_ ?_ ⟨_, rfl, List.mem_map.2 ⟨q, hq, rfl⟩⟩
  ·rintro s ⟨left, rfl, hl⟩ hn
   exact absurd hl (hn q hq)
  ·rintro s p ⟨left, rfl, hl⟩ hp hpl
   simp only []
   rw [zgJ h.rises (k := p.1) (v := p.2) hp, zaA]
   cases he : p.2.2.2.2.2.2.2.2.2.2.2.2.2.2.1 == sec with
   | true =>
    have e : p = q := h.uniq p hp q hq (by
     have h1 : nsec p.2 = sec := beq_iff_eq.1 he
     have h2 : nsec q.2 = sec := beq_iff_eq.1 hs
     rw [h1, h2])
    subst e
    rw [own_ok (h.lst hp)]
    exact .inr rfl
   | false =>
    refine .inl ⟨_, rfl, ⟨_, rfl, zuM.2 ⟨hl, fun e => ?_⟩⟩, rfl⟩
    have e2 : p = q := by
     have := zgJ h.rises (k := p.1) (v := p.2) hp
     rw [← e, zgJ h.rises (k := q.1) (v := q.2) hq] at this
     exact Prod.ext e.symm (osi this).symm
    subst e2
    rw [show (p.2.2.2.2.2.2.2.2.2.2.2.2.2.2.1 == sec) = true from hs] at he
    cases he
def pth (es : Es) : Nat → Int → List Int
 | 0, _ => []
 | f + 1, id => match mget keqI es id with
  | none => []
  | some n => id :: pth es f (npar n)
theorem yiE (es : Es) (f : Nat) (id : Int) : pth es (f + 1) id = match mget keqI es id with
  | none => []
  | some n => id :: pth es f (npar n) := rfl
def zlD (es : Es) (id : Int) : List Int := pth es id.toNat id
theorem ytA {nx : Int} {es : Es} (h : Ok nx es) {id : Int} (hi : id ≤ 0) : mhas keqI es id = false := by
 cases hh : mhas keqI es id with
 | false => rfl
 | true =>
  obtain ⟨v, hv⟩ := zhI.1 hh
  have := (h.ids _ hv).2.1
  simp only at this
  omega
theorem yjY (es : Es) : ∀ f id, (pth es f id).length ≤ f
 | 0, _ => Nat.le_refl _
 | f + 1, id => by
  unfold pth
  split
  ·simp
  ·simp only [List.length_cons]
   have := yjY es f (npar ‹_›)
   omega
theorem yaW {nx : Int} {es : Es} (h : Ok nx es) : ∀ (f g : Nat) (id : Int), id.toNat ≤ f → id.toNat ≤ g → pth es f id = pth es g id
 | 0, 0, _, _, _ => rfl
 | 0, g + 1, id, hf, _ => by
  unfold pth
  rw [zrF (ytA h (by omega))]
 | f + 1, 0, id, _, hg => by
  unfold pth
  rw [zrF (ytA h (by omega))]
 | f + 1, g + 1, id, hf, hg => by
  unfold pth
  cases hm : mget keqI es id with
  | none => rfl
  | some n =>
   have hp := zhP hm
   have h1 := (h.par _ hp).2
   have h2 := (h.ids _ hp).2.1
   simp only at h1 h2 ⊢
   rw [yaW h f g (npar n) (by omega) (by omega)]
theorem zzM {nx : Int} {es : Es} (h : Ok nx es) {id : Int} {n : Nd} (hm : mget keqI es id = some n) : zlD es id = id :: zlD es (npar n) := by
 have hp := zhP hm
 have h1 := (h.par _ hp).2
 have h2 := (h.ids _ hp).2.1
 simp only at h1 h2
 unfold zlD
 obtain ⟨f, hf⟩ : ∃ f, id.toNat = f + 1 := ⟨id.toNat - 1, by omega⟩
 rw [hf]
 show (match mget keqI es id with
  | none => []
  | some n => id :: pth es f (npar n)) = _
 rw [hm]
 simp only []
 rw [yaW h f (npar n).toNat (npar n) (by omega) (by omega)]
theorem zzQ {es : Es} {id : Int} (hm : mget keqI es id = none) : zlD es id = [] := by
 unfold zlD
 cases id.toNat with
 | zero => rfl
 | succ f => unfold pth; rw [hm]
theorem ylP {nx nx' : Int} {es : Es} (h : Ok nx es) : ∀ (f : Nat) (id : Int) (acc : List Int) (k : Nat), id.toNat ≤ f → f < k → acc.length + f ≤ 68719476736 →
  zpH (fun x : Bool × Int × Es × List Int × Nd => zhS zaB x.1 x.2.1 x.2.2.1 x.2.2.2.1 x.2.2.2.2.1 x.2.2.2.2.2.1 x.2.2.2.2.2.2.1 x.2.2.2.2.2.2.2.1 x.2.2.2.2.2.2.2.2.1 x.2.2.2.2.2.2.2.2.2.1 x.2.2.2.2.2.2.2.2.2.2.1 x.2.2.2.2.2.2.2.2.2.2.2.1 x.2.2.2.2.2.2.2.2.2.2.2.2.1 x.2.2.2.2.2.2.2.2.2.2.2.2.2.1 x.2.2.2.2.2.2.2.2.2.2.2.2.2.2.1 x.2.2.2.2.2.2.2.2.2.2.2.2.2.2.2.1 x.2.2.2.2.2.2.2.2.2.2.2.2.2.2.2.2.1 x.2.2.2.2.2.2.2.2.2.2.2.2.2.2.2.2.2.1 x.2.2.2.2.2.2.2.2.2.2.2.2.2.2.2.2.2.2) k (mhas keqI es id, nx', es, acc, zhK keqI es id zN) = some (nx', es, acc ++ pth es f id)
 | f, id, acc, k + 1, hf, hk, ha => by
  cases hh : mhas keqI es id with
  | false =>
   have e : pth es f id = [] := by
    cases f with
    | zero => rfl
    | succ f => unfold pth; rw [zrF hh]
   rw [e, List.append_nil]
   exact zgO rfl
  | true =>
   obtain ⟨n, hn, hp⟩ := znZ hh
   have h1 := (h.par _ hp).2
   have h2 := h.ids _ hp
   simp only at h1 h2
   rw [zkC hn]
   obtain ⟨f, rfl⟩ : ∃ g, f = g + 1 := ⟨f - 1, by omega⟩
   rw [zdR (s' := (mhas keqI es (npar n), nx', es, acc ++ [id], zhK keqI es (npar n) zN))]
   ·rw [ylP h f (npar n) (acc ++ [id]) k (by omega) (by omega) (by simp; omega)]
    rw [yiE, hn]
    simp
   ·unfold zhS
    simp only [cond_true]
    rw [zvN (by simp; omega), zaA, h2.1]
theorem yeQ {nx nx' : Int} {es : Es} (h : Ok nx es) (id : Int) : zbL zaB id nx' es = some (zlD es id, nx', es) := by
 unfold zbL
 simp only []
 cases hh : mhas keqI es id with
 | false =>
  rw [zzQ (zrF hh), show iter _ (false, nx', es, ([] : List Int), zhK keqI es id zN) = some (nx', es, []) from zgO rfl, zaA]
 | true =>
 have hi : id ≤ 68719476736 := by
  obtain ⟨v, hv⟩ := zhI.1 hh
  have h1 := h.ids _ hv
  have h2 := h.next
  simp only at h1
  omega
 rw [← hh]
 rw [show iter _ (mhas keqI es id, nx', es, ([] : List Int), zhK keqI es id zN) = _ from ylP h id.toNat id [] FU (Nat.le_refl _) (by unfold FU; omega) (by simp; omega), zaA]
 rfl
theorem zxI {nx : Int} {es : Es} (h : Ok nx es) (id : Int) : (zlD es id).length ≤ 99999999 := by
 cases hm : mget keqI es id with
 | none => rw [zzQ hm]; simp
 | some n =>
  have h1 := h.ids _ (zhP hm)
  have h2 := h.next
  simp only at h1
  have := yjY es id.toNat id
  unfold zlD
  omega
def zzW (es : Es) (k : Int) : Bool := yoC (zhK keqI es k zN)
theorem yzW {α : Type} {l : List α} {p : α → Bool} {k : Nat} (hk : k < l.length) (h : p l[k] = true) : l.any p = true := List.any_eq_true.2 ⟨_, List.getElem_mem hk, h⟩
theorem yqP {α : Type} {l : List α} {p : α → Bool} {k : Nat} (hk : k < l.length) (h : (l.take k).any p = false) (h2 : p l[k] = false) : (l.take (k + 1)).any p = false := by
 rw [List.take_succ_eq_append_getElem hk, List.any_append, h, List.any_cons, h2]; rfl
theorem yuJ {nx : Int} {es : Es} {l : List Int} (hl : l.length ≤ 99999999) : zeB zaB l nx es = some (l.any (zzW es), nx, es) := by
 have h : T (iter (fun x : Int × Int × Es => ziI zaB l x.1 x.2.1 x.2.2) ((0 : Int), nx, es)) fun r => match r with
   | .inl v => v.2 = (nx, es) ∧ 0 ≤ v.1 ∧ l.any (zzW es) = true
   | .inr v => v = (nx, es) ∧ l.any (zzW es) = false := by
  refine T.iter (fun x => x.2 = (nx, es) ∧ 0 ≤ x.1 ∧ x.1 ≤ (l.length : Int) ∧ (l.take x.1.toNat).any (zzW es) = false) (fun x => l.length - x.1.toNat) _ (fun x hx => ?_) ⟨rfl, Int.le_refl _, by simp, rfl⟩ (by simp; omega)
  obtain ⟨i, v⟩ := x
  obtain ⟨h1, h2, h3, h4⟩ := hx
  simp only at h1 h2 h3 h4
  subst h1
  obtain ⟨k, rfl⟩ : ∃ k : Nat, i = k := ⟨i.toNat, by omega⟩
  rw [Int.toNat_natCast] at h4
  unfold ziI
  simp only []
  refine T.dif (fun h5 => ?_) fun h5 => T.ok ⟨rfl, ?_⟩
  ·have hk : k < l.length := by omega
   rw [zoE rfl hk, zaA]
   unfold zhD
   simp only [zaA]
   refine T.bif (fun h6 => T.ok ⟨rfl, by simp, yzW hk h6⟩) fun h6 => T.ok ⟨⟨rfl, ?_, ?_, ?_⟩, ?_⟩
   ·simp only []; rw [zmG (by omega) (by omega)]; omega
   ·simp only []; rw [zmG (by omega) (by omega)]; omega
   ·simp only []
    rw [zmG (by omega) (by omega), show ((k : Int) + 1).toNat = k + 1 by omega]
    exact yqP hk h4 h6
   ·simp only []; rw [zmG (by omega) (by omega)]; omega
  ·rw [List.take_of_length_le (by omega)] at h4
   exact h4
 unfold zeB ziQ
 obtain ⟨r, h1, h2⟩ := h
 rw [h1, zaA]
 cases r with
 | inl v =>
  obtain ⟨i, v⟩ := v
  obtain ⟨h3, h4, h5⟩ := h2
  simp only at h3 h4 h5
  subst h3
  rw [h5]
  simp only [zaA]
  rw [decide_eq_true (show i ≥ 0 by omega)]
 | inr v =>
  obtain ⟨h3, h5⟩ := h2
  subst h3
  rw [h5]
  rfl
def ycX (es : Es) (id : Int) : Bool := (zlD es id).any (zzW es)
theorem yeR {nx nx' : Int} {es : Es} (h : Ok nx es) (id : Int) : zcL zaB id nx' es = some (ycX es id, nx', es) := by
 unfold zcL
 rw [yeQ h, zaA, yuJ (zxI h id), zaA]
 rfl
def canB (n : Nd) (now : Int) : Bool := !yoC n && !ydO n && decide (nexp n > now)
theorem yxV (n : Nd) (now : Int) : zoG zaB n now = some (canB n now) := by
 obtain ⟨a0, a1, a2, a3, a4, a5, a6, a7, a8, a9, a10, a11, a12, a13, a14⟩ := n
 unfold zoG canB
 simp only [yoC, ydO, nexp]
 cases a9 with
 | true => exact bind_ok (a := Sum.inl false) (zgO rfl)
 | false =>
  cases a10 with
  | true =>
   refine bind_ok (a := Sum.inl false) ?_
   show zpH _ (1099511627774 + 1 + 1) _ = _
   rw [zdR rfl]
   exact zgO rfl
  | false =>
   by_cases h : a8 > now
   ·have e : decide (a8 > now) = true := decide_eq_true h
    refine Eq.trans (bind_ok (a := Sum.inr ()) ?_) (by rw [e]; rfl)
    show zpH _ (1099511627772 + 1 + 1 + 1 + 1) _ = _
    rw [zdR rfl, zdR rfl, zdR (s' := ((3 : Int), a0, a1, a2, a3, a4, a5, a6, a7, a8, false, false, a11, a12, a13, a14))]
    ·exact zgO rfl
    ·show zjH zaB now 2 a0 a1 a2 a3 a4 a5 a6 a7 a8 false false a11 a12 a13 a14 = _
     unfold zjH zgD
     simp only [e, zaA]
     rfl
   ·have e : decide (a8 > now) = false := decide_eq_false h
    refine Eq.trans (bind_ok (a := Sum.inl false) ?_) (by rw [e]; rfl)
    show zpH _ (1099511627773 + 1 + 1 + 1) _ = _
    rw [zdR rfl, zdR rfl]
    refine zgO ?_
    show zjH zaB now 2 a0 a1 a2 a3 a4 a5 a6 a7 a8 false false a11 a12 a13 a14 = _
    unfold zjH zgD
    simp only [e, zaA]
    rfl
def zmY (es : Es) (id now : Int) : Bool := match mget keqI es id with
 | none => false
 | some n => canB n now && !ycX es id
theorem zlG {nx nx' : Int} {es : Es} (h : Ok nx es) (id now : Int) : zaC zaB id now nx' es = some (zmY es id now, nx', es) := by
 unfold zaC zmY
 simp only []
 cases hh : mhas keqI es id with
 | false => rw [zrF hh]; rfl
 | true =>
  obtain ⟨n, hn, hp⟩ := znZ hh
  rw [hn, zkC hn]
  simp only [cond_true]
  rw [yxV, zaA]
  cases canB n now with
  | false => rfl
  | true =>
   simp only [cond_true, Bool.true_and]
   rw [yeR h, zaA]
theorem ycH : ∀ {l : List Int}, l.Pairwise (fun x y => x < y) → zvM l = true
 | [], _ => rfl
 | [x], _ => rfl
 | x :: y :: l, h => by
  have hc := List.pairwise_cons.1 h
  unfold zvM
  rw [decide_eq_true (hc.1 y List.mem_cons_self), ycH hc.2]
  rfl
theorem yaT {nx nx' : Int} {es : Es} (h : Ok nx es) : zbH zaB nx' es = some (nx', es, es.map (·.2)) := by
 have hl := h.len
 have hr : (es.map (·.1)).Pairwise (fun x y => x < y) := List.pairwise_map.2 h.rises
 have hk : zrV es = true := by
  unfold zrV
  rw [decide_eq_true (show es.length ≤ 1048576 by omega), ycH hr, Bool.and_true, Bool.true_and, List.all_eq_true]
  intro p hp
  have h1 := h.ids p hp
  have h2 := h.next
  rw [decide_eq_true (show -9223372036854775808 ≤ p.1 by omega), decide_eq_true (show p.1 ≤ 9223372036854775807 by omega)]
  rfl
 unfold zbH ztP zwO
 rw [decide_eq_true (show (0 : Int) ≤ (es.length : Int) by omega), decide_eq_true (show (es.length : Int) ≤ (LIM : Int) by unfold LIM; omega), Bool.and_self, zrW rfl, zaA, show mkL (0 : Int) _ = some ([] : List Nd) from yzJ (n := 0) (by omega), zaA, zaA, hk]
 simp only [cond_true, zaA]
 rw [show iter _ ((0 : Int), nx', es, ([] : List Nd)) = some (nx', es, es.map (·.2)) from ?_, zaA]
 refine ybT (fun k => ((k : Int), nx', es, (es.take k).map (·.2))) es.length (by omega) _ (fun k hk => ?_) ?_
 ·unfold zhA
  simp only []
  have hm : (k : Int) < ((es.map (·.1)).length : Int) := by rw [List.length_map]; omega
  rw [zoH hm, zoE (i := k) rfl (by rw [List.length_map]; exact hk), zaA, List.getElem_map, zkC (zgJ h.rises (k := es[k].1) (v := es[k].2) (List.getElem_mem hk)), own_ok (h.lst (List.getElem_mem hk)), zaA, zvN (by simp; omega), zaA, zmG (by omega) (by omega), List.take_succ_eq_append_getElem hk, List.map_append]
  rfl
 ·unfold zhA
  simp only []
  rw [zsZ (by simp), List.take_of_length_le (Nat.le_refl _)]
def chE (es : Es) (f : Int × Nd → Nd) : Es := es.map fun p => (p.1, f p)
theorem ypD (es : Es) (f : Int × Nd → Nd) : (chE es f).map (·.1) = es.map (·.1) := by
 unfold chE
 rw [List.map_map]
 rfl
theorem zuT {es : Es} {f : Int × Nd → Nd} {p : Int × Nd} (h : p ∈ chE es f) : ∃ q ∈ es, p = (q.1, f q) := by
 obtain ⟨q, h1, h2⟩ := List.mem_map.1 h
 exact ⟨q, h1, h2.symm⟩
theorem yvZ (es : Es) (f : Int × Nd → Nd) : (chE es f).length = es.length := List.length_map ..
structure yfQ (es : Es) (f : Int × Nd → Nd) : Prop where
 id : ∀ p ∈ es, (f p).1 = p.2.1
 par : ∀ p ∈ es, npar (f p) = npar p.2
 sec : ∀ p ∈ es, nsec (f p) = nsec p.2
 may : ∀ p ∈ es, mayB p.2 = true → mayB (f p) = true
theorem Ok.ch {nx : Int} {es : Es} (h : Ok nx es) {f : Int × Nd → Nd} (k : yfQ es f) : Ok nx (chE es f) where
 rises := zzT (ypD es f) h.rises
 ids p hp := by
  obtain ⟨q, hq, rfl⟩ := zuT hp
  have := h.ids q hq
  simp only [k.id q hq]
  exact this
 par p hp := by
  obtain ⟨q, hq, rfl⟩ := zuT hp
  have := h.par q hq
  simp only [k.par q hq]
  exact this
 may p hp := by
  obtain ⟨q, hq, rfl⟩ := zuT hp
  exact k.may q hq (h.may q hq)
 uniq p hp q hq e := by
  obtain ⟨p', hp', rfl⟩ := zuT hp
  obtain ⟨q', hq', rfl⟩ := zuT hq
  simp only [k.sec p' hp', k.sec q' hq'] at e
  rw [h.uniq p' hp' q' hq' e]
 next := h.next
 len := by rw [yvZ]; exact h.len
theorem ytE {es : Es} (h : zmH es) {i : Int} {n v : Nd} (hm : mget keqI es i = some n) : mrep keqI es i v = chE es fun p => if p.1 = i then v else p.2 := by
 induction es with
 | nil => cases hm
 | cons p m ih =>
  obtain ⟨k', n'⟩ := p
  have hc := List.pairwise_cons.1 h
  show (bif keqI k' i then (i, v) :: m else (k', n') :: mrep keqI m i v) = (k', if k' = i then v else n') :: chE m _
  unfold mget at hm
  cases hk : keqI k' i with
  | true =>
   have e := zcI.1 hk
   rw [if_pos e, e]
   simp only [cond_true]
   congr 1
   refine (List.map_id m).symm.trans (List.map_congr_left fun p hp => ?_)
   have := hc.1 p hp
   simp only at this
   have e' : ¬ p.1 = i := by omega
   show p = (p.1, if p.1 = i then v else p.2)
   rw [if_neg e']
  | false =>
   rw [hk] at hm
   have e : ¬ k' = i := fun e => by rw [zcI.2 e] at hk; cases hk
   rw [if_neg e]
   simp only [cond_false]
   rw [ih hc.2 hm]
theorem zwL {es : Es} {f g : Int × Nd → Nd} (h : ∀ p ∈ es, f p = g p) : chE es f = chE es g :=
 List.map_congr_left fun p hp => by rw [h p hp]
def chI (es : Es) (id : Int) (g : Nd → Nd) : Es := chE es fun p => if p.1 = id then g p.2 else p.2
theorem zwP {es : Es} (h : zmH es) {id : Int} {n : Nd} (g : Nd → Nd) (hm : mget keqI es id = some n) : mrep keqI es id (g n) = chI es id g := by
 rw [ytE h hm]
 refine zwL fun p hp => ?_
 by_cases e : p.1 = id
 ·rw [if_pos e, if_pos e]
  have := zgJ h (k := p.1) (v := p.2) hp
  rw [e, hm] at this
  rw [osi this]
 ·rw [if_neg e, if_neg e]
abbrev zoI (n : Nd) : Nd := (n.1, n.2.1, n.2.2.1, n.2.2.2.1, n.2.2.2.2.1, n.2.2.2.2.2.1, n.2.2.2.2.2.2.1, n.2.2.2.2.2.2.2.1, n.2.2.2.2.2.2.2.2.1, true, n.2.2.2.2.2.2.2.2.2.2.1, n.2.2.2.2.2.2.2.2.2.2.2.1, n.2.2.2.2.2.2.2.2.2.2.2.2.1, n.2.2.2.2.2.2.2.2.2.2.2.2.2.1, n.2.2.2.2.2.2.2.2.2.2.2.2.2.2)
abbrev yoQ (n : Nd) : Nd := (n.1, n.2.1, n.2.2.1, n.2.2.2.1, n.2.2.2.2.1, n.2.2.2.2.2.1, n.2.2.2.2.2.2.1, n.2.2.2.2.2.2.2.1, n.2.2.2.2.2.2.2.2.1, n.2.2.2.2.2.2.2.2.2.1, true, n.2.2.2.2.2.2.2.2.2.2.2.1, n.2.2.2.2.2.2.2.2.2.2.2.2.1, n.2.2.2.2.2.2.2.2.2.2.2.2.2.1, n.2.2.2.2.2.2.2.2.2.2.2.2.2.2)
abbrev sLev (l : Int) (n : Nd) : Nd := (n.1, n.2.1, n.2.2.1, n.2.2.2.1, n.2.2.2.2.1, n.2.2.2.2.2.1, n.2.2.2.2.2.2.1, n.2.2.2.2.2.2.2.1, n.2.2.2.2.2.2.2.2.1, n.2.2.2.2.2.2.2.2.2.1, n.2.2.2.2.2.2.2.2.2.2.1, n.2.2.2.2.2.2.2.2.2.2.2.1, (bif decide (n.2.2.2.2.2.2.2.2.2.2.2.2.1 ≤ l) then l else n.2.2.2.2.2.2.2.2.2.2.2.2.1), n.2.2.2.2.2.2.2.2.2.2.2.2.2.1, n.2.2.2.2.2.2.2.2.2.2.2.2.2.2)
abbrev yxI (d : L8) (n : Nd) : Nd := (n.1, n.2.1, n.2.2.1, n.2.2.2.1, n.2.2.2.2.1, n.2.2.2.2.2.1, n.2.2.2.2.2.2.1, n.2.2.2.2.2.2.2.1, n.2.2.2.2.2.2.2.2.1, n.2.2.2.2.2.2.2.2.2.1, n.2.2.2.2.2.2.2.2.2.2.1, n.2.2.2.2.2.2.2.2.2.2.2.1, n.2.2.2.2.2.2.2.2.2.2.2.2.1, n.2.2.2.2.2.2.2.2.2.2.2.2.2.1, d)
theorem zwG {es : Es} {q : Int × Nd → Prop} [DecidablePred q] {g : Nd → Nd} (h1 : ∀ n, (g n).1 = n.1) (h2 : ∀ n, npar (g n) = npar n) (h3 : ∀ n, nsec (g n) = nsec n) (h4 : ∀ n, mayB n = true → mayB (g n) = true) : yfQ es fun p => if q p then g p.2 else p.2 where
 id p _ := by split <;> simp only [h1]
 par p _ := by split <;> simp only [h2]
 sec p _ := by split <;> simp only [h3]
 may p _ h := by split; exact h4 _ h; exact h
theorem zoY {es : Es} (q : Int × Nd → Prop) [DecidablePred q] : yfQ es fun p => if q p then zoI p.2 else p.2 := zwG (fun _ => rfl) (fun _ => rfl) (fun _ => rfl) fun _ h => h
theorem yfM {es : Es} (q : Int × Nd → Prop) [DecidablePred q] : yfQ es fun p => if q p then yoQ p.2 else p.2 := zwG (fun _ => rfl) (fun _ => rfl) (fun _ => rfl) fun _ h => h
theorem yiZ {es : Es} (q : Int × Nd → Prop) [DecidablePred q] {d : L8} (hd : d.length ≤ 256) : yfQ es fun p => if q p then yxI d p.2 else p.2 := zwG (fun _ => rfl) (fun _ => rfl) (fun _ => rfl) fun n h => by
 unfold mayB at h ⊢
 simp only [Bool.and_eq_true] at h ⊢
 exact ⟨h.1, decide_eq_true (by show (d.length : Int) ≤ 256; omega)⟩
theorem yjP {es : Es} (q : Int × Nd → Prop) [DecidablePred q] {l : Int} (h1 : 1 ≤ l) (h3 : l ≤ 3) : yfQ es fun p => if q p then sLev l p.2 else p.2 := zwG (fun _ => rfl) (fun _ => rfl) (fun _ => rfl) fun n h => by
 unfold mayB at h ⊢
 simp only [Bool.and_eq_true] at h ⊢
 refine ⟨⟨⟨h.1.1.1, ?_⟩, h.1.2⟩, h.2⟩
 have h2 := h.1.1.2
 unfold inB at h2 ⊢
 simp only [Bool.and_eq_true, decide_eq_true_eq] at h2 ⊢
 by_cases hl : n.2.2.2.2.2.2.2.2.2.2.2.2.1 ≤ l
 ·simp only [decide_eq_true hl, cond_true]; omega
 ·simp only [decide_eq_false hl, cond_false]; exact h2
theorem yfI {nx nx' : Int} {es : Es} (h : Ok nx es) {id : Int} (hh : mhas keqI es id = true) : zcM zaB id nx' es = some (nx', chI es id zoI) := by
 obtain ⟨n, hn, hp⟩ := znZ hh
 unfold zcM ziH zgV
 simp only [zaA]
 rw [hh, zrW rfl, zaA, zkC hn, zaA, ← zwP h.rises zoI hn]
theorem yxF {nx nx' : Int} {es : Es} (h : Ok nx es) (id : Int) : zdN zaB id nx' es = some (bif mhas keqI es id then (0, nx', chI es id zoI) else (131, nx', es)) := by
 unfold zdN
 cases hh : mhas keqI es id with
 | false => rfl
 | true =>
  simp only [Bool.not_true, cond_false, cond_true]
  rw [yfI h hh, zaA]
section
variable {γ : Type}
theorem ygH (j : Int) (v : γ) (k : Int) : ∀ (m : List (Int × γ)), mhas keqI (mins kltI m j v) k = (keqI j k || mhas keqI m k)
 | [] => rfl
 | (k', v') :: m => by
  unfold mins
  cases kltI k' j with
  | true =>
   simp only [cond_true, mhas, ygH j v k m]
   cases keqI k' k <;> cases keqI j k <;> rfl
  | false => rfl
theorem yqV (m : List (Int × γ)) (j : Int) (v : γ) (k : Int) : mhas keqI (mset keqI kltI m j v) k = (keqI j k || mhas keqI m k) := by
 unfold mset
 cases hj : mhas keqI m j with
 | true =>
  simp only [cond_true]
  rw [ykK (zxJ m j v)]
  cases hk : keqI j k with
  | true => rw [← zcI.1 hk, hj]; rfl
  | false => rfl
 | false => exact ygH j v k m
theorem ycR : ∀ {l m : List (Int × Unit)}, zmH l → zmH m → (∀ k, mhas keqI l k = mhas keqI m k) → l = m
 | [], [], _, _, _ => rfl
 | [], (k, u) :: m, _, _, h => by
  have := h k
  simp only [mhas, zcI.2, Bool.true_or] at this
  cases this
 | (k, u) :: l, [], _, _, h => by
  have := h k
  simp only [mhas, zcI.2, Bool.true_or] at this
  cases this
 | (k, ()) :: l, (j, ()) :: m, hl, hm, h => by
  have cl := List.pairwise_cons.1 hl
  have cm := List.pairwise_cons.1 hm
  have e : k = j := by
   have h1 := h k
   have h2 := h j
   simp only [mhas, zcI.2, Bool.true_or] at h1 h2
   have h1 := h1.symm
   rw [Bool.or_eq_true, zcI, zhI] at h1 h2
   rcases h1 with h1 | ⟨_, h1⟩
   ·exact h1.symm
   rcases h2 with h2 | ⟨_, h2⟩
   ·exact h2
   have a := cl.1 _ h2
   have b := cm.1 _ h1
   simp only at a b
   omega
  subst e
  congr 1
  refine ycR cl.2 cm.2 fun i => ?_
  have hi := h i
  simp only [mhas] at hi
  by_cases e : k = i
  ·subst e
   have n1 : mhas keqI l k = false := by
    cases hb : mhas keqI l k with
    | false => rfl
    | true =>
     obtain ⟨v, hv⟩ := zhI.1 hb
     have := cl.1 _ hv
     simp only at this
     omega
   have n2 : mhas keqI m k = false := by
    cases hb : mhas keqI m k with
    | false => rfl
    | true =>
     obtain ⟨v, hv⟩ := zhI.1 hb
     have := cm.1 _ hv
     simp only at this
     omega
   rw [n1, n2]
  ·rw [yhA e] at hi
   exact hi
theorem zxG : ∀ {es : List (Int × γ)}, zmH es → ∀ (k : Int), mdel keqI es k = es.filter fun p => !keqI p.1 k
 | [], _, _ => rfl
 | (k', v) :: m, h, k => by
  have hc := List.pairwise_cons.1 h
  unfold mdel
  cases hk : keqI k' k with
  | true =>
   rw [List.filter_cons_of_neg (by simp [hk])]
   simp only [cond_true]
   refine (List.filter_eq_self.2 fun p hp => ?_).symm
   have := hc.1 p hp
   have e := zcI.1 hk
   simp only at this
   rw [yhA (by omega)]
   rfl
  | false =>
   rw [List.filter_cons_of_pos (by simp [hk])]
   simp only [cond_false, zxG hc.2 k]
end
theorem ycW {α : Type} {l : List α} {p q : α → Bool} (h : ∀ x ∈ l, p x = q x) : l.any p = l.any q := by
 induction l with
 | nil => rfl
 | cons x l ih => rw [List.any_cons, List.any_cons, h x List.mem_cons_self, ih fun y hy => h y (List.mem_cons_of_mem _ hy)]
def zvH (m : List (Int × Unit)) (l : List Int) : List (Int × Unit) := l.foldl (fun m j => mset keqI kltI m j ()) m
theorem zzY (k : Int) : ∀ (l : List Int) (m : List (Int × Unit)), mhas keqI (zvH m l) k = (mhas keqI m k || l.contains k)
 | [], m => by simp [zvH]
 | j :: l, m => by
  show mhas keqI (zvH (mset keqI kltI m j ()) l) k = _
  rw [zzY k l, yqV]
  have : (j :: l).contains k = (keqI j k || l.contains k) := by
   rw [List.contains_cons]
   congr 1
   unfold keqI
   rw [Bool.eq_iff_iff, beq_iff_eq, decide_eq_true_iff]
   exact eq_comm
  rw [this]
  cases keqI j k <;> cases mhas keqI m k <;> rfl
theorem zvL : ∀ (l : List Int) {m : List (Int × Unit)}, zmH m → zmH (zvH m l)
 | [], _, h => h
 | j :: l, m, h => zvL l (m := mset keqI kltI m j ()) (yjE h)
theorem ykB {es : Es} : ∀ (f : Nat) (i k : Int), k ∈ pth es f i → mhas keqI es k = true
 | 0, _, _, h => by cases h
 | f + 1, i, k, h => by
  rw [yiE] at h
  cases hm : mget keqI es i with
  | none => rw [hm] at h; cases h
  | some n =>
   rw [hm] at h
   rcases List.mem_cons.1 h with rfl | h
   ·exact ywO hm
   ·exact ykB f _ k h
def znO (es : Es) (now k : Int) : Bool := es.any fun p => zmY es p.1 now && (zlD es p.1).contains k
def zaQ (es : Es) (now : Int) : Es := es.filter fun p => znO es now p.1
theorem ynR {es : Es} (h : zmH es) (nd : List (Int × Unit)) : ziB zaB es nd = some (es.filter fun p => mhas keqI nd p.1, nd) := by
 unfold ziB
 suffices hA : rngA (fun x => zoB zaB x.1 x.2.1 x.2.2) (es, nd, List.map Prod.fst es) = some (es.filter fun p => mhas keqI nd p.1, nd) by
  rw [hA, zaA]
 refine zuQ (fun x => ∃ left : List Int, x = (es.filter fun p => left.contains p.1 || mhas keqI nd p.1, nd, left)) (fun x => x.1) (fun x => x.2.2) (hf := fun x => rfl) ?_ ?_ ?_
 ·rintro _ ⟨left, rfl⟩ hn
  have e : (es.filter fun p => left.contains p.1 || mhas keqI nd p.1) = es.filter fun p => mhas keqI nd p.1 := List.filter_congr fun p hp => by
   cases hc : left.contains p.1 with
   | false => rfl
   | true =>
    have h0 := hn p (List.mem_filter.2 ⟨hp, by simp only [hc]; rfl⟩)
    exact absurd (List.contains_iff_mem.1 hc) h0
  show some (Sum.inr _) = _
  simp only [e]
 ·rintro _ p ⟨left, rfl⟩ hp hl
  simp only [] at hp hl
  have hr : zmH (es.filter fun p => left.contains p.1 || mhas keqI nd p.1) := h.sublist List.filter_sublist
  refine .inl ?_
  simp only []
  rw [zgJ hr (k := p.1) (v := p.2) hp, zaA]
  unfold zgI
  simp only [zaA]
  have hD : ∀ j, (rngD keqI left p.1).contains j = (left.contains j && !keqI j p.1) := fun j => by
   rw [Bool.eq_iff_iff, Bool.and_eq_true, List.contains_iff_mem, zuM, List.contains_iff_mem, Bool.not_eq_true', ← Bool.not_eq_true, zcI]
  cases hh : mhas keqI nd p.1 with
  | true =>
   have e : (es.filter fun q => (rngD keqI left p.1).contains q.1 || mhas keqI nd q.1) = es.filter fun q => left.contains q.1 || mhas keqI nd q.1 := List.filter_congr fun q _ => by
    rw [hD]
    cases hk : keqI q.1 p.1 with
    | false => rw [Bool.not_false, Bool.and_true]
    | true => rw [zcI.1 hk, hh, Bool.or_true, Bool.or_true]
   exact ⟨_, rfl, ⟨rngD keqI left p.1, by rw [e]⟩, rfl⟩
  | false =>
   have e : mdel keqI (es.filter fun p => left.contains p.1 || mhas keqI nd p.1) p.1 = es.filter fun q => (rngD keqI left p.1).contains q.1 || mhas keqI nd q.1 := by
    rw [zxG hr, List.filter_filter]
    refine List.filter_congr fun q _ => ?_
    rw [hD]
    cases hk : keqI q.1 p.1 with
    | false => simp
    | true => rw [zcI.1 hk, hh]; simp
   exact ⟨_, rfl, ⟨rngD keqI left p.1, by rw [e]⟩, rfl⟩
 ·refine ⟨List.map Prod.fst es, ?_⟩
  have e : (es.filter fun p => (List.map Prod.fst es).contains p.1 || mhas keqI nd p.1) = es := List.filter_eq_self.2 fun p hp => by
   have : (List.map Prod.fst es).contains p.1 = true := List.contains_iff_mem.2 (List.mem_map.2 ⟨p, hp, rfl⟩)
   rw [this]; rfl
  rw [e]
theorem zsM {nx nx' : Int} {es : Es} (h : Ok nx es) (now : Int) : zaT zaB now nx' es = some ((es.length : Int) - ((zaQ es now).length : Int), nx', zaQ es now) := by
 have hlen := h.len
 have hle : (zaQ es now).length ≤ es.length := List.length_filter_le _ _
 have hcan : ∀ k, mhas keqI ((zaQ es now).map fun p => (p.1, ())) k = znO es now k := fun k => by
  rw [Bool.eq_iff_iff, zhI]
  unfold zaQ
  constructor
  ·rintro ⟨_, hv⟩
   obtain ⟨p, hp, e⟩ := List.mem_map.1 hv
   obtain ⟨hp, hq⟩ := List.mem_filter.1 hp
   cases e
   exact hq
  ·intro hk
   have hk' := hk
   unfold znO at hk
   obtain ⟨p, hp, hq⟩ := List.any_eq_true.1 hk
   rw [Bool.and_eq_true, List.contains_iff_mem] at hq
   obtain ⟨n, hn⟩ := zhI.1 (ykB _ _ _ hq.2)
   exact ⟨(), List.mem_map.2 ⟨(k, n), List.mem_filter.2 ⟨hn, hk'⟩, rfl⟩⟩
 have hcr : zmH ((zaQ es now).map fun p => (p.1, ())) := by
  have h1 : zmH (zaQ es now) := h.rises.sublist List.filter_sublist
  unfold zmH
  rw [List.pairwise_map]
  exact h1
 unfold zaT
 suffices hA : rngA (fun x => zkI zaB now x.1 x.2.1 x.2.2.1 x.2.2.2) (nx', es, List.map Prod.fst es, ([] : List (Int × Unit))) = some (nx', es, (zaQ es now).map fun p => (p.1, ())) by
  rw [hA, zaA, ynR h.rises, zaA]
  have e : (es.filter fun p => mhas keqI ((zaQ es now).map fun p => (p.1, ())) p.1) = zaQ es now := by
   show _ = es.filter _
   refine List.filter_congr fun p _ => ?_
   rw [hcan]
  simp only [e]
  rw [zmG (by omega) (by omega)]
 refine zuQ (fun x => ∃ (left : List Int) (nd : List (Int × Unit)), x = (nx', es, left, nd) ∧ zmH nd ∧ ∀ k, mhas keqI nd k = es.any fun p => !left.contains p.1 && (zmY es p.1 now && (zlD es p.1).contains k)) (fun x => x.2.1) (fun x => x.2.2.1) (hf := fun x => rfl) ?_ ?_ ?_
 ·rintro _ ⟨left, nd, rfl, hr, hk⟩ hn
  simp only [] at hn
  have e : nd = (zaQ es now).map fun p => (p.1, ()) := ycR hr hcr fun k => by
   rw [hk, hcan]
   unfold znO
   refine ycW fun p hp => ?_
   have : left.contains p.1 = false := by
    cases hc : left.contains p.1 with
    | false => rfl
    | true => exact absurd (List.contains_iff_mem.1 hc) (hn p hp)
   rw [this]; rfl
  rw [e]
 ·rintro _ p ⟨left, nd, rfl, hr, hk⟩ hp hl
  simp only [] at hp hl
  refine .inl ?_
  simp only []
  rw [zgJ h.rises (k := p.1) (v := p.2) hp, zaA, zlG h, zaA]
  have hD : ∀ j, (rngD keqI left p.1).contains j = (left.contains j && !keqI j p.1) := fun j => by
   rw [Bool.eq_iff_iff, Bool.and_eq_true, List.contains_iff_mem, zuM, List.contains_iff_mem, Bool.not_eq_true', ← Bool.not_eq_true, zcI]
  have hc : left.contains p.1 = true := List.contains_iff_mem.2 hl
  have hsplit : ∀ k, (es.any fun q => !(rngD keqI left p.1).contains q.1 && (zmY es q.1 now && (zlD es q.1).contains k)) = ((es.any fun q => !left.contains q.1 && (zmY es q.1 now && (zlD es q.1).contains k)) || (zmY es p.1 now && (zlD es p.1).contains k)) := fun k => by
   rw [Bool.eq_iff_iff, Bool.or_eq_true, List.any_eq_true, List.any_eq_true]
   constructor
   ·rintro ⟨q, hq, h2⟩
    rw [hD] at h2
    by_cases e : q.1 = p.1
    ·right
     rw [e] at h2
     exact (Bool.and_eq_true _ _ ▸ h2).2
    ·left
     refine ⟨q, hq, ?_⟩
     rw [yhA e] at h2
     simpa using h2
   ·rintro (⟨q, hq, h2⟩ | h2)
    ·refine ⟨q, hq, ?_⟩
     rw [hD]
     cases hb : left.contains q.1 with
     | true => rw [hb] at h2; cases h2
     | false => rw [hb] at h2; exact h2
    ·refine ⟨p, hp, ?_⟩
     rw [hD, zcI.2 rfl, h2]
     simp
  cases hv : zmY es p.1 now with
  | false =>
   refine ⟨_, rfl, ⟨rngD keqI left p.1, nd, rfl, hr, fun k => ?_⟩, rfl⟩
   rw [hsplit, hk, hv]
   simp
  | true =>
   simp only [Bool.not_true, cond_false]
   rw [yeQ h, zaA]
   have hpl := zxI h p.1
   have hI : iter (fun x => zdY zaB (zlD es p.1, nx', es) x.1 x.2.1 x.2.2.1 x.2.2.2.1 x.2.2.2.2) ((0 : Int), nx', es, rngD keqI left p.1, nd) = some (nx', es, rngD keqI left p.1, zvH nd (zlD es p.1)) := by
    refine ybT (fun k => ((k : Int), nx', es, rngD keqI left p.1, zvH nd ((zlD es p.1).take k))) (zlD es p.1).length (by omega) _ (fun k hk2 => ?_) ?_
    ·unfold zdY
     simp only []
     rw [zoH (by omega), zoE rfl hk2, zaA, zmG (by omega) (by omega), List.take_succ_eq_append_getElem hk2]
     unfold zvH
     rw [List.foldl_append]
     rfl
    ·unfold zdY
     simp only []
     rw [zsZ (by omega), List.take_of_length_le (Nat.le_refl _)]
   rw [show iter _ ((0 : Int), nx', es, rngD keqI left p.1, nd) = _ from hI, zaA]
   refine ⟨_, rfl, ⟨rngD keqI left p.1, zvH nd (zlD es p.1), rfl, zvL _ hr, fun k => ?_⟩, rfl⟩
   rw [zzY, hsplit, hk, hv, Bool.true_and]
 ·refine ⟨List.map Prod.fst es, [], rfl, List.Pairwise.nil, fun k => ?_⟩
  refine Eq.symm ?_
  show _ = false
  rw [List.any_eq_false]
  intro p hp
  have : (List.map Prod.fst es).contains p.1 = true := List.contains_iff_mem.2 (List.mem_map.2 ⟨p, hp, rfl⟩)
  rw [this]
  simp
theorem Ok.filter {nx : Int} {es : Es} (h : Ok nx es) (q : Int × Nd → Bool) : Ok nx (es.filter q) where
 rises := h.rises.sublist List.filter_sublist
 ids p hp := h.ids p (List.mem_filter.1 hp).1
 par p hp := h.par p (List.mem_filter.1 hp).1
 may p hp := h.may p (List.mem_filter.1 hp).1
 uniq p hp q hq := h.uniq p (List.mem_filter.1 hp).1 q (List.mem_filter.1 hq).1
 next := h.next
 len := Nat.le_trans (List.length_filter_le _ _) h.len
theorem Ok.pruned {nx : Int} {es : Es} (h : Ok nx es) (now : Int) : Ok nx (zaQ es now) := h.filter _
abbrev sNew (i : Int) (n : Nd) : Nd := (i, n.2.1, n.2.2.1, n.2.2.2.1, n.2.2.2.2.1, n.2.2.2.2.2.1, n.2.2.2.2.2.2.1, n.2.2.2.2.2.2.2.1, n.2.2.2.2.2.2.2.2.1, false, false, n.2.2.2.2.2.2.2.2.2.2.2.1, n.2.2.2.2.2.2.2.2.2.2.2.2.1, n.2.2.2.2.2.2.2.2.2.2.2.2.2.1, n.2.2.2.2.2.2.2.2.2.2.2.2.2.2)
def ybV (es : Es) (par : Int) : Bool := decide (par > 0) && (!mhas keqI es par || ycX es par)
def znK (n : Nd) (now nx : Int) (es : Es) : Int × Int × Int × Es :=
 bif !mayB n then (0, 131, nx, es) else
 bif (zwD es (nsec n)).isSome then (0, 132, nx, es) else
 bif ybV es (npar n) then (0, 133, nx, es) else
 bif decide ((zaQ es now).length ≥ 256) || decide (nx ≥ 99999999) then (0, 130, nx, zaQ es now) else
 (nx, 0, nx + 1, zaQ es now ++ [(nx, sNew nx n)])
theorem Ok.plant {nx : Int} {es : Es} (h : Ok nx es) (n : Nd) (now : Int) : Ok (znK n now nx es).2.2.1 (znK n now nx es).2.2.2 := by
 unfold znK
 cases hm : mayB n with
 | false => exact h
 | true =>
  simp only [Bool.not_true, cond_false]
  cases hf : (zwD es (nsec n)).isSome with
  | true => exact h
  | false =>
   simp only [cond_false]
   cases ho : ybV es (npar n) with
   | true => exact h
   | false =>
    simp only [cond_false]
    cases hg : decide ((zaQ es now).length ≥ 256) || decide (nx ≥ 99999999) with
    | true => exact h.pruned now
    | false =>
     simp only [cond_false]
     rw [Bool.or_eq_false_iff, decide_eq_false_iff_not, decide_eq_false_iff_not] at hg
     have hP := h.pruned now
     have hnx := h.next
     have hlow : ∀ p ∈ zaQ es now, p.1 < nx := fun p hp => (hP.ids p hp).2.2
     have hpar : 0 ≤ npar n ∧ npar n < nx := by
      have h0 := (ynV hm).2.2.2.2.2
      refine ⟨h0, ?_⟩
      unfold ybV at ho
      by_cases hp : npar n > 0
      ·rw [decide_eq_true hp, Bool.true_and, Bool.or_eq_false_iff, Bool.not_eq_false'] at ho
       obtain ⟨v, hv⟩ := zhI.1 ho.1
       exact (h.ids _ hv).2.2
      ·omega
     have hno : ∀ p ∈ es, nsec p.2 ≠ nsec n := fun p hp e => by
      unfold zwD at hf
      rw [Option.isSome_map, Option.isSome_eq_false_iff, Option.isNone_iff_eq_none, List.find?_eq_none] at hf
      exact hf p hp (beq_iff_eq.2 e)
     have hno' : ∀ p ∈ zaQ es now, nsec p.2 ≠ nsec n := fun p hp => hno p (List.mem_filter.1 hp).1
     have hmem : ∀ p, p ∈ zaQ es now ++ [(nx, sNew nx n)] → p ∈ zaQ es now ∨ p = (nx, sNew nx n) := fun p hp => by simpa using hp
     exact {
       rises := by
        unfold zmH
        rw [List.pairwise_append]
        refine ⟨hP.rises, List.pairwise_singleton _ _, fun p hp q hq => ?_⟩
        rw [List.mem_singleton] at hq
        subst hq
        exact hlow p hp
       ids := fun p hp => by
        rcases hmem p hp with hp | rfl
        ·have := hP.ids p hp
         exact ⟨this.1, this.2.1, by omega⟩
        ·exact ⟨rfl, hnx.1, by simp only []; omega⟩
       par := fun p hp => by
        rcases hmem p hp with hp | rfl
        ·exact hP.par p hp
        ·exact hpar
       may := fun p hp => by
        rcases hmem p hp with hp | rfl
        ·exact hP.may p hp
        ·exact hm
       uniq := fun p hp q hq e => by
        rcases hmem p hp with hp | rfl <;> rcases hmem q hq with hq | rfl
        ·exact hP.uniq p hp q hq e
        ·exact absurd e (hno' p hp)
        ·exact absurd e.symm (hno' q hq)
        ·rfl
       next := ⟨by omega, by omega⟩
       len := by rw [List.length_append, List.length_singleton]; omega }
theorem zxX {nx : Int} {es : Es} (h : Ok nx es) (now a0 a1 a2 : Int) (a3 a4 a5 : L8) (a6 a7 : Int) (a8 a9 : Bool) (a10 : Int) (a11 a12 : L8) :
  zbZ zaB a0 a1 a2 a3 a4 a5 a6 a7 a8 a9 a10 a11 a12 now nx es = some (znK (a0, a1, a2, a3, a4, a5, ([] : List L8), a6, a7, a8, a9, ([] : List L8), a10, a11, a12) now nx es) := by
 unfold zbZ znK
 rw [show zgA zaB _ = some (mayB (a0, a1, a2, a3, a4, a5, ([] : List L8), a6, a7, a8, a9, ([] : List L8), a10, a11, a12)) from ytC (a0, a1, a2, a3, a4, a5, ([] : List L8), a6, a7, a8, a9, ([] : List L8), a10, a11, a12) (Nat.zero_le _), zaA]
 cases hm : mayB (a0, a1, a2, a3, a4, a5, ([] : List L8), a6, a7, a8, a9, ([] : List L8), a10, a11, a12) with
 | false => rfl
 | true =>
  simp only [Bool.not_true, cond_false]
  rw [ztY h, zaA]
  cases hf : zwD es a11 with
  | some q => rfl
  | none =>
   simp only [Option.isSome_none, Option.getD_none, cond_false]
   have hj : zgT zaB a0 a1 a2 a3 a4 a5 a6 a7 a8 a9 a10 a11 a12 (zN, false, nx, es) = some (bif ybV es a2 then .inl (0, 133, nx, es) else .inr (nx, es, a0, a1, a2, a3, a4, a5, a6, a7, a8, a9, a10, a11, a12)) := by
    unfold zgT ybV
    simp only []
    by_cases hp : a2 > 0
    ·rw [zoH hp, decide_eq_true hp, yeR h, zaA]
     cases mhas keqI es a2 with
     | false => rfl
     | true =>
      simp only [Bool.not_true, cond_false, Bool.true_and, Bool.false_or]
      cases ycX es a2 <;> rfl
    ·rw [zsZ hp, decide_eq_false hp]
     rfl
   rw [hj, zaA]
   cases ybV es a2 with
   | true => rfl
   | false =>
    simp only [cond_false]
    rw [zsM h, zaA]
    unfold zkR
    simp only []
    by_cases hg : (zaQ es now).length ≥ 256
    ·rw [zoH (by omega), decide_eq_true hg]
     rfl
    ·rw [zsZ (by omega), decide_eq_false hg]
     by_cases hx : nx ≥ 99999999
     ·rw [zoH hx, decide_eq_true hx]
      rfl
     ·rw [zsZ hx, decide_eq_false hx]
      have hnx := h.next
      simp only [zaA, Bool.or_false, cond_false]
      rw [own_ok ⟨Nat.zero_le _, Nat.zero_le _⟩, zaA, zmG (by omega) (by omega)]
      simp only []
      rw [ydI fun p hp => ((h.pruned now).ids p hp).2.2]
theorem yrX : Ok 1 [] := ⟨List.Pairwise.nil, fun _ h => (by cases h), fun _ h => (by cases h), fun _ h => (by cases h), fun _ h => (by cases h), ⟨by decide, by decide⟩, by decide⟩
def fn1 : Nd := (0, 1, 0, [117, 58, 97, 110, 110], [], [], [], 0, 9, false, false, [], 0, [115], [])
def fn2 : Nd := (0, 1, 1, [117, 58, 97, 110, 110], [], [], [], 0, 9, false, false, [], 0, [116], [])
def fe1 : Es := [(1, 1, 1, 0, [117, 58, 97, 110, 110], [], [], [], 0, 9, false, false, [], 0, [115], [])]
def fe2 : Es := [(1, 1, 1, 0, [117, 58, 97, 110, 110], [], [], [], 0, 9, false, false, [], 0, [115], []), (2, 2, 1, 1, [117, 58, 97, 110, 110], [], [], [], 0, 9, false, false, [], 0, [116], [])]
def fe3 : Es := [(1, 1, 1, 0, [117, 58, 97, 110, 110], [], [], [], 0, 9, true, false, [], 0, [115], []), (2, 2, 1, 1, [117, 58, 97, 110, 110], [], [], [], 0, 9, false, false, [], 0, [116], [])]
def ybI : L8 × L8 := ([110, 111, 100, 101, 47, 48, 48, 48, 48, 48, 48, 48, 49], [49, 58, 49, 49, 58, 48, 53, 58, 117, 58, 97, 110, 110, 48, 58, 48, 58, 49, 58, 48, 49, 58, 48, 49, 58, 57, 49, 58, 49, 49, 58, 48, 49, 58, 48, 49, 58, 48, 49, 58, 115, 48, 58])
def ybK : L8 × L8 := ([110, 111, 100, 101, 47, 48, 48, 48, 48, 48, 48, 48, 50], [49, 58, 49, 49, 58, 49, 53, 58, 117, 58, 97, 110, 110, 48, 58, 48, 58, 49, 58, 48, 49, 58, 48, 49, 58, 57, 49, 58, 48, 49, 58, 48, 49, 58, 48, 49, 58, 48, 49, 58, 116, 48, 58])
def ymW : List (L8 × L8) := [([102, 111, 114, 101, 115, 116], [49, 58, 51]), ybI, ybK]
theorem pl1 : znK fn1 0 1 [] = (1, 0, 2, fe1) := by kernel_rfl
theorem pl2 : znK fn1 0 2 fe1 = (0, 132, 2, fe1) := by kernel_rfl
theorem pl3 : znK fn2 0 2 fe1 = (2, 0, 3, fe2) := by kernel_rfl
theorem fok1 : Ok 2 fe1 := by
 have h := yrX.plant fn1 0
 rw [pl1] at h
 exact h
theorem fok2 : Ok 3 fe2 := by
 have h := fok1.plant fn2 0
 rw [pl3] at h
 exact h
theorem fok3 : Ok 3 fe3 := by
 have h := fok2.ch (zoY fun p => p.1 = 1)
 rw [show (chE fe2 fun p => if p.1 = 1 then zoI p.2 else p.2) = fe3 by kernel_rfl] at h
 exact h
theorem fok0 : Ok 3 [] := by
 have h := fok3.filter fun _ => false
 exact h
theorem fok4 : Ok 3 [(1, 1, 1, 0, [117, 58, 97, 110, 110], [], [], [], 0, 9, true, false, [], 0, [115], [])] := by
 have h := fok3.filter fun p => keqI p.1 1
 rw [show (fe3.filter fun p => keqI p.1 1) = [(1, 1, 1, 0, [117, 58, 97, 110, 110], [], [], [], 0, 9, true, false, [], 0, [115], [])] by kernel_rfl] at h
 exact h
theorem frd1 : znB zaB ybI = some ((1, 1, 0, [117, 58, 97, 110, 110], [], [], [], 0, 9, true, false, [], 0, [115], []), true) := by kernel_rfl
theorem frd2 : znB zaB ybK = some ((2, 1, 1, [117, 58, 97, 110, 110], [], [], [], 0, 9, false, false, [], 0, [116], []), true) := by kernel_rfl
theorem fst1 : zgS zaB [ybI, ybK] 0 0 3 [] = some (.inl (1, 1, 3, [(1, 1, 1, 0, [117, 58, 97, 110, 110], [], [], [], 0, 9, true, false, [], 0, [115], [])])) := by
 unfold zgS
 rw [show idx [ybI, ybK] 0 = some ybI from rfl, zaA, frd1, zaA]
 simp only []
 rw [ztY fok0, zaA]
 kernel_rfl
theorem fst2 : zgS zaB [ybI, ybK] 1 1 3 [(1, 1, 1, 0, [117, 58, 97, 110, 110], [], [], [], 0, 9, true, false, [], 0, [115], [])] = some (.inl (2, 2, 3, fe3)) := by
 unfold zgS
 rw [show idx [ybI, ybK] 1 = some ybK from rfl, zaA, frd2, zaA]
 simp only []
 rw [ztY fok4, zaA]
 kernel_rfl
theorem xcX : zmT zaB ymW = some (.inr (0, 3, fe3)) := by
 unfold zmT
 rw [show ztJ zaB ymW = some (.inr ()) by kernel_rfl, zaA]
 simp only []
 rw [show idx ymW 0 = some ([102, 111, 114, 101, 115, 116], [49, 58, 51]) from rfl, zaA]
 simp only []
 rw [show zlJ zaB [49, 58, 51] = some ([[51]], true) by kernel_rfl, zaA, show ztE zaB ([[51]], true) = some (.inr ()) by kernel_rfl, zaA]
 simp only []
 rw [show zhQ zaB = some (1, []) from rfl, zaA, show ztH zaB ([[51]], true) (1, []) = some (.inr (3, [])) by kernel_rfl, zaA]
 simp only []
 rw [show subL ymW 1 = some [ybI, ybK] from rfl, zaA]
 have hI : iter (fun x => zgS zaB [ybI, ybK] x.1 x.2.1 x.2.2.1 x.2.2.2) ((0 : Int), (0 : Int), (3 : Int), ([] : Es)) = some (.inr (3, fe3)) := by
  show zpH _ (1099511627773 + 1 + 1 + 1) _ = _
  rw [zdR fst1, zdR fst2]
  exact zgO rfl
 rw [show iter _ _ = _ from hI, zaA]
theorem ywR : zhB zaB = some true := by
 unfold zhB
 rw [show zhQ zaB = some (1, []) from rfl, zaA]
 simp only []
 rw [(zxX yrX 0 0 1 0 [117, 58, 97, 110, 110] [] [] 0 9 false false 0 [115] []).trans (congrArg some pl1), zaA]
 simp only []
 rw [(zxX fok1 0 0 1 0 [117, 58, 97, 110, 110] [] [] 0 9 false false 0 [115] []).trans (congrArg some pl2), zaA]
 simp only []
 rw [(zxX fok1 0 0 1 1 [117, 58, 97, 110, 110] [] [] 0 9 false false 0 [116] []).trans (congrArg some pl3), zaA]
 rw [show zjC zaB (1, 0, 2, fe1) (0, 132, 2, fe1) (2, 0, 3, fe2) = some (.inr (3, fe3)) by kernel_rfl, zaA]
 simp only []
 rw [show ziF zaB 3 fe3 = some (ymW, 3, fe3) by kernel_rfl, zaA]
 simp only []
 rw [xcX, zaA]
 simp only []
 rw [yaT fok3, zaA]
 simp only []
 rw [zsM fok3, zaA]
 kernel_rfl
def yhQ : PC := ⟨[], [.b], fun _ => some true, false⟩
theorem yrL {G : List (Nat × Obj)} [zoR G] : PCok Tryz.prog G 13 yhQ := by
 have h := zpQ (tabs := G) (o := zaB)
 unfold zjO at h
 rw [ywR] at h
 exact h
end Go.Proofs.YtebbcofojchkpaaGreatDoor.Am
