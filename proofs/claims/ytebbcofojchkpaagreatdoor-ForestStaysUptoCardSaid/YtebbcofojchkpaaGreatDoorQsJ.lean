/- Functions that answer whatever they are given: plain laws. Forests: find, paths, what is live: plain laws. Forests: what is live, and the list of nodes: plain laws. Forests: nodes that are changed: plain laws. Forests: what is pruned: plain laws. Forests: what is planted: plain laws. Calls on forests whose answers the document fixes: plain law, and that the code does so. Conditions: as each theorem says. -/
import Derived.Test.YtebbcofojchkpaaGreatDoorQsI
namespace Go.Proofs.YtebbcofojchkpaaGreatDoor.Am
open Go Go.RowKit
section
variable {α β γ σ : Type}
def T (o : Option α) (P : α → Prop) : Prop := ∃ r, o = some r ∧ P r
theorem T.ok {a : α} {P : α → Prop} (h : P a) : T (some a) P := ⟨a, rfl, h⟩
theorem T.bind {o : Option α} {f : α → Option β} {Q : α → Prop} {P : β → Prop} (h : T o Q) (g : ∀ a, Q a → T (f a) P) : T (o.bind f) P := by
 obtain ⟨a, rfl, h⟩ := h
 exact g a h
theorem T.bif {c : Bool} {a b : Option α} {P : α → Prop} (h : c = true → T a P) (g : c = false → T b P) : T (bif c then a else b) P := by
 cases c
 ·exact g rfl
 ·exact h rfl
theorem T.dif {p : Prop} [Decidable p] {a b : Option α} {P : α → Prop} (h : p → T a P) (g : ¬ p → T b P) : T (bif decide p then a else b) P :=
 T.bif (fun e => h (of_decide_eq_true e)) fun e => g (of_decide_eq_false e)
theorem T.mono {o : Option α} {P Q : α → Prop} (h : T o P) (g : ∀ a, P a → Q a) : T o Q := by
 obtain ⟨a, h1, h2⟩ := h
 exact ⟨a, h1, g a h2⟩
theorem T.get {o : Option Bool} {P : Bool → Prop} (h : T o P) : o = some (o.getD false) := by
 obtain ⟨a, rfl, _⟩ := h
 rfl
theorem T.at {o : Option α} {P : α → Prop} {a : α} (h : T o P) (e : o = some a) : P a := by
 obtain ⟨b, e2, h2⟩ := h
 rw [e] at e2
 cases e2
 exact h2
theorem T.idx {l : List α} {i : Int} {P : α → Prop} (h0 : 0 ≤ i) (h : i < (l.length : Int)) (g : ∀ (k : Nat) (hk : k < l.length), i = (k : Int) → P l[k]) : T (idx l i) P := by
 obtain ⟨k, rfl⟩ : ∃ k : Nat, i = k := ⟨i.toNat, by omega⟩
 exact ⟨_, zmM rfl (by omega), g k (by omega) rfl⟩
theorem T.ix {l : List α} {i : Int} (h0 : 0 ≤ i) (h : i < (l.length : Int)) : T (Go.Proofs.YtebbcofojchkpaaGreatDoor.idx l i) fun _ => True := T.idx h0 h fun _ _ _ => trivial
theorem T.iter {body : σ → Option (σ ⊕ β)} (I : σ → Prop) (m : σ → Nat) (G : β → Prop) (hr : ∀ s, I s → T (body s) fun r => match r with
  | .inl s' => I s' ∧ m s' < m s
  | .inr b => G b) {s : σ} (hs : I s) (hm : m s < 1099511627776) : T (iter body s) G :=
 yeI I m G (fun s hs => by
  obtain ⟨r, h1, h2⟩ := hr s hs
  cases r with
  | inl s' => exact .inl ⟨s', h1, h2⟩
  | inr b => exact .inr ⟨b, h1, h2⟩) FU s hs (by unfold FU; exact hm)
theorem zuQ {a b : List α} (h : a.length + b.length ≤ 68719476736) : app a b = some (a ++ b) := by
 unfold app
 rw [zkS (by unfold LIM; omega)]
theorem zmA (xs : List α) (h : xs.length ≤ 68719476736) : app ([] : List α) xs = some xs := by
 rw [zuQ (by simpa using h)]; rfl
theorem T.app {a b : List α} {P : List α → Prop} (h : a.length + b.length ≤ 68719476736) (g : P (a ++ b)) : T (app a b) P := ⟨_, zuQ h, g⟩
theorem T.places {body : Int → Option (Int ⊕ β)} (n : Nat) (hn : n < 1099511627776) (G : β → Prop) (hr : ∀ k : Nat, k ≤ n → T (body (k : Int)) fun r => match r with
  | .inl s' => s' = ((k + 1 : Nat) : Int) ∧ k < n
  | .inr b => G b) : T (Go.Proofs.YtebbcofojchkpaaGreatDoor.iter body 0) G := by
 refine T.iter (fun i => 0 ≤ i ∧ i ≤ (n : Int)) (fun i => (n - i).toNat) G (fun i hi => ?_) ⟨by omega, by omega⟩ (by omega)
 obtain ⟨k, rfl⟩ : ∃ k : Nat, i = k := ⟨i.toNat, by omega⟩
 refine (hr k (by omega)).mono fun r h => ?_
 cases r with
 | inl s => obtain ⟨rfl, h⟩ := h; exact ⟨⟨by omega, by omega⟩, by omega⟩
 | inr b => exact h
end
theorem yvN (s : ByteArray) (pos : Nat) : 1 ≤ (Utf8.decode s pos).2 := by
 unfold Utf8.decode
 simp only []
 repeat' split
 all_goals simp
theorem yzH {l : Bs} {p : Nat} (h : p < l.length) : p < nxP l p := by
 unfold nxP dec
 rw [zkS h]
 have := yvN ⟨l.toArray⟩ p
 omega
theorem xaZ (s cs : Bs) (h : s.length ≤ 1048576) (h2 : cs.length < 4294967281) (h3 : cs.all (fun b => decide (b.toNat < 128)) = true) : T (zaB.trim s cs) fun _ => True := by
 refine ⟨Lib.trimS s cs, ?_, trivial⟩
 show yjS s cs = _
 unfold yjS
 rw [decide_eq_true (show s.length ≤ 9223372036854775807 by omega), decide_eq_true h2, h3]
 rfl
theorem of_t (v : Bs) (n : Int) (cs : Bs) (hn : n ≤ 1048576) (h2 : cs.length < 4294967281) (h3 : cs.all (fun b => decide (b.toNat < 128)) = true) : T (zoB zaB v n cs) fun _ => True := by
 unfold zoB
 refine T.bif (fun _ => T.dif (fun h => ?_) fun _ => T.ok trivial) fun _ => T.ok trivial
 exact (xaZ v cs (by omega) h2 h3).bind fun _ _ => T.ok trivial
theorem yxG (s : Bs) : T (zhD zaB s) fun _ => True := by
 unfold zhD
 exact (of_t s _ _ (by decide) (by decide) (by decide)).bind fun _ _ => T.ok trivial
theorem ylI (s : Bs) : T (zeS zaB s) fun _ => True := by
 unfold zeS
 exact (of_t s _ _ (by decide) (by decide) (by decide)).bind fun _ _ => T.ok trivial
theorem yiP {α : Type} {s : List α} {n : Int} (h0 : 0 ≤ n) (h : n ≤ (s.length : Int)) : T (subH s n) fun _ => True := by
 obtain ⟨k, rfl⟩ : ∃ k : Nat, n = k := ⟨n.toNat, by omega⟩
 unfold subH
 rw [decide_eq_true (show (0 : Int) ≤ (k : Int) by omega), decide_eq_true h]
 exact ⟨_, rfl, trivial⟩
theorem ytE {α : Type} {s : List α} {n : Int} (h0 : 0 ≤ n) (h : n ≤ (s.length : Int)) : T (subL s n) fun _ => True := by
 obtain ⟨k, rfl⟩ : ∃ k : Nat, n = k := ⟨n.toNat, by omega⟩
 unfold subL
 rw [decide_eq_true (show (0 : Int) ≤ (k : Int) by omega), decide_eq_true h]
 exact ⟨_, rfl, trivial⟩
theorem ytT (s : Bs) : T (zcN zaB s) fun _ => True := by
 unfold zcN
 refine T.dif (fun h => (yiP (by omega) (by omega)).bind fun _ _ => T.bif (fun _ => (ytE (by omega) (by omega)).bind fun _ _ => (ylI _).bind fun _ _ => T.ok trivial) fun _ => (yiP (by omega) (by omega)).bind fun _ _ => T.bif (fun _ => (ytE (by omega) (by omega)).bind fun _ _ => (ylI _).bind fun _ _ => T.ok trivial) fun _ => T.ok trivial) fun _ => T.ok trivial
theorem xaF (s : Bs) : T (zlZ zaB s) fun _ => True := by
 unfold zlZ
 exact (ytT s).bind fun _ _ => T.ok trivial
theorem yzZ (l : List Bs) (h : l.length ≤ 1048576) : T (zaQ zaB l) fun _ => True := by
 unfold zaQ zkC
 refine T.bind (Q := fun _ => True) (T.bind (Q := fun _ => True) (T.places l.length (by omega) (fun _ => True) fun k hk => ?_) fun r _ => ?_) fun _ _ => T.ok trivial
 ·unfold zoL
  refine T.dif (fun h2 => ?_) fun _ => T.ok trivial
  refine (T.ix (by omega) h2).bind fun _ _ => (xaF _).bind fun _ _ => T.bif (fun _ => T.ok trivial) fun _ => T.ok ⟨?_, by omega⟩
  rw [zmP (by omega) (by omega)]; omega
 ·cases r <;> exact T.ok trivial
theorem xbQ (s : Bs) : T (zgS zaB s) fun _ => True := by
 unfold zgS
 refine T.bif (fun _ => T.dif (fun h => ?_) fun _ => T.ok trivial) fun _ => T.ok trivial
 refine T.bind (Q := fun _ => True) ?_ fun _ _ => T.ok trivial
 unfold zhR zjD zjB
 refine T.bind (Q := fun _ => True) (T.bind (Q := fun _ => True) (T.bind (Q := fun _ => True) (T.iter (fun x => x.1 = s ∧ 0 ≤ x.2) (fun x => s.length - x.2.toNat) (fun _ => True) (fun x hx => ?_) ⟨rfl, Int.le_refl _⟩ (by simp; omega)) fun r _ => ?_) fun _ _ => T.ok trivial) fun _ _ => T.ok trivial
 ·obtain ⟨v, i⟩ := x
  obtain ⟨rfl, h0⟩ := hx
  unfold znE
  simp only at h0 ⊢
  refine T.dif (fun h2 => ?_) fun _ => T.ok trivial
  refine T.bind (Q := fun _ => True) ?_ fun _ _ => T.bif (fun _ => T.ok trivial) fun _ => T.ok ⟨⟨rfl, by simp⟩, ?_⟩
  ·unfold zoH
   exact T.dif (fun _ => T.ok trivial) fun _ => T.ok trivial
  ·have := yzH h2
   simp only [Int.toNat_natCast]
   omega
 ·cases r <;> exact T.ok trivial
theorem yzW (n a b : Int) : zaM zaB n a b = some (decide (a ≤ n) && decide (n ≤ b)) := by
 unfold zaM
 by_cases h : n ≥ a
 ·rw [zkS h]; simp [show a ≤ n from h]
 ·rw [zoU h]; simp [show ¬ a ≤ n from h]
theorem yiS {c a b : Bool} : (bif c then some a else some b) = some (bif c then a else b) := by cases c <;> rfl
theorem yvW {c a : Bool} : (bif c then a else false) = (c && a) := by cases c <;> rfl
abbrev L8 : Type := Bs
abbrev Nd : Type := Int × Int × Int × L8 × L8 × L8 × List L8 × Int × Int × Bool × Bool × List L8 × Int × L8 × L8
abbrev Es : Type := List (Int × Nd)
abbrev npar (n : Nd) : Int := n.2.2.1
abbrev zdR (n : Nd) : List L8 := n.2.2.2.2.2.2.1
abbrev nexp (n : Nd) : Int := n.2.2.2.2.2.2.2.2.1
abbrev ycI (n : Nd) : Bool := n.2.2.2.2.2.2.2.2.2.1
abbrev zpH (n : Nd) : Bool := n.2.2.2.2.2.2.2.2.2.2.1
abbrev nact (n : Nd) : List L8 := n.2.2.2.2.2.2.2.2.2.2.2.1
abbrev nsec (n : Nd) : L8 := n.2.2.2.2.2.2.2.2.2.2.2.2.2.1
abbrev xaP (n : Nd) : L8 := n.2.2.2.2.2.2.2.2.2.2.2.2.2.2
def scB (s : L8) : Bool := (zhD zaB s).getD false
def nmB (s : L8) : Bool := (zeS zaB s).getD false
def prB (s : L8) : Bool := (zcN zaB s).getD false
def txB (s : L8) : Bool := (zgS zaB s).getD false
def axB (l : List L8) : Bool := (zaQ zaB l).getD false
theorem yxU (s : L8) : zhD zaB s = some (scB s) := (yxG s).get
theorem xdE (s : L8) : zeS zaB s = some (nmB s) := (ylI s).get
theorem xcI (s : L8) : zcN zaB s = some (prB s) := (ytT s).get
theorem xdC (s : L8) : zgS zaB s = some (txB s) := (xbQ s).get
theorem xcQ {l : List L8} (h : l.length ≤ 1048576) : zaQ zaB l = some (axB l) := (yzZ l h).get
def scpF (l : List L8) : Nat → Nat → Bool
 | 0, _ => true
 | f + 1, i => match l[i]? with
  | none => true
  | some s => scB s && (decide (i = 0) || !(match l[i - 1]? with | none => true | some q => Op.bytesLess s q || s == q)) && scpF l f (i + 1)
theorem ynF (n : Nd) (h : (zdR n).length ≤ 1048576) : ∀ (f i k : Nat), f + i = (zdR n).length → f < k →
  zqQ (fun x : Int × Nd => zgM zaB n x.1 x.2.1 x.2.2.1 x.2.2.2.1 x.2.2.2.2.1 x.2.2.2.2.2.1 x.2.2.2.2.2.2.1 x.2.2.2.2.2.2.2.1 x.2.2.2.2.2.2.2.2.1 x.2.2.2.2.2.2.2.2.2.1 x.2.2.2.2.2.2.2.2.2.2.1 x.2.2.2.2.2.2.2.2.2.2.2.1 x.2.2.2.2.2.2.2.2.2.2.2.2.1 x.2.2.2.2.2.2.2.2.2.2.2.2.2.1 x.2.2.2.2.2.2.2.2.2.2.2.2.2.2.1 x.2.2.2.2.2.2.2.2.2.2.2.2.2.2.2) k ((i : Int), n) = some (bif scpF (zdR n) f i then Sum.inr n else Sum.inl false)
 | 0, i, k + 1, hf, _ => by
  rw [zhA (b := Sum.inr n)]
  ·rfl
  ·unfold zgM
   rw [zoU (show ¬ (i : Int) < ((zdR n).length : Int) by omega)]
 | f + 1, i, k + 1, hf, hk => by
  have hi : i < (zdR n).length := by omega
  unfold scpF
  rw [List.getElem?_eq_getElem hi]
  simp only []
  cases hs : scB (zdR n)[i] with
  | false =>
   simp only [Bool.false_and, cond_false]
   refine zhA ?_
   unfold zgM
   simp only []
   rw [zkS (show (i : Int) < ((zdR n).length : Int) by omega), zmM rfl hi, zaA, yxU, hs, zaA]
   rfl
  | true =>
   simp only [Bool.true_and]
   by_cases h0 : i = 0
   ·subst h0
    simp only [decide_true, Bool.true_or, Bool.true_and]
    rw [zdX (s' := (((1 : Nat) : Int), n))]
    ·exact ynF n h f 1 k (by omega) (by omega)
    ·unfold zgM
     simp only []
     rw [zkS (show ((0 : Nat) : Int) < ((zdR n).length : Int) by omega), zmM rfl hi, zaA, yxU, hs, zaA]
     rfl
   ·have hp : i - 1 < (zdR n).length := by omega
    rw [List.getElem?_eq_getElem hp]
    simp only [decide_eq_false h0, Bool.false_or]
    have e1 : w64 ((i : Int) - 1) = ((i - 1 : Nat) : Int) := by rw [zmP (by omega) (by omega)]; omega
    have e2 : w64 ((i : Int) + 1) = ((i + 1 : Nat) : Int) := by rw [zmP (by omega) (by omega)]; omega
    have hb : zgM zaB n (i : Int) n.1 n.2.1 n.2.2.1 n.2.2.2.1 n.2.2.2.2.1 n.2.2.2.2.2.1 n.2.2.2.2.2.2.1 n.2.2.2.2.2.2.2.1 n.2.2.2.2.2.2.2.2.1 n.2.2.2.2.2.2.2.2.2.1 n.2.2.2.2.2.2.2.2.2.2.1 n.2.2.2.2.2.2.2.2.2.2.2.1 n.2.2.2.2.2.2.2.2.2.2.2.2.1 n.2.2.2.2.2.2.2.2.2.2.2.2.2.1 n.2.2.2.2.2.2.2.2.2.2.2.2.2.2 = bif (Op.bytesLess (zdR n)[i] (zdR n)[i - 1] || (zdR n)[i] == (zdR n)[i - 1]) then some (.inr (.inl false)) else some (.inl (((i + 1 : Nat) : Int), n)) := by
     unfold zgM
     rw [zkS (show (i : Int) < ((zdR n).length : Int) by omega), zmM rfl hi, zaA, yxU, hs, zaA]
     simp only [Bool.not_true, cond_false]
     rw [zkS (show (i : Int) > 0 by omega), e1, zmM rfl hp, zaA, e2]
    cases hq : (Op.bytesLess (zdR n)[i] (zdR n)[i - 1] || (zdR n)[i] == (zdR n)[i - 1]) with
    | true =>
     rw [hq] at hb
     simp only [Bool.not_true, Bool.false_and, cond_false]
     exact zhA hb
    | false =>
     rw [hq] at hb
     simp only [Bool.not_false, Bool.true_and]
     rw [zdX (s' := (((i + 1 : Nat) : Int), n)) hb]
     exact ynF n h f (i + 1) k (by omega) (by omega)
def inB (n a b : Int) : Bool := decide (a ≤ n) && decide (n ≤ b)
def mayB (n : Nd) : Bool := scpF (zdR n) (zdR n).length 0 && inB n.2.1 1 5 && decide (n.2.2.1 ≥ 0) && prB n.2.2.2.1 && (n.2.2.2.2.1 == ([] : L8) || nmB n.2.2.2.2.1) && (n.2.2.2.2.2.1 == ([] : L8) || txB n.2.2.2.2.2.1) && decide (((zdR n).length : Int) ≤ 16) && inB n.2.2.2.2.2.2.2.1 0 1099511627776 && inB (nexp n) 0 1099511627776 && decide (((nact n).length : Int) ≤ 4) && !axB (nact n) && inB n.2.2.2.2.2.2.2.2.2.2.2.2.1 0 3 && inB ((nsec n).length : Int) 1 64 && decide (((xaP n).length : Int) ≤ 256)
theorem ylV (n : Nd) (h : (zdR n).length ≤ 1048576) : zeQ zaB n = some (mayB n) := by
 unfold zeQ
 rw [show iter _ ((0 : Int), n) = _ from ynF n h (zdR n).length 0 FU (by omega) (by unfold FU; omega), zaA]
 unfold mayB
 cases scpF (zdR n) (zdR n).length 0 with
 | false => simp only [cond_false, Bool.false_and]
 | true =>
  simp only [cond_true, Bool.true_and, yzW, xcI, xdE, xdC, zaA]
  by_cases h4 : ((nact n).length : Int) ≤ 4
  ·rw [xcQ (l := n.2.2.2.2.2.2.2.2.2.2.2.1) (by have : ((n.2.2.2.2.2.2.2.2.2.2.2.1).length : Int) ≤ 4 := h4; omega)]
   simp only [zaA, yiS]
   simp only [yvW]
   unfold inB
   congr 1
   cases (n.2.2.2.2.1 == ([] : L8)) <;> cases nmB n.2.2.2.2.1 <;> cases (n.2.2.2.2.2.1 == ([] : L8)) <;> cases txB n.2.2.2.2.2.1 <;> simp only [cond_true, cond_false, Bool.false_and, Bool.true_and, Bool.and_false, Bool.or_true, Bool.or_false, Bool.true_or, Bool.false_or, Bool.and_assoc]
  ·have h5 : decide (((n.2.2.2.2.2.2.2.2.2.2.2.1).length : Int) ≤ 4) = false := decide_eq_false h4
   simp only [h5, cond_false, zaA, yiS, Bool.and_false, Bool.false_and, Bool.cond_self]
section
variable {S R : Type}
theorem yiH {f : S → List (Option (S ⊕ R))} (hne : ∀ s, f s ≠ []) : ∀ (n : Nat) {s : S} {r r' : R} {m : Nat}, Rng f n s r → Rng f m s r' → r = r'
 | 0, _, _, _, _, h, _ => h.elim
 | _ + 1, _, _, _, 0, _, h => h.elim
 | n + 1, s, r, r', m + 1, h, h' => by
  obtain ⟨o, ho⟩ := List.exists_mem_of_ne_nil _ (hne s)
  have h1 := h o ho
  have h2 := h' o ho
  match o, h1, h2 with
  | some (.inl s'), h1, h2 => exact yiH hne n h1 h2
  | some (.inr r0), h1, h2 => exact h1.symm.trans h2
theorem yyD {f : S → List (Option (S ⊕ R))} (hne : ∀ s, f s ≠ []) {n : Nat} {s : S} {r : R} (h : Rng f n s r) : rngA f s = some r := by
 unfold rngA
 have hx : ∃ r n, Rng f n s r := ⟨r, n, h⟩
 rw [dif_pos hx]
 obtain ⟨m, hm⟩ := hx.choose_spec
 rw [yiH hne m hm h]
theorem ywL {α γ : Type} (l : List α) (d : γ) (F : α → γ) : rngL l d F ≠ [] := by
 unfold rngL
 cases l <;> simp
theorem xcL {α γ : Type} {l : List α} {d : γ} {F : α → γ} {o : γ} (h : o ∈ rngL l d F) : (l = [] ∧ o = d) ∨ ∃ p ∈ l, o = F p := by
 unfold rngL at h
 cases l with
 | nil => exact .inl ⟨rfl, List.mem_singleton.1 h⟩
 | cons x l =>
  obtain ⟨p, hp, rfl⟩ := List.mem_map.1 h
  exact .inr ⟨p, hp, rfl⟩
theorem ygW {γ : Type} {es : List (Int × γ)} {left : List Int} {p : Int × γ} : p ∈ rngC keqI es left ↔ p ∈ es ∧ p.1 ∈ left := by
 unfold rngC
 rw [List.mem_filter, List.any_eq_true]
 constructor
 ·rintro ⟨h, k, hk, e⟩
  rw [zcL.1 e]; exact ⟨h, hk⟩
 ·rintro ⟨h, hk⟩
  exact ⟨h, _, hk, zcL.2 rfl⟩
theorem zuT {left : List Int} {k j : Int} : j ∈ rngD keqI left k ↔ j ∈ left ∧ j ≠ k := by
 unfold rngD
 rw [List.mem_filter, Bool.not_eq_true', ← Bool.not_eq_true, zcL]
theorem ysE {left : List Int} {k : Int} (h : k ∈ left) : (rngD keqI left k).length < left.length := by
 unfold rngD
 refine List.length_filter_lt_length_iff_exists.2 ⟨k, h, ?_⟩
 rw [zcL.2 rfl]; simp
theorem zuN {γ : Type} {f : S → List (Option (S ⊕ R))} (I : S → Prop) (es : S → List (Int × γ)) (left : S → List Int) {d : S → Option (S ⊕ R)} {F : S → Int × γ → Option (S ⊕ R)} {r : R}
  (hf : ∀ s, f s = rngL (rngC keqI (es s) (left s)) (d s) (F s))
  (h1 : ∀ s, I s → (∀ p ∈ es s, p.1 ∉ left s) → d s = some (.inr r))
  (h2 : ∀ s p, I s → p ∈ es s → p.1 ∈ left s → (∃ s', F s p = some (.inl s') ∧ I s' ∧ left s' = rngD keqI (left s) p.1) ∨ F s p = some (.inr r)) {s : S} (hs : I s) : rngA f s = some r := by
 have key : ∀ n s, I s → (left s).length < n → Rng f n s r := by
  intro n
  induction n with
  | zero => intro s _ h; omega
  | succ n ih =>
   intro s hs hn o ho
   rw [hf] at ho
   rcases xcL ho with ⟨h3, rfl⟩ | ⟨p, hp, rfl⟩
   ·rw [h1 s hs fun p hp hl => by have := ygW.2 ⟨hp, hl⟩; rw [h3] at this; cases this]
    rfl
   ·obtain ⟨hp, hl⟩ := ygW.1 hp
    rcases h2 s p hs hp hl with ⟨s', e, hI, hle⟩ | e
    ·rw [e]
     refine ih s' hI ?_
     rw [hle]
     have := ysE hl
     omega
    ·rw [e]; rfl
 exact yyD (fun s => by rw [hf]; exact ywL _ _ _) (key _ s hs (Nat.lt_succ_self _))
end
abbrev zN : Nd := ((0 : Int), (0 : Int), (0 : Int), ([] : L8), ([] : L8), ([] : L8), ([] : List L8), (0 : Int), (0 : Int), false, false, ([] : List L8), (0 : Int), ([] : L8), ([] : L8))
def Lst (n : Nd) : Prop := (zdR n).length ≤ 1048576 ∧ (nact n).length ≤ 1048576
theorem own_ok {n : Nd} (h : Lst n) : zeX zaB n = some n := by
 have h1 : n.2.2.2.2.2.2.1.length ≤ 1048576 := h.1
 have h2 : n.2.2.2.2.2.2.2.2.2.2.2.1.length ≤ 1048576 := h.2
 unfold zeX
 rw [zmA _ (by omega), zaA, zmA _ (by omega), zaA]
structure Ok (nx : Int) (es : Es) : Prop where
 rises : zmZ es
 ids : ∀ p ∈ es, p.2.1 = p.1 ∧ 1 ≤ p.1 ∧ p.1 < nx
 par : ∀ p ∈ es, 0 ≤ npar p.2 ∧ npar p.2 < p.1
 may : ∀ p ∈ es, mayB p.2 = true
 uniq : ∀ p ∈ es, ∀ q ∈ es, nsec p.2 = nsec q.2 → p = q
 next : 1 ≤ nx ∧ nx ≤ 99999999
 len : es.length ≤ 256
theorem zaU {a b : Bool} (h : (a && b) = true) : a = true := by cases a <;> simp_all
theorem ymK {n : Nd} (h : mayB n = true) : (zdR n).length ≤ 16 ∧ (nact n).length ≤ 4 ∧ 1 ≤ (nsec n).length ∧ (nsec n).length ≤ 64 ∧ (xaP n).length ≤ 256 ∧ 0 ≤ npar n := by
 unfold mayB inB at h
 simp only [Bool.and_eq_true, decide_eq_true_eq] at h
 exact ⟨by omega, by omega, by omega, by omega, by omega, show 0 ≤ n.2.2.1 by omega⟩
theorem Ok.lst {nx : Int} {es : Es} (h : Ok nx es) {p : Int × Nd} (hp : p ∈ es) : Lst p.2 := by
 have := ymK (h.may p hp)
 exact ⟨by omega, by omega⟩
def zuE (es : Es) (sec : L8) : Option Nd := (es.find? fun p => nsec p.2 == sec).map (·.2)
theorem ztA {nx : Int} {es : Es} (h : Ok nx es) (sec : L8) : zbE zaB sec nx es = some ((zuE es sec).getD zN, (zuE es sec).isSome, nx, es) := by
 unfold zbE zuE
 cases hf : es.find? (fun p => nsec p.2 == sec) with
 | none =>
  have hn : ∀ p ∈ es, (nsec p.2 == sec) = false := fun p hp => by
   have := List.find?_eq_none.1 hf p hp
   simpa using this
  refine Eq.trans (bind_ok (a := Sum.inl (nx, es, 0, 0, 0, [], [], [], 0, 0, false, false, 0, [], [])) ?_) rfl
  refine zuN (fun s => ∃ left, s = (nx, es, 0, 0, 0, [], [], [], 0, 0, false, false, 0, [], [], left)) (fun s => s.2.1) (fun s => s.2.2.2.2.2.2.2.2.2.2.2.2.2.2.2) (hf := fun s => rfl) ?_ ?_ ⟨_, rfl⟩
  ·rintro s ⟨left, rfl⟩ _
   rfl
  ·rintro s p ⟨left, rfl⟩ hp hl
   refine .inl ⟨_, ?_, ⟨_, rfl⟩, rfl⟩
   simp only []
   rw [zgP h.rises (k := p.1) (v := p.2) hp, zaA]
   have := hn p hp
   simp only [nsec] at this
   rw [this]
   rfl
 | some q =>
  have hq := List.mem_of_find?_eq_some hf
  have hs : (nsec q.2 == sec) = true := List.find?_some (p := fun p : Int × Nd => nsec p.2 == sec) hf
  refine Eq.trans (bind_ok (a := Sum.inr (true, nx, es, q.2)) ?_) rfl
  refine zuN (fun s => ∃ left, s = (nx, es, 0, 0, 0, [], [], [], 0, 0, false, false, 0, [], [], left) ∧ q.1 ∈ left) (fun s => s.2.1) (fun s => s.2.2.2.2.2.2.2.2.2.2.2.2.2.2.2) (hf := fun s => rfl) ?_ ?_ ⟨_, rfl, List.mem_map.2 ⟨q, hq, rfl⟩⟩
  ·rintro s ⟨left, rfl, hl⟩ hn
   exact absurd hl (hn q hq)
  ·rintro s p ⟨left, rfl, hl⟩ hp hpl
   simp only []
   rw [zgP h.rises (k := p.1) (v := p.2) hp, zaA]
   cases he : p.2.2.2.2.2.2.2.2.2.2.2.2.2.2.1 == sec with
   | true =>
    have e : p = q := h.uniq p hp q hq (by
     have h1 : nsec p.2 = sec := beq_iff_eq.1 he
     have h2 : nsec q.2 = sec := beq_iff_eq.1 hs
     rw [h1, h2])
    subst e
    rw [own_ok (h.lst hp)]
    exact .inr rfl
   | false =>
    refine .inl ⟨_, rfl, ⟨_, rfl, zuT.2 ⟨hl, fun e => ?_⟩⟩, rfl⟩
    have e2 : p = q := by
     have := zgP h.rises (k := p.1) (v := p.2) hp
     rw [← e, zgP h.rises (k := q.1) (v := q.2) hq] at this
     exact Prod.ext e.symm (osi this).symm
    subst e2
    rw [show (p.2.2.2.2.2.2.2.2.2.2.2.2.2.2.1 == sec) = true from hs] at he
    cases he
def pth (es : Es) : Nat → Int → List Int
 | 0, _ => []
 | f + 1, id => match mget keqI es id with
  | none => []
  | some n => id :: pth es f (npar n)
theorem zzS (es : Es) (f : Nat) (id : Int) : pth es (f + 1) id = match mget keqI es id with
  | none => []
  | some n => id :: pth es f (npar n) := rfl
def ziN (es : Es) (id : Int) : List Int := pth es id.toNat id
theorem ytW {nx : Int} {es : Es} (h : Ok nx es) {id : Int} (hi : id ≤ 0) : mhas keqI es id = false := by
 cases hh : mhas keqI es id with
 | false => rfl
 | true =>
  obtain ⟨v, hv⟩ := zhW.1 hh
  have := (h.ids _ hv).2.1
  simp only at this
  omega
theorem ynZ (es : Es) : ∀ f id, (pth es f id).length ≤ f
 | 0, _ => Nat.le_refl _
 | f + 1, id => by
  unfold pth
  split
  ·simp
  ·simp only [List.length_cons]
   have := ynZ es f (npar ‹_›)
   omega
theorem ybM {nx : Int} {es : Es} (h : Ok nx es) : ∀ (f g : Nat) (id : Int), id.toNat ≤ f → id.toNat ≤ g → pth es f id = pth es g id
 | 0, 0, _, _, _ => rfl
 | 0, g + 1, id, hf, _ => by
  unfold pth
  rw [zpW (ytW h (by omega))]
 | f + 1, 0, id, _, hg => by
  unfold pth
  rw [zpW (ytW h (by omega))]
 | f + 1, g + 1, id, hf, hg => by
  unfold pth
  cases hm : mget keqI es id with
  | none => rfl
  | some n =>
   have hp := zfJ hm
   have h1 := (h.par _ hp).2
   have h2 := (h.ids _ hp).2.1
   simp only at h1 h2 ⊢
   rw [ybM h f g (npar n) (by omega) (by omega)]
theorem yjX {nx : Int} {es : Es} (h : Ok nx es) {id : Int} {n : Nd} (hm : mget keqI es id = some n) : ziN es id = id :: ziN es (npar n) := by
 have hp := zfJ hm
 have h1 := (h.par _ hp).2
 have h2 := (h.ids _ hp).2.1
 simp only at h1 h2
 unfold ziN
 obtain ⟨f, hf⟩ : ∃ f, id.toNat = f + 1 := ⟨id.toNat - 1, by omega⟩
 rw [hf]
 show (match mget keqI es id with
  | none => []
  | some n => id :: pth es f (npar n)) = _
 rw [hm]
 simp only []
 rw [ybM h f (npar n).toNat (npar n) (by omega) (by omega)]
theorem ybC {es : Es} {id : Int} (hm : mget keqI es id = none) : ziN es id = [] := by
 unfold ziN
 cases id.toNat with
 | zero => rfl
 | succ f => unfold pth; rw [hm]
theorem ymW {nx nx' : Int} {es : Es} (h : Ok nx es) : ∀ (f : Nat) (id : Int) (acc : List Int) (k : Nat), id.toNat ≤ f → f < k → acc.length + f ≤ 68719476736 →
  zqQ (fun x : Bool × Int × Es × List Int × Nd => ziB zaB x.1 x.2.1 x.2.2.1 x.2.2.2.1 x.2.2.2.2.1 x.2.2.2.2.2.1 x.2.2.2.2.2.2.1 x.2.2.2.2.2.2.2.1 x.2.2.2.2.2.2.2.2.1 x.2.2.2.2.2.2.2.2.2.1 x.2.2.2.2.2.2.2.2.2.2.1 x.2.2.2.2.2.2.2.2.2.2.2.1 x.2.2.2.2.2.2.2.2.2.2.2.2.1 x.2.2.2.2.2.2.2.2.2.2.2.2.2.1 x.2.2.2.2.2.2.2.2.2.2.2.2.2.2.1 x.2.2.2.2.2.2.2.2.2.2.2.2.2.2.2.1 x.2.2.2.2.2.2.2.2.2.2.2.2.2.2.2.2.1 x.2.2.2.2.2.2.2.2.2.2.2.2.2.2.2.2.2.1 x.2.2.2.2.2.2.2.2.2.2.2.2.2.2.2.2.2.2) k (mhas keqI es id, nx', es, acc, zgZ keqI es id zN) = some (nx', es, acc ++ pth es f id)
 | f, id, acc, k + 1, hf, hk, ha => by
  cases hh : mhas keqI es id with
  | false =>
   have e : pth es f id = [] := by
    cases f with
    | zero => rfl
    | succ f => unfold pth; rw [zpW hh]
   rw [e, List.append_nil]
   exact zhA rfl
  | true =>
   obtain ⟨n, hn, hp⟩ := zlX hh
   have h1 := (h.par _ hp).2
   have h2 := h.ids _ hp
   simp only at h1 h2
   rw [zhT hn]
   obtain ⟨f, rfl⟩ : ∃ g, f = g + 1 := ⟨f - 1, by omega⟩
   rw [zdX (s' := (mhas keqI es (npar n), nx', es, acc ++ [id], zgZ keqI es (npar n) zN))]
   ·rw [ymW h f (npar n) (acc ++ [id]) k (by omega) (by omega) (by simp; omega)]
    rw [zzS, hn]
    simp
   ·unfold ziB
    simp only [cond_true]
    rw [zuQ (by simp; omega), zaA, h2.1]
theorem ycP {nx nx' : Int} {es : Es} (h : Ok nx es) (id : Int) : zbD zaB id nx' es = some (ziN es id, nx', es) := by
 unfold zbD
 simp only []
 cases hh : mhas keqI es id with
 | false =>
  rw [ybC (zpW hh), show iter _ (false, nx', es, ([] : List Int), zgZ keqI es id zN) = some (nx', es, []) from zhA rfl, zaA]
 | true =>
 have hi : id ≤ 68719476736 := by
  obtain ⟨v, hv⟩ := zhW.1 hh
  have h1 := h.ids _ hv
  have h2 := h.next
  simp only at h1
  omega
 rw [← hh]
 rw [show iter _ (mhas keqI es id, nx', es, ([] : List Int), zgZ keqI es id zN) = _ from ymW h id.toNat id [] FU (Nat.le_refl _) (by unfold FU; omega) (by simp; omega), zaA]
 rfl
theorem zvC {nx : Int} {es : Es} (h : Ok nx es) (id : Int) : (ziN es id).length ≤ 99999999 := by
 cases hm : mget keqI es id with
 | none => rw [ybC hm]; simp
 | some n =>
  have h1 := h.ids _ (zfJ hm)
  have h2 := h.next
  simp only at h1
  have := ynZ es id.toNat id
  unfold ziN
  omega
def zvI (es : Es) (k : Int) : Bool := ycI (zgZ keqI es k zN)
theorem ysQ {α : Type} {l : List α} {p : α → Bool} {k : Nat} (hk : k < l.length) (h : p l[k] = true) : l.any p = true := List.any_eq_true.2 ⟨_, List.getElem_mem hk, h⟩
theorem yiI {α : Type} {l : List α} {p : α → Bool} {k : Nat} (hk : k < l.length) (h : (l.take k).any p = false) (h2 : p l[k] = false) : (l.take (k + 1)).any p = false := by
 rw [List.take_succ_eq_append_getElem hk, List.any_append, h, List.any_cons, h2]; rfl
theorem ywC {nx : Int} {es : Es} {l : List Int} (hl : l.length ≤ 99999999) : zeH zaB l nx es = some (l.any (zvI es), nx, es) := by
 have h : T (iter (fun x : Int × Int × Es => ziP zaB l x.1 x.2.1 x.2.2) ((0 : Int), nx, es)) fun r => match r with
   | .inl v => v.2 = (nx, es) ∧ 0 ≤ v.1 ∧ l.any (zvI es) = true
   | .inr v => v = (nx, es) ∧ l.any (zvI es) = false := by
  refine T.iter (fun x => x.2 = (nx, es) ∧ 0 ≤ x.1 ∧ x.1 ≤ (l.length : Int) ∧ (l.take x.1.toNat).any (zvI es) = false) (fun x => l.length - x.1.toNat) _ (fun x hx => ?_) ⟨rfl, Int.le_refl _, by simp, rfl⟩ (by simp; omega)
  obtain ⟨i, v⟩ := x
  obtain ⟨h1, h2, h3, h4⟩ := hx
  simp only at h1 h2 h3 h4
  subst h1
  obtain ⟨k, rfl⟩ : ∃ k : Nat, i = k := ⟨i.toNat, by omega⟩
  rw [Int.toNat_natCast] at h4
  unfold ziP
  simp only []
  refine T.dif (fun h5 => ?_) fun h5 => T.ok ⟨rfl, ?_⟩
  ·have hk : k < l.length := by omega
   rw [zmM rfl hk, zaA]
   unfold zhI
   simp only [zaA]
   refine T.bif (fun h6 => T.ok ⟨rfl, by simp, ysQ hk h6⟩) fun h6 => T.ok ⟨⟨rfl, ?_, ?_, ?_⟩, ?_⟩
   ·simp only []; rw [zmP (by omega) (by omega)]; omega
   ·simp only []; rw [zmP (by omega) (by omega)]; omega
   ·simp only []
    rw [zmP (by omega) (by omega), show ((k : Int) + 1).toNat = k + 1 by omega]
    exact yiI hk h4 h6
   ·simp only []; rw [zmP (by omega) (by omega)]; omega
  ·rw [List.take_of_length_le (by omega)] at h4
   exact h4
 unfold zeH ziZ
 obtain ⟨r, h1, h2⟩ := h
 rw [h1, zaA]
 cases r with
 | inl v =>
  obtain ⟨i, v⟩ := v
  obtain ⟨h3, h4, h5⟩ := h2
  simp only at h3 h4 h5
  subst h3
  rw [h5]
  simp only [zaA]
  rw [decide_eq_true (show i ≥ 0 by omega)]
 | inr v =>
  obtain ⟨h3, h5⟩ := h2
  subst h3
  rw [h5]
  rfl
def zpP (es : Es) (id : Int) : Bool := (ziN es id).any (zvI es)
theorem ycF {nx nx' : Int} {es : Es} (h : Ok nx es) (id : Int) : zbK zaB id nx' es = some (zpP es id, nx', es) := by
 unfold zbK
 rw [ycP h, zaA, ywC (zvC h id), zaA]
 rfl
def canB (n : Nd) (now : Int) : Bool := !ycI n && !zpH n && decide (nexp n > now)
theorem yyP (n : Nd) (now : Int) : zoT zaB n now = some (canB n now) := by
 obtain ⟨a0, a1, a2, a3, a4, a5, a6, a7, a8, a9, a10, a11, a12, a13, a14⟩ := n
 unfold zoT canB
 simp only [ycI, zpH, nexp]
 cases a9 with
 | true => exact bind_ok (a := Sum.inl false) (zhA rfl)
 | false =>
  cases a10 with
  | true =>
   refine bind_ok (a := Sum.inl false) ?_
   show zqQ _ (1099511627774 + 1 + 1) _ = _
   rw [zdX rfl]
   exact zhA rfl
  | false =>
   by_cases h : a8 > now
   ·have e : decide (a8 > now) = true := decide_eq_true h
    refine Eq.trans (bind_ok (a := Sum.inr ()) ?_) (by rw [e]; rfl)
    show zqQ _ (1099511627772 + 1 + 1 + 1 + 1) _ = _
    rw [zdX rfl, zdX rfl, zdX (s' := ((3 : Int), a0, a1, a2, a3, a4, a5, a6, a7, a8, false, false, a11, a12, a13, a14))]
    ·exact zhA rfl
    ·show zkR zaB now 2 a0 a1 a2 a3 a4 a5 a6 a7 a8 false false a11 a12 a13 a14 = _
     unfold zkR zgQ
     simp only [e, zaA]
     rfl
   ·have e : decide (a8 > now) = false := decide_eq_false h
    refine Eq.trans (bind_ok (a := Sum.inl false) ?_) (by rw [e]; rfl)
    show zqQ _ (1099511627773 + 1 + 1 + 1) _ = _
    rw [zdX rfl, zdX rfl]
    refine zhA ?_
    show zkR zaB now 2 a0 a1 a2 a3 a4 a5 a6 a7 a8 false false a11 a12 a13 a14 = _
    unfold zkR zgQ
    simp only [e, zaA]
    rfl
def zuU (es : Es) (id now : Int) : Bool := match mget keqI es id with
 | none => false
 | some n => canB n now && !zpP es id
theorem zwB {nx nx' : Int} {es : Es} (h : Ok nx es) (id now : Int) : zaJ zaB id now nx' es = some (zuU es id now, nx', es) := by
 unfold zaJ zuU
 simp only []
 cases hh : mhas keqI es id with
 | false => rw [zpW hh]; rfl
 | true =>
  obtain ⟨n, hn, hp⟩ := zlX hh
  rw [hn, zhT hn]
  simp only [cond_true]
  rw [yyP, zaA]
  cases canB n now with
  | false => rfl
  | true =>
   simp only [cond_true, Bool.true_and]
   rw [ycF h, zaA]
theorem yeA : ∀ {l : List Int}, l.Pairwise (fun x y => x < y) → zwD l = true
 | [], _ => rfl
 | [x], _ => rfl
 | x :: y :: l, h => by
  have hc := List.pairwise_cons.1 h
  unfold zwD
  rw [decide_eq_true (hc.1 y List.mem_cons_self), yeA hc.2]
  rfl
theorem yhI {nx nx' : Int} {es : Es} (h : Ok nx es) : zcB zaB nx' es = some (nx', es, es.map (·.2)) := by
 have hl := h.len
 have hr : (es.map (·.1)).Pairwise (fun x y => x < y) := List.pairwise_map.2 h.rises
 have hk : zsX es = true := by
  unfold zsX
  rw [decide_eq_true (show es.length ≤ 1048576 by omega), yeA hr, Bool.and_true, Bool.true_and, List.all_eq_true]
  intro p hp
  have h1 := h.ids p hp
  have h2 := h.next
  rw [decide_eq_true (show -9223372036854775808 ≤ p.1 by omega), decide_eq_true (show p.1 ≤ 9223372036854775807 by omega)]
  rfl
 unfold zcB zuA zxG
 rw [decide_eq_true (show (0 : Int) ≤ (es.length : Int) by omega), decide_eq_true (show (es.length : Int) ≤ (LIM : Int) by unfold LIM; omega), Bool.and_self, zqU rfl, zaA, show mkL (0 : Int) _ = some ([] : List Nd) from yzG (n := 0) (by omega), zaA, zaA, hk]
 simp only [cond_true, zaA]
 rw [show iter _ ((0 : Int), nx', es, ([] : List Nd)) = some (nx', es, es.map (·.2)) from ?_, zaA]
 refine ycR (fun k => ((k : Int), nx', es, (es.take k).map (·.2))) es.length (by omega) _ (fun k hk => ?_) ?_
 ·unfold zhP
  simp only []
  have hm : (k : Int) < ((es.map (·.1)).length : Int) := by rw [List.length_map]; omega
  rw [zkS hm, zmM (i := k) rfl (by rw [List.length_map]; exact hk), zaA, List.getElem_map, zhT (zgP h.rises (k := es[k].1) (v := es[k].2) (List.getElem_mem hk)), own_ok (h.lst (List.getElem_mem hk)), zaA, zuQ (by simp; omega), zaA, zmP (by omega) (by omega), List.take_succ_eq_append_getElem hk, List.map_append]
  rfl
 ·unfold zhP
  simp only []
  rw [zoU (by simp), List.take_of_length_le (Nat.le_refl _)]
def chE (es : Es) (f : Int × Nd → Nd) : Es := es.map fun p => (p.1, f p)
theorem yrA (es : Es) (f : Int × Nd → Nd) : (chE es f).map (·.1) = es.map (·.1) := by
 unfold chE
 rw [List.map_map]
 rfl
theorem ycM (f : Int × Nd → Nd) (k : Int) : ∀ (es : Es), mget keqI (chE es f) k = (mget keqI es k).map fun n => f (k, n)
 | [] => rfl
 | (k', n) :: m => by
  show (bif keqI k' k then some (f (k', n)) else mget keqI (chE m f) k) = (bif keqI k' k then some n else mget keqI m k).map _
  cases hk : keqI k' k with
  | true => rw [zcL.1 hk]; rfl
  | false => simp only [cond_false, ycM f k m]
theorem zwA {es : Es} {f : Int × Nd → Nd} {p : Int × Nd} (h : p ∈ chE es f) : ∃ q ∈ es, p = (q.1, f q) := by
 obtain ⟨q, h1, h2⟩ := List.mem_map.1 h
 exact ⟨q, h1, h2.symm⟩
theorem yuH (es : Es) (f : Int × Nd → Nd) : (chE es f).length = es.length := List.length_map ..
structure zyF (es : Es) (f : Int × Nd → Nd) : Prop where
 id : ∀ p ∈ es, (f p).1 = p.2.1
 par : ∀ p ∈ es, npar (f p) = npar p.2
 sec : ∀ p ∈ es, nsec (f p) = nsec p.2
 may : ∀ p ∈ es, mayB p.2 = true → mayB (f p) = true
theorem Ok.ch {nx : Int} {es : Es} (h : Ok nx es) {f : Int × Nd → Nd} (k : zyF es f) : Ok nx (chE es f) where
 rises := yaL (yrA es f) h.rises
 ids p hp := by
  obtain ⟨q, hq, rfl⟩ := zwA hp
  have := h.ids q hq
  simp only [k.id q hq]
  exact this
 par p hp := by
  obtain ⟨q, hq, rfl⟩ := zwA hp
  have := h.par q hq
  simp only [k.par q hq]
  exact this
 may p hp := by
  obtain ⟨q, hq, rfl⟩ := zwA hp
  exact k.may q hq (h.may q hq)
 uniq p hp q hq e := by
  obtain ⟨p', hp', rfl⟩ := zwA hp
  obtain ⟨q', hq', rfl⟩ := zwA hq
  simp only [k.sec p' hp', k.sec q' hq'] at e
  rw [h.uniq p' hp' q' hq' e]
 next := h.next
 len := by rw [yuH]; exact h.len
theorem ytS {es : Es} {f : Int × Nd → Nd} (k : zyF es f) : ∀ (g : Nat) (id : Int), pth (chE es f) g id = pth es g id
 | 0, _ => rfl
 | g + 1, id => by
  rw [zzS, zzS, ycM]
  cases hm : mget keqI es id with
  | none => rfl
  | some n =>
   simp only [Option.map_some]
   rw [ytS k g, k.par _ (zfJ hm)]
theorem yqE {es : Es} {f : Int × Nd → Nd} (k : zyF es f) (id : Int) : ziN (chE es f) id = ziN es id := ytS k _ _
theorem ywT {es : Es} (h : zmZ es) {i : Int} {n v : Nd} (hm : mget keqI es i = some n) : mrep keqI es i v = chE es fun p => if p.1 = i then v else p.2 := by
 induction es with
 | nil => cases hm
 | cons p m ih =>
  obtain ⟨k', n'⟩ := p
  have hc := List.pairwise_cons.1 h
  show (bif keqI k' i then (i, v) :: m else (k', n') :: mrep keqI m i v) = (k', if k' = i then v else n') :: chE m _
  unfold mget at hm
  cases hk : keqI k' i with
  | true =>
   have e := zcL.1 hk
   rw [if_pos e, e]
   simp only [cond_true]
   congr 1
   refine (List.map_id m).symm.trans (List.map_congr_left fun p hp => ?_)
   have := hc.1 p hp
   simp only at this
   have e' : ¬ p.1 = i := by omega
   show p = (p.1, if p.1 = i then v else p.2)
   rw [if_neg e']
  | false =>
   rw [hk] at hm
   have e : ¬ k' = i := fun e => by rw [zcL.2 e] at hk; cases hk
   rw [if_neg e]
   simp only [cond_false]
   rw [ih hc.2 hm]
theorem zxD {es : Es} {f g : Int × Nd → Nd} (h : ∀ p ∈ es, f p = g p) : chE es f = chE es g :=
 List.map_congr_left fun p hp => by rw [h p hp]
def chI (es : Es) (id : Int) (g : Nd → Nd) : Es := chE es fun p => if p.1 = id then g p.2 else p.2
theorem zxA {es : Es} (h : zmZ es) {id : Int} {n : Nd} (g : Nd → Nd) (hm : mget keqI es id = some n) : mrep keqI es id (g n) = chI es id g := by
 rw [ywT h hm]
 refine zxD fun p hp => ?_
 by_cases e : p.1 = id
 ·rw [if_pos e, if_pos e]
  have := zgP h (k := p.1) (v := p.2) hp
  rw [e, hm] at this
  rw [osi this]
 ·rw [if_neg e, if_neg e]
abbrev zoA (n : Nd) : Nd := (n.1, n.2.1, n.2.2.1, n.2.2.2.1, n.2.2.2.2.1, n.2.2.2.2.2.1, n.2.2.2.2.2.2.1, n.2.2.2.2.2.2.2.1, n.2.2.2.2.2.2.2.2.1, true, n.2.2.2.2.2.2.2.2.2.2.1, n.2.2.2.2.2.2.2.2.2.2.2.1, n.2.2.2.2.2.2.2.2.2.2.2.2.1, n.2.2.2.2.2.2.2.2.2.2.2.2.2.1, n.2.2.2.2.2.2.2.2.2.2.2.2.2.2)
abbrev ylR (n : Nd) : Nd := (n.1, n.2.1, n.2.2.1, n.2.2.2.1, n.2.2.2.2.1, n.2.2.2.2.2.1, n.2.2.2.2.2.2.1, n.2.2.2.2.2.2.2.1, n.2.2.2.2.2.2.2.2.1, n.2.2.2.2.2.2.2.2.2.1, true, n.2.2.2.2.2.2.2.2.2.2.2.1, n.2.2.2.2.2.2.2.2.2.2.2.2.1, n.2.2.2.2.2.2.2.2.2.2.2.2.2.1, n.2.2.2.2.2.2.2.2.2.2.2.2.2.2)
abbrev sLev (l : Int) (n : Nd) : Nd := (n.1, n.2.1, n.2.2.1, n.2.2.2.1, n.2.2.2.2.1, n.2.2.2.2.2.1, n.2.2.2.2.2.2.1, n.2.2.2.2.2.2.2.1, n.2.2.2.2.2.2.2.2.1, n.2.2.2.2.2.2.2.2.2.1, n.2.2.2.2.2.2.2.2.2.2.1, n.2.2.2.2.2.2.2.2.2.2.2.1, (bif decide (n.2.2.2.2.2.2.2.2.2.2.2.2.1 ≤ l) then l else n.2.2.2.2.2.2.2.2.2.2.2.2.1), n.2.2.2.2.2.2.2.2.2.2.2.2.2.1, n.2.2.2.2.2.2.2.2.2.2.2.2.2.2)
abbrev yuJ (d : L8) (n : Nd) : Nd := (n.1, n.2.1, n.2.2.1, n.2.2.2.1, n.2.2.2.2.1, n.2.2.2.2.2.1, n.2.2.2.2.2.2.1, n.2.2.2.2.2.2.2.1, n.2.2.2.2.2.2.2.2.1, n.2.2.2.2.2.2.2.2.2.1, n.2.2.2.2.2.2.2.2.2.2.1, n.2.2.2.2.2.2.2.2.2.2.2.1, n.2.2.2.2.2.2.2.2.2.2.2.2.1, n.2.2.2.2.2.2.2.2.2.2.2.2.2.1, d)
theorem zxF {es : Es} {q : Int × Nd → Prop} [DecidablePred q] {g : Nd → Nd} (h1 : ∀ n, (g n).1 = n.1) (h2 : ∀ n, npar (g n) = npar n) (h3 : ∀ n, nsec (g n) = nsec n) (h4 : ∀ n, mayB n = true → mayB (g n) = true) : zyF es fun p => if q p then g p.2 else p.2 where
 id p _ := by split <;> simp only [h1]
 par p _ := by split <;> simp only [h2]
 sec p _ := by split <;> simp only [h3]
 may p _ h := by split; exact h4 _ h; exact h
theorem znT {es : Es} (q : Int × Nd → Prop) [DecidablePred q] : zyF es fun p => if q p then zoA p.2 else p.2 := zxF (fun _ => rfl) (fun _ => rfl) (fun _ => rfl) fun _ h => h
theorem zzI {es : Es} (q : Int × Nd → Prop) [DecidablePred q] : zyF es fun p => if q p then ylR p.2 else p.2 := zxF (fun _ => rfl) (fun _ => rfl) (fun _ => rfl) fun _ h => h
theorem yaU {es : Es} (q : Int × Nd → Prop) [DecidablePred q] {d : L8} (hd : d.length ≤ 256) : zyF es fun p => if q p then yuJ d p.2 else p.2 := zxF (fun _ => rfl) (fun _ => rfl) (fun _ => rfl) fun n h => by
 unfold mayB at h ⊢
 simp only [Bool.and_eq_true] at h ⊢
 exact ⟨h.1, decide_eq_true (by show (d.length : Int) ≤ 256; omega)⟩
theorem ydX {es : Es} (q : Int × Nd → Prop) [DecidablePred q] {l : Int} (h1 : 1 ≤ l) (h3 : l ≤ 3) : zyF es fun p => if q p then sLev l p.2 else p.2 := zxF (fun _ => rfl) (fun _ => rfl) (fun _ => rfl) fun n h => by
 unfold mayB at h ⊢
 simp only [Bool.and_eq_true] at h ⊢
 refine ⟨⟨⟨h.1.1.1, ?_⟩, h.1.2⟩, h.2⟩
 have h2 := h.1.1.2
 unfold inB at h2 ⊢
 simp only [Bool.and_eq_true, decide_eq_true_eq] at h2 ⊢
 by_cases hl : n.2.2.2.2.2.2.2.2.2.2.2.2.1 ≤ l
 ·simp only [decide_eq_true hl, cond_true]; omega
 ·simp only [decide_eq_false hl, cond_false]; exact h2
theorem yfH {nx nx' : Int} {es : Es} (h : Ok nx es) {id : Int} (hh : mhas keqI es id = true) : zcP zaB id nx' es = some (nx', chI es id zoA) := by
 obtain ⟨n, hn, hp⟩ := zlX hh
 unfold zcP ziT zhQ
 simp only [zaA]
 rw [hh, zqU rfl, zaA, zhT hn, zaA, ← zxA h.rises zoA hn]
theorem ywK {nx nx' : Int} {es : Es} (h : Ok nx es) (id : Int) : zdS zaB id nx' es = some (bif mhas keqI es id then (0, nx', chI es id zoA) else (131, nx', es)) := by
 unfold zdS
 cases hh : mhas keqI es id with
 | false => rfl
 | true =>
  simp only [Bool.not_true, cond_false, cond_true]
  rw [yfH h hh, zaA]
section
variable {γ : Type}
theorem ygY (j : Int) (v : γ) (k : Int) : ∀ (m : List (Int × γ)), mhas keqI (mins kltI m j v) k = (keqI j k || mhas keqI m k)
 | [] => rfl
 | (k', v') :: m => by
  unfold mins
  cases kltI k' j with
  | true =>
   simp only [cond_true, mhas, ygY j v k m]
   cases keqI k' k <;> cases keqI j k <;> rfl
  | false => rfl
theorem yqD (m : List (Int × γ)) (j : Int) (v : γ) (k : Int) : mhas keqI (mset keqI kltI m j v) k = (keqI j k || mhas keqI m k) := by
 unfold mset
 cases hj : mhas keqI m j with
 | true =>
  simp only [cond_true]
  rw [ypH (zxP m j v)]
  cases hk : keqI j k with
  | true => rw [← zcL.1 hk, hj]; rfl
  | false => rfl
 | false => exact ygY j v k m
theorem ydM : ∀ {l m : List (Int × Unit)}, zmZ l → zmZ m → (∀ k, mhas keqI l k = mhas keqI m k) → l = m
 | [], [], _, _, _ => rfl
 | [], (k, u) :: m, _, _, h => by
  have := h k
  simp only [mhas, zcL.2, Bool.true_or] at this
  cases this
 | (k, u) :: l, [], _, _, h => by
  have := h k
  simp only [mhas, zcL.2, Bool.true_or] at this
  cases this
 | (k, ()) :: l, (j, ()) :: m, hl, hm, h => by
  have cl := List.pairwise_cons.1 hl
  have cm := List.pairwise_cons.1 hm
  have e : k = j := by
   have h1 := h k
   have h2 := h j
   simp only [mhas, zcL.2, Bool.true_or] at h1 h2
   have h1 := h1.symm
   rw [Bool.or_eq_true, zcL, zhW] at h1 h2
   rcases h1 with h1 | ⟨_, h1⟩
   ·exact h1.symm
   rcases h2 with h2 | ⟨_, h2⟩
   ·exact h2
   have a := cl.1 _ h2
   have b := cm.1 _ h1
   simp only at a b
   omega
  subst e
  congr 1
  refine ydM cl.2 cm.2 fun i => ?_
  have hi := h i
  simp only [mhas] at hi
  by_cases e : k = i
  ·subst e
   have n1 : mhas keqI l k = false := by
    cases hb : mhas keqI l k with
    | false => rfl
    | true =>
     obtain ⟨v, hv⟩ := zhW.1 hb
     have := cl.1 _ hv
     simp only at this
     omega
   have n2 : mhas keqI m k = false := by
    cases hb : mhas keqI m k with
    | false => rfl
    | true =>
     obtain ⟨v, hv⟩ := zhW.1 hb
     have := cm.1 _ hv
     simp only at this
     omega
   rw [n1, n2]
  ·rw [yeU e] at hi
   exact hi
theorem zxO : ∀ {es : List (Int × γ)}, zmZ es → ∀ (k : Int), mdel keqI es k = es.filter fun p => !keqI p.1 k
 | [], _, _ => rfl
 | (k', v) :: m, h, k => by
  have hc := List.pairwise_cons.1 h
  unfold mdel
  cases hk : keqI k' k with
  | true =>
   rw [List.filter_cons_of_neg (by simp [hk])]
   simp only [cond_true]
   refine (List.filter_eq_self.2 fun p hp => ?_).symm
   have := hc.1 p hp
   have e := zcL.1 hk
   simp only at this
   rw [yeU (by omega)]
   rfl
  | false =>
   rw [List.filter_cons_of_pos (by simp [hk])]
   simp only [cond_false, zxO hc.2 k]
end
theorem zxT {α : Type} {l : List α} {p q : α → Bool} (h : ∀ x ∈ l, p x = q x) : l.any p = l.any q := by
 induction l with
 | nil => rfl
 | cons x l ih => rw [List.any_cons, List.any_cons, h x List.mem_cons_self, ih fun y hy => h y (List.mem_cons_of_mem _ hy)]
def zwE (m : List (Int × Unit)) (l : List Int) : List (Int × Unit) := l.foldl (fun m j => mset keqI kltI m j ()) m
theorem ybE (k : Int) : ∀ (l : List Int) (m : List (Int × Unit)), mhas keqI (zwE m l) k = (mhas keqI m k || l.contains k)
 | [], m => by simp [zwE]
 | j :: l, m => by
  show mhas keqI (zwE (mset keqI kltI m j ()) l) k = _
  rw [ybE k l, yqD]
  have : (j :: l).contains k = (keqI j k || l.contains k) := by
   rw [List.contains_cons]
   congr 1
   unfold keqI
   rw [Bool.eq_iff_iff, beq_iff_eq, decide_eq_true_iff]
   exact eq_comm
  rw [this]
  cases keqI j k <;> cases mhas keqI m k <;> rfl
theorem zwH : ∀ (l : List Int) {m : List (Int × Unit)}, zmZ m → zmZ (zwE m l)
 | [], _, h => h
 | j :: l, m, h => zwH l (m := mset keqI kltI m j ()) (yiX h)
theorem yfY {es : Es} : ∀ (f : Nat) (i k : Int), k ∈ pth es f i → mhas keqI es k = true
 | 0, _, _, h => by cases h
 | f + 1, i, k, h => by
  rw [zzS] at h
  cases hm : mget keqI es i with
  | none => rw [hm] at h; cases h
  | some n =>
   rw [hm] at h
   rcases List.mem_cons.1 h with rfl | h
   ·exact yvB hm
   ·exact yfY f _ k h
def zrW (es : Es) (now k : Int) : Bool := es.any fun p => zuU es p.1 now && (ziN es p.1).contains k
def zbY (es : Es) (now : Int) : Es := es.filter fun p => zrW es now p.1
theorem ymF {es : Es} (h : zmZ es) (nd : List (Int × Unit)) : ziL zaB es nd = some (es.filter fun p => mhas keqI nd p.1, nd) := by
 unfold ziL
 suffices hA : rngA (fun x => zoQ zaB x.1 x.2.1 x.2.2) (es, nd, List.map Prod.fst es) = some (es.filter fun p => mhas keqI nd p.1, nd) by
  rw [hA, zaA]
 refine zuN (fun x => ∃ left : List Int, x = (es.filter fun p => left.contains p.1 || mhas keqI nd p.1, nd, left)) (fun x => x.1) (fun x => x.2.2) (hf := fun x => rfl) ?_ ?_ ?_
 ·rintro _ ⟨left, rfl⟩ hn
  have e : (es.filter fun p => left.contains p.1 || mhas keqI nd p.1) = es.filter fun p => mhas keqI nd p.1 := List.filter_congr fun p hp => by
   cases hc : left.contains p.1 with
   | false => rfl
   | true =>
    have h0 := hn p (List.mem_filter.2 ⟨hp, by simp only [hc]; rfl⟩)
    exact absurd (List.contains_iff_mem.1 hc) h0
  show some (Sum.inr _) = _
  simp only [e]
 ·rintro _ p ⟨left, rfl⟩ hp hl
  simp only [] at hp hl
  have hr : zmZ (es.filter fun p => left.contains p.1 || mhas keqI nd p.1) := h.sublist List.filter_sublist
  refine .inl ?_
  simp only []
  rw [zgP hr (k := p.1) (v := p.2) hp, zaA]
  unfold zgW
  simp only [zaA]
  have hD : ∀ j, (rngD keqI left p.1).contains j = (left.contains j && !keqI j p.1) := fun j => by
   rw [Bool.eq_iff_iff, Bool.and_eq_true, List.contains_iff_mem, zuT, List.contains_iff_mem, Bool.not_eq_true', ← Bool.not_eq_true, zcL]
  cases hh : mhas keqI nd p.1 with
  | true =>
   have e : (es.filter fun q => (rngD keqI left p.1).contains q.1 || mhas keqI nd q.1) = es.filter fun q => left.contains q.1 || mhas keqI nd q.1 := List.filter_congr fun q _ => by
    rw [hD]
    cases hk : keqI q.1 p.1 with
    | false => rw [Bool.not_false, Bool.and_true]
    | true => rw [zcL.1 hk, hh, Bool.or_true, Bool.or_true]
   exact ⟨_, rfl, ⟨rngD keqI left p.1, by rw [e]⟩, rfl⟩
  | false =>
   have e : mdel keqI (es.filter fun p => left.contains p.1 || mhas keqI nd p.1) p.1 = es.filter fun q => (rngD keqI left p.1).contains q.1 || mhas keqI nd q.1 := by
    rw [zxO hr, List.filter_filter]
    refine List.filter_congr fun q _ => ?_
    rw [hD]
    cases hk : keqI q.1 p.1 with
    | false => simp
    | true => rw [zcL.1 hk, hh]; simp
   exact ⟨_, rfl, ⟨rngD keqI left p.1, by rw [e]⟩, rfl⟩
 ·refine ⟨List.map Prod.fst es, ?_⟩
  have e : (es.filter fun p => (List.map Prod.fst es).contains p.1 || mhas keqI nd p.1) = es := List.filter_eq_self.2 fun p hp => by
   have : (List.map Prod.fst es).contains p.1 = true := List.contains_iff_mem.2 (List.mem_map.2 ⟨p, hp, rfl⟩)
   rw [this]; rfl
  rw [e]
theorem zvH {nx nx' : Int} {es : Es} (h : Ok nx es) (now : Int) : zaX zaB now nx' es = some ((es.length : Int) - ((zbY es now).length : Int), nx', zbY es now) := by
 have hlen := h.len
 have hle : (zbY es now).length ≤ es.length := List.length_filter_le _ _
 have hcan : ∀ k, mhas keqI ((zbY es now).map fun p => (p.1, ())) k = zrW es now k := fun k => by
  rw [Bool.eq_iff_iff, zhW]
  unfold zbY
  constructor
  ·rintro ⟨_, hv⟩
   obtain ⟨p, hp, e⟩ := List.mem_map.1 hv
   obtain ⟨hp, hq⟩ := List.mem_filter.1 hp
   cases e
   exact hq
  ·intro hk
   have hk' := hk
   unfold zrW at hk
   obtain ⟨p, hp, hq⟩ := List.any_eq_true.1 hk
   rw [Bool.and_eq_true, List.contains_iff_mem] at hq
   obtain ⟨n, hn⟩ := zhW.1 (yfY _ _ _ hq.2)
   exact ⟨(), List.mem_map.2 ⟨(k, n), List.mem_filter.2 ⟨hn, hk'⟩, rfl⟩⟩
 have hcr : zmZ ((zbY es now).map fun p => (p.1, ())) := by
  have h1 : zmZ (zbY es now) := h.rises.sublist List.filter_sublist
  unfold zmZ
  rw [List.pairwise_map]
  exact h1
 unfold zaX
 suffices hA : rngA (fun x => zlP zaB now x.1 x.2.1 x.2.2.1 x.2.2.2) (nx', es, List.map Prod.fst es, ([] : List (Int × Unit))) = some (nx', es, (zbY es now).map fun p => (p.1, ())) by
  rw [hA, zaA, ymF h.rises, zaA]
  have e : (es.filter fun p => mhas keqI ((zbY es now).map fun p => (p.1, ())) p.1) = zbY es now := by
   show _ = es.filter _
   refine List.filter_congr fun p _ => ?_
   rw [hcan]
  simp only [e]
  rw [zmP (by omega) (by omega)]
 refine zuN (fun x => ∃ (left : List Int) (nd : List (Int × Unit)), x = (nx', es, left, nd) ∧ zmZ nd ∧ ∀ k, mhas keqI nd k = es.any fun p => !left.contains p.1 && (zuU es p.1 now && (ziN es p.1).contains k)) (fun x => x.2.1) (fun x => x.2.2.1) (hf := fun x => rfl) ?_ ?_ ?_
 ·rintro _ ⟨left, nd, rfl, hr, hk⟩ hn
  simp only [] at hn
  have e : nd = (zbY es now).map fun p => (p.1, ()) := ydM hr hcr fun k => by
   rw [hk, hcan]
   unfold zrW
   refine zxT fun p hp => ?_
   have : left.contains p.1 = false := by
    cases hc : left.contains p.1 with
    | false => rfl
    | true => exact absurd (List.contains_iff_mem.1 hc) (hn p hp)
   rw [this]; rfl
  rw [e]
 ·rintro _ p ⟨left, nd, rfl, hr, hk⟩ hp hl
  simp only [] at hp hl
  refine .inl ?_
  simp only []
  rw [zgP h.rises (k := p.1) (v := p.2) hp, zaA, zwB h, zaA]
  have hD : ∀ j, (rngD keqI left p.1).contains j = (left.contains j && !keqI j p.1) := fun j => by
   rw [Bool.eq_iff_iff, Bool.and_eq_true, List.contains_iff_mem, zuT, List.contains_iff_mem, Bool.not_eq_true', ← Bool.not_eq_true, zcL]
  have hc : left.contains p.1 = true := List.contains_iff_mem.2 hl
  have hsplit : ∀ k, (es.any fun q => !(rngD keqI left p.1).contains q.1 && (zuU es q.1 now && (ziN es q.1).contains k)) = ((es.any fun q => !left.contains q.1 && (zuU es q.1 now && (ziN es q.1).contains k)) || (zuU es p.1 now && (ziN es p.1).contains k)) := fun k => by
   rw [Bool.eq_iff_iff, Bool.or_eq_true, List.any_eq_true, List.any_eq_true]
   constructor
   ·rintro ⟨q, hq, h2⟩
    rw [hD] at h2
    by_cases e : q.1 = p.1
    ·right
     rw [e] at h2
     exact (Bool.and_eq_true _ _ ▸ h2).2
    ·left
     refine ⟨q, hq, ?_⟩
     rw [yeU e] at h2
     simpa using h2
   ·rintro (⟨q, hq, h2⟩ | h2)
    ·refine ⟨q, hq, ?_⟩
     rw [hD]
     cases hb : left.contains q.1 with
     | true => rw [hb] at h2; cases h2
     | false => rw [hb] at h2; exact h2
    ·refine ⟨p, hp, ?_⟩
     rw [hD, zcL.2 rfl, h2]
     simp
  cases hv : zuU es p.1 now with
  | false =>
   refine ⟨_, rfl, ⟨rngD keqI left p.1, nd, rfl, hr, fun k => ?_⟩, rfl⟩
   rw [hsplit, hk, hv]
   simp
  | true =>
   simp only [Bool.not_true, cond_false]
   rw [ycP h, zaA]
   have hpl := zvC h p.1
   have hI : iter (fun x => zeD zaB (ziN es p.1, nx', es) x.1 x.2.1 x.2.2.1 x.2.2.2.1 x.2.2.2.2) ((0 : Int), nx', es, rngD keqI left p.1, nd) = some (nx', es, rngD keqI left p.1, zwE nd (ziN es p.1)) := by
    refine ycR (fun k => ((k : Int), nx', es, rngD keqI left p.1, zwE nd ((ziN es p.1).take k))) (ziN es p.1).length (by omega) _ (fun k hk2 => ?_) ?_
    ·unfold zeD
     simp only []
     rw [zkS (by omega), zmM rfl hk2, zaA, zmP (by omega) (by omega), List.take_succ_eq_append_getElem hk2]
     unfold zwE
     rw [List.foldl_append]
     rfl
    ·unfold zeD
     simp only []
     rw [zoU (by omega), List.take_of_length_le (Nat.le_refl _)]
   rw [show iter _ ((0 : Int), nx', es, rngD keqI left p.1, nd) = _ from hI, zaA]
   refine ⟨_, rfl, ⟨rngD keqI left p.1, zwE nd (ziN es p.1), rfl, zwH _ hr, fun k => ?_⟩, rfl⟩
   rw [ybE, hsplit, hk, hv, Bool.true_and]
 ·refine ⟨List.map Prod.fst es, [], rfl, List.Pairwise.nil, fun k => ?_⟩
  refine Eq.symm ?_
  show _ = false
  rw [List.any_eq_false]
  intro p hp
  have : (List.map Prod.fst es).contains p.1 = true := List.contains_iff_mem.2 (List.mem_map.2 ⟨p, hp, rfl⟩)
  rw [this]
  simp
theorem Ok.filter {nx : Int} {es : Es} (h : Ok nx es) (q : Int × Nd → Bool) : Ok nx (es.filter q) where
 rises := h.rises.sublist List.filter_sublist
 ids p hp := h.ids p (List.mem_filter.1 hp).1
 par p hp := h.par p (List.mem_filter.1 hp).1
 may p hp := h.may p (List.mem_filter.1 hp).1
 uniq p hp q hq := h.uniq p (List.mem_filter.1 hp).1 q (List.mem_filter.1 hq).1
 next := h.next
 len := Nat.le_trans (List.length_filter_le _ _) h.len
theorem Ok.pruned {nx : Int} {es : Es} (h : Ok nx es) (now : Int) : Ok nx (zbY es now) := h.filter _
abbrev sNew (i : Int) (n : Nd) : Nd := (i, n.2.1, n.2.2.1, n.2.2.2.1, n.2.2.2.2.1, n.2.2.2.2.2.1, n.2.2.2.2.2.2.1, n.2.2.2.2.2.2.2.1, n.2.2.2.2.2.2.2.2.1, false, false, n.2.2.2.2.2.2.2.2.2.2.2.1, n.2.2.2.2.2.2.2.2.2.2.2.2.1, n.2.2.2.2.2.2.2.2.2.2.2.2.2.1, n.2.2.2.2.2.2.2.2.2.2.2.2.2.2)
def zuS (es : Es) (par : Int) : Bool := decide (par > 0) && (!mhas keqI es par || zpP es par)
def zeR (n : Nd) (now nx : Int) (es : Es) : Int × Int × Int × Es :=
 bif !mayB n then (0, 131, nx, es) else
 bif (zuE es (nsec n)).isSome then (0, 132, nx, es) else
 bif zuS es (npar n) then (0, 133, nx, es) else
 bif decide ((zbY es now).length ≥ 256) || decide (nx ≥ 99999999) then (0, 130, nx, zbY es now) else
 (nx, 0, nx + 1, zbY es now ++ [(nx, sNew nx n)])
theorem Ok.plant {nx : Int} {es : Es} (h : Ok nx es) (n : Nd) (now : Int) : Ok (zeR n now nx es).2.2.1 (zeR n now nx es).2.2.2 := by
 unfold zeR
 cases hm : mayB n with
 | false => exact h
 | true =>
  simp only [Bool.not_true, cond_false]
  cases hf : (zuE es (nsec n)).isSome with
  | true => exact h
  | false =>
   simp only [cond_false]
   cases ho : zuS es (npar n) with
   | true => exact h
   | false =>
    simp only [cond_false]
    cases hg : decide ((zbY es now).length ≥ 256) || decide (nx ≥ 99999999) with
    | true => exact h.pruned now
    | false =>
     simp only [cond_false]
     rw [Bool.or_eq_false_iff, decide_eq_false_iff_not, decide_eq_false_iff_not] at hg
     have hP := h.pruned now
     have hnx := h.next
     have hlow : ∀ p ∈ zbY es now, p.1 < nx := fun p hp => (hP.ids p hp).2.2
     have hpar : 0 ≤ npar n ∧ npar n < nx := by
      have h0 := (ymK hm).2.2.2.2.2
      refine ⟨h0, ?_⟩
      unfold zuS at ho
      by_cases hp : npar n > 0
      ·rw [decide_eq_true hp, Bool.true_and, Bool.or_eq_false_iff, Bool.not_eq_false'] at ho
       obtain ⟨v, hv⟩ := zhW.1 ho.1
       exact (h.ids _ hv).2.2
      ·omega
     have hno : ∀ p ∈ es, nsec p.2 ≠ nsec n := fun p hp e => by
      unfold zuE at hf
      rw [Option.isSome_map, Option.isSome_eq_false_iff, Option.isNone_iff_eq_none, List.find?_eq_none] at hf
      exact hf p hp (beq_iff_eq.2 e)
     have hno' : ∀ p ∈ zbY es now, nsec p.2 ≠ nsec n := fun p hp => hno p (List.mem_filter.1 hp).1
     have hmem : ∀ p, p ∈ zbY es now ++ [(nx, sNew nx n)] → p ∈ zbY es now ∨ p = (nx, sNew nx n) := fun p hp => by simpa using hp
     exact {
       rises := by
        unfold zmZ
        rw [List.pairwise_append]
        refine ⟨hP.rises, List.pairwise_singleton _ _, fun p hp q hq => ?_⟩
        rw [List.mem_singleton] at hq
        subst hq
        exact hlow p hp
       ids := fun p hp => by
        rcases hmem p hp with hp | rfl
        ·have := hP.ids p hp
         exact ⟨this.1, this.2.1, by omega⟩
        ·exact ⟨rfl, hnx.1, by simp only []; omega⟩
       par := fun p hp => by
        rcases hmem p hp with hp | rfl
        ·exact hP.par p hp
        ·exact hpar
       may := fun p hp => by
        rcases hmem p hp with hp | rfl
        ·exact hP.may p hp
        ·exact hm
       uniq := fun p hp q hq e => by
        rcases hmem p hp with hp | rfl <;> rcases hmem q hq with hq | rfl
        ·exact hP.uniq p hp q hq e
        ·exact absurd e (hno' p hp)
        ·exact absurd e.symm (hno' q hq)
        ·rfl
       next := ⟨by omega, by omega⟩
       len := by rw [List.length_append, List.length_singleton]; omega }
theorem zyQ {nx : Int} {es : Es} (h : Ok nx es) (now a0 a1 a2 : Int) (a3 a4 a5 : L8) (a6 a7 : Int) (a8 a9 : Bool) (a10 : Int) (a11 a12 : L8) :
  zcC zaB a0 a1 a2 a3 a4 a5 a6 a7 a8 a9 a10 a11 a12 now nx es = some (zeR (a0, a1, a2, a3, a4, a5, ([] : List L8), a6, a7, a8, a9, ([] : List L8), a10, a11, a12) now nx es) := by
 unfold zcC zeR
 rw [show zeQ zaB _ = some (mayB (a0, a1, a2, a3, a4, a5, ([] : List L8), a6, a7, a8, a9, ([] : List L8), a10, a11, a12)) from ylV (a0, a1, a2, a3, a4, a5, ([] : List L8), a6, a7, a8, a9, ([] : List L8), a10, a11, a12) (Nat.zero_le _), zaA]
 cases hm : mayB (a0, a1, a2, a3, a4, a5, ([] : List L8), a6, a7, a8, a9, ([] : List L8), a10, a11, a12) with
 | false => rfl
 | true =>
  simp only [Bool.not_true, cond_false]
  rw [ztA h, zaA]
  cases hf : zuE es a11 with
  | some q => rfl
  | none =>
   simp only [Option.isSome_none, Option.getD_none, cond_false]
   have hj : zhG zaB a0 a1 a2 a3 a4 a5 a6 a7 a8 a9 a10 a11 a12 (zN, false, nx, es) = some (bif zuS es a2 then .inl (0, 133, nx, es) else .inr (nx, es, a0, a1, a2, a3, a4, a5, a6, a7, a8, a9, a10, a11, a12)) := by
    unfold zhG zuS
    simp only []
    by_cases hp : a2 > 0
    ·rw [zkS hp, decide_eq_true hp, ycF h, zaA]
     cases mhas keqI es a2 with
     | false => rfl
     | true =>
      simp only [Bool.not_true, cond_false, Bool.true_and, Bool.false_or]
      cases zpP es a2 <;> rfl
    ·rw [zoU hp, decide_eq_false hp]
     rfl
   rw [hj, zaA]
   cases zuS es a2 with
   | true => rfl
   | false =>
    simp only [cond_false]
    rw [zvH h, zaA]
    unfold zlD
    simp only []
    by_cases hg : (zbY es now).length ≥ 256
    ·rw [zkS (by omega), decide_eq_true hg]
     rfl
    ·rw [zoU (by omega), decide_eq_false hg]
     by_cases hx : nx ≥ 99999999
     ·rw [zkS hx, decide_eq_true hx]
      rfl
     ·rw [zoU hx, decide_eq_false hx]
      have hnx := h.next
      simp only [zaA, Bool.or_false, cond_false]
      rw [own_ok ⟨Nat.zero_le _, Nat.zero_le _⟩, zaA, zmP (by omega) (by omega)]
      simp only []
      rw [zyR fun p hp => ((h.pruned now).ids p hp).2.2]
theorem ysK : Ok 1 [] := ⟨List.Pairwise.nil, fun _ h => (by cases h), fun _ h => (by cases h), fun _ h => (by cases h), fun _ h => (by cases h), ⟨by decide, by decide⟩, by decide⟩
def fn1 : Nd := (0, 1, 0, [117, 58, 97, 110, 110], [], [], [], 0, 9, false, false, [], 0, [115], [])
def fn2 : Nd := (0, 1, 1, [117, 58, 97, 110, 110], [], [], [], 0, 9, false, false, [], 0, [116], [])
def fe1 : Es := [(1, 1, 1, 0, [117, 58, 97, 110, 110], [], [], [], 0, 9, false, false, [], 0, [115], [])]
def fe2 : Es := [(1, 1, 1, 0, [117, 58, 97, 110, 110], [], [], [], 0, 9, false, false, [], 0, [115], []), (2, 2, 1, 1, [117, 58, 97, 110, 110], [], [], [], 0, 9, false, false, [], 0, [116], [])]
def fe3 : Es := [(1, 1, 1, 0, [117, 58, 97, 110, 110], [], [], [], 0, 9, true, false, [], 0, [115], []), (2, 2, 1, 1, [117, 58, 97, 110, 110], [], [], [], 0, 9, false, false, [], 0, [116], [])]
def ybV : L8 × L8 := ([110, 111, 100, 101, 47, 48, 48, 48, 48, 48, 48, 48, 49], [49, 58, 49, 49, 58, 48, 53, 58, 117, 58, 97, 110, 110, 48, 58, 48, 58, 49, 58, 48, 49, 58, 48, 49, 58, 57, 49, 58, 49, 49, 58, 48, 49, 58, 48, 49, 58, 48, 49, 58, 115, 48, 58])
def ycE : L8 × L8 := ([110, 111, 100, 101, 47, 48, 48, 48, 48, 48, 48, 48, 50], [49, 58, 49, 49, 58, 49, 53, 58, 117, 58, 97, 110, 110, 48, 58, 48, 58, 49, 58, 48, 49, 58, 48, 49, 58, 57, 49, 58, 48, 49, 58, 48, 49, 58, 48, 49, 58, 48, 49, 58, 116, 48, 58])
def ynU : List (L8 × L8) := [([102, 111, 114, 101, 115, 116], [49, 58, 51]), ybV, ycE]
theorem pl1 : zeR fn1 0 1 [] = (1, 0, 2, fe1) := by kernel_rfl
theorem pl2 : zeR fn1 0 2 fe1 = (0, 132, 2, fe1) := by kernel_rfl
theorem pl3 : zeR fn2 0 2 fe1 = (2, 0, 3, fe2) := by kernel_rfl
theorem fok1 : Ok 2 fe1 := by
 have h := ysK.plant fn1 0
 rw [pl1] at h
 exact h
theorem fok2 : Ok 3 fe2 := by
 have h := fok1.plant fn2 0
 rw [pl3] at h
 exact h
theorem fok3 : Ok 3 fe3 := by
 have h := fok2.ch (znT fun p => p.1 = 1)
 rw [show (chE fe2 fun p => if p.1 = 1 then zoA p.2 else p.2) = fe3 by kernel_rfl] at h
 exact h
theorem fok0 : Ok 3 [] := by
 have h := fok3.filter fun _ => false
 exact h
theorem fok4 : Ok 3 [(1, 1, 1, 0, [117, 58, 97, 110, 110], [], [], [], 0, 9, true, false, [], 0, [115], [])] := by
 have h := fok3.filter fun p => keqI p.1 1
 rw [show (fe3.filter fun p => keqI p.1 1) = [(1, 1, 1, 0, [117, 58, 97, 110, 110], [], [], [], 0, 9, true, false, [], 0, [115], [])] by kernel_rfl] at h
 exact h
theorem frd1 : znK zaB ybV = some ((1, 1, 0, [117, 58, 97, 110, 110], [], [], [], 0, 9, true, false, [], 0, [115], []), true) := by kernel_rfl
theorem frd2 : znK zaB ycE = some ((2, 1, 1, [117, 58, 97, 110, 110], [], [], [], 0, 9, false, false, [], 0, [116], []), true) := by kernel_rfl
theorem fst1 : zhC zaB [ybV, ycE] 0 0 3 [] = some (.inl (1, 1, 3, [(1, 1, 1, 0, [117, 58, 97, 110, 110], [], [], [], 0, 9, true, false, [], 0, [115], [])])) := by
 unfold zhC
 rw [show idx [ybV, ycE] 0 = some ybV from rfl, zaA, frd1, zaA]
 simp only []
 rw [ztA fok0, zaA]
 kernel_rfl
theorem fst2 : zhC zaB [ybV, ycE] 1 1 3 [(1, 1, 1, 0, [117, 58, 97, 110, 110], [], [], [], 0, 9, true, false, [], 0, [115], [])] = some (.inl (2, 2, 3, fe3)) := by
 unfold zhC
 rw [show idx [ybV, ycE] 1 = some ycE from rfl, zaA, frd2, zaA]
 simp only []
 rw [ztA fok4, zaA]
 kernel_rfl
theorem xcW : znJ zaB ynU = some (.inr (0, 3, fe3)) := by
 unfold znJ
 rw [show ztX zaB ynU = some (.inr ()) by kernel_rfl, zaA]
 simp only []
 rw [show idx ynU 0 = some ([102, 111, 114, 101, 115, 116], [49, 58, 51]) from rfl, zaA]
 simp only []
 rw [show zlY zaB [49, 58, 51] = some ([[51]], true) by kernel_rfl, zaA, show ztW zaB ([[51]], true) = some (.inr ()) by kernel_rfl, zaA]
 simp only []
 rw [show ziC zaB = some (1, []) from rfl, zaA, show ztR zaB ([[51]], true) (1, []) = some (.inr (3, [])) by kernel_rfl, zaA]
 simp only []
 rw [show subL ynU 1 = some [ybV, ycE] from rfl, zaA]
 have hI : iter (fun x => zhC zaB [ybV, ycE] x.1 x.2.1 x.2.2.1 x.2.2.2) ((0 : Int), (0 : Int), (3 : Int), ([] : Es)) = some (.inr (3, fe3)) := by
  show zqQ _ (1099511627773 + 1 + 1 + 1) _ = _
  rw [zdX fst1, zdX fst2]
  exact zhA rfl
 rw [show iter _ _ = _ from hI, zaA]
theorem ywP : zhE zaB = some true := by
 unfold zhE
 rw [show ziC zaB = some (1, []) from rfl, zaA]
 simp only []
 rw [(zyQ ysK 0 0 1 0 [117, 58, 97, 110, 110] [] [] 0 9 false false 0 [115] []).trans (congrArg some pl1), zaA]
 simp only []
 rw [(zyQ fok1 0 0 1 0 [117, 58, 97, 110, 110] [] [] 0 9 false false 0 [115] []).trans (congrArg some pl2), zaA]
 simp only []
 rw [(zyQ fok1 0 0 1 1 [117, 58, 97, 110, 110] [] [] 0 9 false false 0 [116] []).trans (congrArg some pl3), zaA]
 rw [show zjX zaB (1, 0, 2, fe1) (0, 132, 2, fe1) (2, 0, 3, fe2) = some (.inr (3, fe3)) by kernel_rfl, zaA]
 simp only []
 rw [show ziR zaB 3 fe3 = some (ynU, 3, fe3) by kernel_rfl, zaA]
 simp only []
 rw [xcW, zaA]
 simp only []
 rw [yhI fok3, zaA]
 simp only []
 rw [zvH fok3, zaA]
 kernel_rfl
def yhU : PC := ⟨[], [.b], fun _ => some true, false⟩
theorem yqZ {G : List (Nat × Obj)} [zpM G] : PCok Tryz.prog G 13 yhU := by
 have h := zqO (tabs := G) (o := zaB)
 unfold zkA at h
 rw [ywP] at h
 exact h
end Go.Proofs.YtebbcofojchkpaaGreatDoor.Am
