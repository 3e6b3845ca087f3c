/- A machine over plain values: regions whose order is open. A machine over plain values: regions whose order is open, by a schedule. A machine over plain values: what it computes of a function's code, the call answers. A machine over plain values: contracts of functions whose arguments and results are numbers, bools and texts. Some functions of Go's library: what they compute, and that they do. What some functions compute, and that they do. A machine over plain values: contracts of some functions of Go's library. A machine over plain values: contract of people.Form. Conditions: as each theorem says. -/
import Derived.Shelf.Strings.SlTrimAscii
import Derived.Test.YtebbcofojchkpaaGreatDoorQsG
namespace Go.Proofs.YtebbcofojchkpaaGreatDoor.Am
open Go Go.RowKit
def Agr (D : List Nat) (m m' : FM) : Prop := ∀ t, hasN D t = false → look m' t = look m t
theorem Agr.refl (D : List Nat) (m : FM) : Agr D m m := fun _ _ => rfl
theorem Agr.trans {D : List Nat} {a b c : FM} (h : Agr D a b) (k : Agr D b c) : Agr D a c := fun t ht => (k t ht).trans (h t ht)
theorem Agr.put {D : List Nat} {m : FM} {d : Nat} {v : Value} (h : hasN D d = true) : Agr D m ((d, v) :: m) := fun t ht => by
 show (bif Nat.beq d t then v else look m t) = _
 cases hb : Nat.beq d t with
 | true => rw [Nat.eq_of_beq_eq_true hb] at h; rw [h] at ht; cases ht
 | false => rfl
theorem ybR (a b : List Nat) (t : Nat) : hasN (a ++ b) t = (hasN a t || hasN b t) := by
 induction a with
 | nil => rfl
 | cons x a ih => simp only [List.cons_append, hasN, ih, Bool.or_assoc]
theorem Agr.l {a b : List Nat} {m m' : FM} (h : Agr a m m') : Agr (a ++ b) m m' := fun t ht => h t (by rw [ybR, Bool.or_eq_false_iff] at ht; exact ht.1)
theorem Agr.r {a b : List Nat} {m m' : FM} (h : Agr b m m') : Agr (a ++ b) m m' := fun t ht => h t (by rw [ybR, Bool.or_eq_false_iff] at ht; exact ht.2)
theorem ybI {o : Oper} {l : List Oper} {t : Nat} (h : hasN (zpQ l) t = true) : hasN (zpQ (o :: l)) t = true := by
 unfold zpQ
 cases o.dst with
 | none => exact h
 | some d => simp [hasN, h]
theorem yaN {o : Oper} {l : List Oper} {d : Nat} (h : o.dst = some d) : hasN (zpQ (o :: l)) d = true := by
 unfold zpQ; rw [h]; simp [hasN]
theorem Agr.mono {D D' : List Nat} {m m' : FM} (h : Agr D m m') (hd : ∀ t, hasN D t = true → hasN D' t = true) : Agr D' m m' := fun t ht => h t (by
 cases hb : hasN D t with
 | true => rw [hd t hb] at ht; cases ht
 | false => rfl)
section
variable {n : Nat} {m : FM} {o : Oper}
theorem zqG (hg : o.guard = none) {y : Nat → Option Bool} : Region.wanted o y = true := by simp only [Region.wanted, hg]
theorem yhG {all : List Oper} {j d : Nat} {t : Bool} (h : yjP all j = some d) (hv : evO n m (.tmp d) = .bool t) : yielded all.toArray (fr n m).tmps j = some t := by
 rw [ybG, ytC]
 unfold yjP at h
 split at h
 ·rename_i o ho
  refine xbA ?_ h hv
  rw [yiR, ← zdW]; exact ho
 ·cases h
theorem ygM {all : List Oper} {j d : Nat} (h : yjP all j = some d) (hv : evO n m (.tmp d) = undef) : yielded all.toArray (fr n m).tmps j = none := by
 rw [ybG, ytC]
 unfold yjP at h
 split at h
 ·rename_i o ho
  have ho2 : lko all j = some o := by rw [yiR, ← zdW]; exact ho
  unfold gvl; rw [ho2]
  obtain ⟨dst, _, _, _, _, _⟩ := o
  simp only at h
  subst h
  simp only [gvo, hv]
  rfl
 ·cases h
theorem yeO {j : Nat} {b : Bool} {y : Nat → Option Bool} (hg : o.guard = some (j, b)) (hy : y j = none) : Region.wanted o y = false := by
 simp only [Region.wanted, hg, hy]
 cases b <;> rfl
theorem zyL {j : Nat} {b t : Bool} {y : Nat → Option Bool} (hg : o.guard = some (j, b)) (hy : y j = some t) : Region.wanted o y = (t == b) := by
 simp only [Region.wanted, hg, hy]
 cases t <;> cases b <;> rfl
end
section
variable {β : Type} {τ : TE} {Γ : CT} {n : Nat} {P : Program} {B : Bas} {S : Mem} {E : List EI} {L : List Res} {σ : St} {m : FM} {w : World} {ops : Array Oper} {Q : Exit → Act → World → Prop} {rest : List Oper} {o : Oper}
theorem yyR {Rv : Value → World → Prop} (hg : Region.wanted o (yielded ops (fr n m).tmps) = true) (h : outcome P Rv ((execOp (evO n m) o).run P w)) (hK : ∀ v w', Rv v w' → wpList P ops Q rest ((fr n m).put o.dst v) w') :
  wpList P ops Q (o :: rest) (fr n m) w := by
 unfold wpList; rw [if_pos hg]; exact .inl (zsZ (by rw [zjZ]; exact h) hK)
theorem yvE (hg : Region.wanted o (yielded ops (fr n m).tmps) = false) (h : wpList P ops Q rest ((fr n m).put o.dst undef) w) : wpList P ops Q (o :: rest) (fr n m) w := by
 unfold wpList; rw [if_neg (by rw [hg]; simp)]; exact h
theorem zuG (R : Rel n B S E L σ m w) {d : Option Nat} {x : SV} {v : Value} {k : St → Option β} {r : β} (hx : VR S E x v) (h : putD n d x σ k = some r) : ∃ σ' m', k σ' = some r ∧ Rel n B S E L σ' m' w ∧ (fr n m).put d v = fr n m' ∧ ∀ D, (∀ t, d = some t → hasN D t = true) → Agr D m m' := by
 cases d with
 | none => exact ⟨σ, m, h, R, zxU _ _ _, fun D _ => Agr.refl D m⟩
 | some d =>
  obtain ⟨hd, h⟩ := zaC h
  exact ⟨_, _, h, R.put hx hd, zzH _ _ _ _, fun D hD => Agr.put (hD d rfl)⟩
theorem zxL (hτ : TEok P τ) (hΓ : CTok P Γ B) {all : List Oper} {k : St → Option β} {r : β} {S0 : Mem} {E0 : List EI} {m0 : FM} {D : List Nat} (hQ : ∀ σ' S' E' L' m' w', k σ' = some r → Mem.le S0 S' → ELe E0 E' → Agr D m0 m' → Rel n B S' E' L' σ' m' w' → Q .normal (fr n m') w') :
  ∀ (l : List Oper) {σ : St} {S : Mem} {E : List EI} {L : List Res} {m : FM} {w : World}, (∀ t, hasN (zpQ l) t = true → hasN D t = true) → Mem.le S0 S → ELe E0 E → Agr D m0 m → Rel n B S E L σ m w → steps n τ Γ all l σ k = some r → wpList P all.toArray Q l (fr n m) w
 | [], σ, S, E, L, m, w, _, hS, hE, hA, R, h => hQ _ _ _ _ _ _ h hS hE hA R
 | o :: l, σ, S, E, L, m, w, hD, hS, hE, hA, R, h => by
  have hD' : ∀ t, hasN (zpQ l) t = true → hasN D t = true := fun t h => hD t (ybI h)
  have hd' : ∀ t, o.dst = some t → hasN D t = true := fun t h => hD t (yaN h)
  have doIt : ∀ {σ : St}, Rel n B S E L σ m w → Region.wanted o (yielded all.toArray (fr n m).tmps) = true → (op2 τ Γ σ o.op o.type fun x σ => putD n o.dst x σ fun σ => steps n τ Γ all l σ k) = some r → wpList P all.toArray Q (o :: l) (fr n m) w := fun {σ} R hw h => by
   obtain ⟨dst, op, ty, pos, aft, g⟩ := o
   refine yyR hw (ytL hτ hΓ R h) ?_
   rintro v w' ⟨x, σ', S', E', L', h1, h2, h3, R', h4⟩
   obtain ⟨σ2, m2, h5, R2, h6, h7⟩ := zuG R' h4 h1
   show wpList P all.toArray Q l ((fr n m).put dst v) w'
   rw [h6]
   exact zxL hτ hΓ hQ l hD' (Mem.le_trans hS h2) (hE.trans h3) (hA.trans (h7 D hd')) R2 h5
  have skip : ∀ {σ : St}, Rel n B S E L σ m w → Region.wanted o (yielded all.toArray (fr n m).tmps) = false → (putD n o.dst .skp σ fun σ => steps n τ Γ all l σ k) = some r → wpList P all.toArray Q (o :: l) (fr n m) w := fun {σ} R hw h => by
   obtain ⟨σ2, m2, h5, R2, h6, h7⟩ := zuG R (v := undef) (x := .skp) rfl h
   refine yvE hw ?_
   rw [h6]
   exact zxL hτ hΓ hQ l hD' hS hE (hA.trans (h7 D hd')) R2 h5
  unfold steps at h
  split at h
  ·rename_i hg
   exact doIt R (zqG hg) h
  ·rename_i j b hg
   split at h
   ·rename_i d hd
    split at h
    ·rename_i t ht
     have hv : evO n m (.tmp d) = .bool t := vB (by have := R.sl d; rw [ht] at this; exact this)
     have hw := zyL (o := o) hg (yhG (m := m) (n := n) hd hv)
     have Rt : ∀ q : Bool, t = q → Rel n B S E L (σ.put d (.v .b q)) m w := fun q hq => R.re (by rw [hv, hq]; exact bV q)
     cases t with
     | true =>
      cases b with
      | true => exact doIt (Rt true rfl) hw h
      | false => exact skip (Rt true rfl) hw h
     | false =>
      cases b with
      | true => exact skip (Rt false rfl) hw h
      | false => exact doIt (Rt false rfl) hw h
    ·rename_i ht
     have hv : evO n m (.tmp d) = undef := by have := R.sl d; rw [ht] at this; exact this
     exact skip R (yeO hg (ygM (m := m) (n := n) hd hv)) h
    ·cases h
   ·cases h
end
section
variable {S : Mem} {E : List EI}
end
section
variable {β : Type} {τ : TE} {Γ : CT} {n nh : Nat} {P : Program} {B : Bas} {S : Mem} {E : List EI} {L : List Res} {σ : St} {m : FM} {W : World} {ops : Array Oper} {all : List Oper} {Φ : zhM} {vs : Nat → Gv} {D : List (Nat × Nat)}
def Inv (n : Nat) (S : Mem) (E : List EI) (W : World) (Φ : zhM) (vs : Nat → Gv) (sl : List (Nat × SV)) (D : List (Nat × Nat)) (m : FM) : Prop := ∀ t, match lkD D t with
 | none => VR S E (lkS sl t) (evO n m (.tmp t))
 | some j => relK Φ j = true ∧ ∀ w', ziK Φ vs w' j → VR (gf S W (vs j).f w') E (lkS sl t) (evO n m (.tmp t))
theorem ymS : ∀ (D : List (Nat × Nat)) (d t : Nat), lkD (delD D d) t = if d = t then none else lkD D t
 | [], d, t => by simp [delD, lkD]
 | (x, j) :: D, d, t => by
  have ih := ymS D d t
  unfold delD
  cases hx : Nat.beq x d with
  | true =>
   have := Nat.eq_of_beq_eq_true hx; subst this
   simp only [cond_true, ih, lkD]
   by_cases h : x = t
   ·simp [h]
   ·rw [if_neg h, if_neg h]
    have : Nat.beq x t = false := by rw [zoM]; simp [h]
    rw [this]; rfl
  | false =>
   simp only [cond_false, lkD, ih]
   cases hy : Nat.beq x t with
   | true =>
    have h1 := Nat.eq_of_beq_eq_true hy; subst h1
    have h2 : d ≠ x := fun e => by subst e; rw [zoM] at hx; simp at hx
    simp [h2]
   | false => rfl
theorem Inv.put {d : Nat} {x : SV} {v : Value} (hI : Inv n S E W Φ vs σ.sl D m) (hd : Nat.blt d n = true) (hx : VR S E x v) : Inv n S E W Φ vs (σ.put d x).sl (delD D d) ((d, v) :: m) := fun t => by
 have := hI t
 rw [ymS]
 show match (if d = t then none else lkD D t) with
  | none => VR S E (bif Nat.beq d t then x else lkS σ.sl t) (bif Nat.blt t n then (bif Nat.beq d t then v else look m t) else undef)
  | some j => relK Φ j = true ∧ ∀ w', ziK Φ vs w' j → VR (gf S W (vs j).f w') E (bif Nat.beq d t then x else lkS σ.sl t) (bif Nat.blt t n then (bif Nat.beq d t then v else look m t) else undef)
 by_cases h : d = t
 ·subst h
  rw [if_pos rfl]
  simp only [Nat.beq_refl, cond_true, hd]
  exact hx
 ·rw [if_neg h]
  have hb : Nat.beq d t = false := by rw [zoM]; simp [h]
  simp only [hb, cond_false]
  exact this
theorem Inv.re {d : Nat} {x : SV} (hI : Inv n S E W Φ vs σ.sl D m) (hd : lkD D d = none) (hx : VR S E x (evO n m (.tmp d))) : Inv n S E W Φ vs (σ.put d x).sl D m := fun t => by
 have := hI t
 show match lkD D t with
  | none => VR S E (bif Nat.beq d t then x else lkS σ.sl t) _
  | some j => relK Φ j = true ∧ ∀ w', ziK Φ vs w' j → VR (gf S W (vs j).f w') E (bif Nat.beq d t then x else lkS σ.sl t) _
 cases hb : Nat.beq d t with
 | true =>
  have := Nat.eq_of_beq_eq_true hb; subst this
  rw [hd]; exact hx
 | false => exact this
end
section
variable {β : Type} {τ : TE} {σ : St} {k : SV → Option β}
end
section
variable {β : Type} {τ : TE} {Γ : CT} {n nh : Nat} {P : Program} {B : Bas} {S : Mem} {E : List EI} {L : List Res} {σ : St} {m : FM} {W : World} {ops : Array Oper} {all : List Oper} {Φ : zhM} {vs : Nat → Gv} {D : List (Nat × Nat)}
theorem ygS {S' : Mem} {E' : List EI} {x : SV} {u : Value} (hp : yiE x = true) (h : VR S E x u) (hS : Mem.le S S') : VR S' E' x u := by
 cases x with
 | v t x => exact (rpD t).mono h hS
 | nils => exact h
 | nilp => exact h
 | emp => have h : VB S E .emp u := h; exact (⟨h.1.mono hS, h.2⟩ : VB S' E' .emp u)
 | cl e xs => have h : VB S E (.cl e xs) u := h; exact (⟨h.1.mono hS, h.2⟩ : VB S' E' (.cl e xs) u)
 | rm e n xs => have h : VB S E (.rm e n xs) u := h; obtain ⟨v, h1, h2⟩ := h; exact (⟨v, h1.mono hS, h2⟩ : VB S' E' (.rm e n xs) u)
 | rp t x off => obtain ⟨b, o, us, e, h1, h2⟩ := h; exact ⟨b, o, us, e, h1.mono hS, (rpD t).mono h2 hS⟩
 | _ => cases hp
def zrV (I : List Nat) : Nat → List Res → List Res
 | _, [] => []
 | i, r :: l => (bif hasN I i then zvR else r) :: zrV I (i + 1) l
def zpN (I : List Nat) : Nat → List EI → List EI
 | _, [] => []
 | i, e :: l => (bif hasN I i then .dead else e) :: zpN I (i + 1) l
theorem zvA (I : List Nat) : ∀ (l : List Res) (i j : Nat), (zrV I i l)[j]? = (l[j]?).map fun r => bif hasN I (i + j) then zvR else r
 | [], _, _ => by simp [zrV]
 | r :: l, i, 0 => by simp [zrV]
 | r :: l, i, j + 1 => by
  simp only [zrV, List.getElem?_cons_succ, zvA I l (i + 1) j]
  rw [show i + 1 + j = i + (j + 1) by omega]
theorem zxB (I : List Nat) : ∀ (l : List EI) (i j : Nat), (zpN I i l)[j]? = (l[j]?).map fun r => bif hasN I (i + j) then EI.dead else r
 | [], _, _ => by simp [zpN]
 | r :: l, i, 0 => by simp [zpN]
 | r :: l, i, j + 1 => by
  simp only [zpN, List.getElem?_cons_succ, zxB I l (i + 1) j]
  rw [show i + 1 + j = i + (j + 1) by omega]
theorem yhR (I : List Nat) : ∀ (l : List AO) (i j : Nat), (ycX I i l)[j]? = (l[j]?).map fun r => bif hasN I (i + j) then AO.dead else r
 | [], _, _ => by simp [ycX]
 | r :: l, i, 0 => by simp [ycX]
 | r :: l, i, j + 1 => by
  simp only [ycX, List.getElem?_cons_succ, yhR I l (i + 1) j]
  rw [show i + 1 + j = i + (j + 1) by omega]
theorem yeJ (I : List Nat) : ∀ (l : List Res) (i : Nat), (zrV I i l).length = l.length
 | [], _ => rfl
 | _ :: l, i => by simp only [zrV, List.length_cons, yeJ I l]
theorem ydI (I : List Nat) : ∀ (l : List EI) (i : Nat), (zpN I i l).length = l.length
 | [], _ => rfl
 | _ :: l, i => by simp only [zpN, List.length_cons, ydI I l]
theorem zzL (I : List Nat) : ∀ (l : List AO) (i : Nat), (ycX I i l).length = l.length
 | [], _ => rfl
 | _ :: l, i => by simp only [ycX, List.length_cons, zzL I l]
theorem yhO (I : List Nat) (E : List EI) : ELe E (zpN I 0 E) := fun i a h => by
 refine ⟨_, by rw [zxB, h]; rfl, ?_⟩
 rw [Nat.zero_add]
 cases hasN I i with
 | false => exact a.le_refl
 | true =>
  show a.le .dead
  cases a with
  | blk => exact .inr rfl
  | osl => exact .inr (.inl rfl)
  | mp => exact .inl rfl
  | dead => rfl
theorem HS.frame {B : Bas} {S S' : Mem} {w w' : World} {L L' : List Res} (H : HS B S w L) (H' : HS B S' w' L') (hS : Mem.le S S') {I : List Nat} (hf : ∀ i, hasN I i = false → i < L.length → lkR L' i = lkR L i) : HS B S w' (zrV I 0 L) := by
 have key : ∀ i q, lkR (zrV I 0 L) i = some q → q = zvR ∨ (lkR L i = some q ∧ lkR L' i = some q) := fun i q h => by
  rw [zaV, zvA, Nat.zero_add] at h
  cases hl : L[i]? with
  | none => rw [hl] at h; cases h
  | some r =>
   rw [hl] at h
   simp only [Option.map_some, Option.some.injEq] at h
   cases hi : hasN I i with
   | true => rw [hi] at h; exact .inl h.symm
   | false =>
    rw [hi] at h
    have h : r = q := h
    subst h
    have h2 : lkR L i = some r := by rw [zaV]; exact hl
    exact .inr ⟨h2, by rw [hf i hi (List.getElem?_eq_some_iff.1 hl).1]; exact h2⟩
 refine ⟨H'.fr, fun b o e => H'.sub b o (hS b o e), H.keep, fun i q h => ?_, fun i q b h hb => ?_, fun i j q s b hi hj hq hs => ?_⟩
 ·rcases key i q h with rfl | ⟨_, h⟩
  ·exact .inl ⟨rfl, rfl, rfl, rfl⟩
  ·exact H'.own i q h
 ·rcases key i q h with rfl | ⟨h, _⟩
  ·cases hb
  ·exact H.old i q b h hb
 ·rcases key i q hi with rfl | ⟨h1, _⟩
  ·cases hq
  ·rcases key j s hj with rfl | ⟨h2, _⟩
   ·cases hs
   ·exact H.inj i j q s b h1 h2 hq hs
theorem ytF {S : Mem} {E : List EI} {I : List Nat} {x : SV} {u : Value} (hx : okC I x = true) (h : VC S (zpN I 0 E) x u) : VC S E x u := by
 have at_ : ∀ {id e}, (!(hasN I id)) = true → (zpN I 0 E)[id]? = some e → E[id]? = some e := fun {id e} hi h1 => by
  have hi : hasN I id = false := by cases hh : hasN I id with
   | true => rw [hh] at hi; cases hi
   | false => rfl
  rw [zxB, Nat.zero_add, hi] at h1
  cases hE : E[id]? with
  | none => rw [hE] at h1; cases h1
  | some e' =>
   rw [hE] at h1
   have h1 : e' = e := osi h1
   subst h1; rfl
 unfold okC at hx
 split at hx
 ·rename_i id off
  obtain ⟨b, hu, e, h1, h2⟩ := (show VB S (zpN I 0 E) (.ptr id off) u from h)
  exact (⟨b, hu, e, at_ hx h1, h2⟩ : VB S E (.ptr id off) u)
 ·rename_i id ver
  obtain ⟨hu, e, h1, h2⟩ := (show VB S (zpN I 0 E) (.own id ver) u from h)
  exact (⟨hu, e, at_ hx h1, h2⟩ : VB S E (.own id ver) u)
 ·rename_i id
  obtain ⟨hu, e, h1, h2⟩ := (show VB S (zpN I 0 E) (.mpr id) u from h)
  exact (⟨hu, e, at_ hx h1, h2⟩ : VB S E (.mpr id) u)
 ·rename_i id ver i off
  obtain ⟨hu, e, h1, h2⟩ := (show VB S (zpN I 0 E) (.ep id ver i off) u from h)
  exact (⟨hu, e, at_ hx h1, h2⟩ : VB S E (.ep id ver i off) u)
 ·exact ((ygS hx (VR.ofC h) (Mem.le_refl S)).b (by cases x <;> first | rfl | cases hx)).b (by cases x <;> first | rfl | cases hx)
theorem ynQ {S : Mem} {E : List EI} {I : List Nat} : ∀ {l : List SV} {us : LV}, l.all (okC I) = true → A2 (VC S (zpN I 0 E)) l us → A2 (VC S E) l us
 | _, _, _, .nil => .nil
 | _, _, hp, .cons a t => by
  simp only [List.all_cons, Bool.and_eq_true] at hp
  exact .cons (ytF hp.1 a) (ynQ hp.2 t)
theorem ysM {S : Mem} {E : List EI} {I : List Nat} {x : SV} {u : Value} (hx : okA I x = true) (h : VA (VC S (zpN I 0 E)) x u) : VA (VC S E) x u := by
 unfold okA at hx
 split at hx
 ·rename_i l
  obtain ⟨us, h1, h2⟩ := h
  exact ⟨us, h1, ynQ hx h2⟩
 ·rename_i hn
  have hg : noag x = true := by cases x <;> first | rfl | exact absurd rfl (hn _)
  exact VA.of (ytF hx (h.b hg)) hg
theorem ylC {S : Mem} {E : List EI} {I : List Nat} : ∀ {l : List SV} {us : LV}, l.all (okA I) = true → A2 (VA (VC S (zpN I 0 E))) l us → A2 (VA (VC S E)) l us
 | _, _, _, .nil => .nil
 | _, _, hp, .cons a t => by
  simp only [List.all_cons, Bool.and_eq_true] at hp
  exact .cons (ysM hp.1 a) (ylC hp.2 t)
theorem xaQ {S : Mem} {E : List EI} {I : List Nat} {x : SV} {u : Value} (hx : okF I x = true) (h : VR S (zpN I 0 E) x u) : VR S E x u := by
 unfold okF at hx
 split at hx
 ·rename_i l
  obtain ⟨us, h1, h2⟩ := (show ∃ us, u = .tuple us.toArray ∧ A2 (VA (VC S (zpN I 0 E))) l us from h)
  exact (⟨us, h1, ylC hx h2⟩ : VR S E (.tup l) u)
 ·rename_i hn
  have hu : notu x = true := by cases x <;> first | rfl | exact absurd rfl (hn _) | cases hx
  exact VR.of (ysM hx (h.b hu))
theorem Ok1.twoF {o : Oper} {I : List Nat} {k : SV → St → Option β} {r : β} {w : World} (R : Rel n B S E L σ m w) (h : Ok1 P S E (evO n m) o (fun x => k x σ) r (fun w' => HS B S w' L)) : outcome P (Post2F n B S E L I m k r) ((execOp (evO n m) o).run P w) := by
 obtain ⟨z, u, h1, h2, h3⟩ := h
 rw [h3 w R.hs]
 exact ⟨z, σ, S, E, L, h1, Mem.le_refl _, ELe.refl _, R, h2, fun _ _ _ => rfl⟩
theorem yqS {o : Op} {T : TypeId} {k : SV → St → Option β} (h : (mvOp o || ypS o) = true) : op2 τ Γ σ o T k = op1 τ σ o fun x => k x σ := by
 cases o with
 | call c =>
  unfold mvOp ypS at h
  simp only [Bool.false_or] at h
  split at h
  all_goals first
   | (rename_i e; cases e; done)
   | cases h
   | skip
  all_goals (rename_i e; cases e; rfl)
 | _ => first | rfl | cases h
theorem xbH {T : TypeId} {f : TI} {a x : Operand} {I : List Nat} {id off : Nat} {B' : TypeId} {cs : List SV} {sv : SV} {k : SV → St → Option β} {r : β} {w : World} {dst : Option Tmp} {g : Option (Nat × Bool)} {ty : TypeId} {pos : String} {aft : Array Edge} (hi : hasN I id = true) (hT : TIok P T f) (R : Rel n B S E L σ m w) (ha : VR S E (.ptr id off) (evO n m a)) (hx : VR S E sv (evO n m x)) (hc : atN σ.hp id = some (.blk B' cs))
  (hb : (Nat.beq (cellL sv).length f.sz && Nat.ble (off + f.sz) cs.length && notu sv) = true) (h : k .undef ⟨σ.sl, setN σ.hp id (.blk B' (layS cs off (cellL sv)))⟩ = some r) :
  outcome P (Post2F n B S E L I m k r) ((execOp (evO n m) ⟨dst, .store T a x, ty, pos, aft, g⟩).run P w) := by
 obtain ⟨r0, e0, h1, h2, b, us, rfl, rfl, h3⟩ := R.objN hc
 obtain ⟨b1, hu, e1, h4, h5⟩ := ha
 rw [h2] at h4; cases h4
 cases h5 _ rfl
 obtain ⟨h6, h7⟩ := zuP (hx.b (zbQ hb))
 have h8 := Nat.eq_of_beq_eq_true (zaU (zaU hb)); have h9 := Nat.le_of_ble_eq_true (zbQ (zaU hb))
 obtain ⟨w', h10, h11⟩ := ydA (g := g) (ty := ty) (pos := pos) (aft := aft) (P := P) hT.tsz R.hs hu h1 rfl h7 (by rw [← h6.len, h8]) (VC.ones h6) (by rw [← h3.len, Nat.ble_eq]; exact h9)
 have h10' : (execOp (evO n m) ⟨dst, .store T a x, ty, pos, aft, g⟩).run P w = .ok .skip w' := h10
 rw [h10']
 refine ⟨_, _, S, E, _, h, Mem.le_refl _, ELe.refl _, R.upd1 h2 h11 ⟨b, _, rfl, rfl, zvY off h3 h6⟩, trivial, fun j hj _ => zcH fun e => ?_⟩
 subst e
 rw [hi] at hj; cases hj
theorem ywF {o : Op} {T : TypeId} {I : List Nat} {k : SV → St → Option β} {r : β} {w : World} {dst : Option Tmp} {g : Option (Nat × Bool)} {pos : String} {aft : Array Edge} (hτ : TEok P τ) (R : Rel n B S E L σ m w) (ho : okP I σ o = true) (h : op2 τ Γ σ o T k = some r) :
  outcome P (Post2F n B S E L I m k r) ((execOp (evO n m) ⟨dst, o, T, pos, aft, g⟩).run P w) := by
 have pure : (mvOp o || ypS o) = true → outcome P (Post2F n B S E L I m k r) ((execOp (evO n m) ⟨dst, o, T, pos, aft, g⟩).run P w) := fun hp => by
  rw [yqS hp] at h
  exact Ok1.twoF R (yiO hτ R h)
 cases o with
 | store T' a x =>
  simp only [op2] at h
  simp only [okP] at ho
  cases hea : ev σ a with
  | none => rw [hea] at ho; cases ho
  | some sa =>
   rw [hea] at ho h
   cases sa with
   | ptr id off =>
    split at h
    ·rename_i f id' off' sv hT ha' hx
     cases ha'
     split at h
     ·rename_i B' cs hc
      obtain ⟨hb, h⟩ := zaC h
      exact xbH ho (hτ _ _ hT) R (zbH R hea) (zbH R hx) hc hb h
     ·cases h
    ·rename_i ha' _; cases ha'
    ·rename_i ha' _; cases ha'
    ·cases h
   | _ => cases ho
 | _ => exact pure ho
theorem ybF {x : Operand} {ash : List Operand} {at_ : Array TypeId} {f : Nat} {xs : List SV} {I : List Nat} {k : SV → St → Option β} {r : β} {w : World} {dst : Option Tmp} {g : Option (Nat × Bool)} {ty : TypeId} {pos : String} {aft : Array Edge} (R : Rel n B S E L σ m w) (hx : zsA σ x ash = some (f, xs)) : ∀ {l : List SC}, (∀ c ∈ l, SCB P B f c) → ycL I σ x ash xs k l = some r →
  outcome P (Post2F n B S E L I m k r) ((execOp (evO n m) ⟨dst, .call ⟨.value x, ash.toArray, at_⟩, ty, pos, aft, g⟩).run P w)
 | [], _, h => by cases h
 | c :: l, hc, h => by
  unfold ycL at h
  cases hb : (Nat.beq xs.length c.I.sl.length && (yaQ (c.I.need 0 ⟨argS 0 xs, σ.hp⟩) && ylP I c.I.hp (c.I.rho 0 ⟨argS 0 xs, σ.hp⟩))) with
  | false => rw [hb] at h; exact ybF (at_ := at_) R hx (fun c' hc' => hc c' (List.mem_cons_of_mem _ hc')) h
  | true =>
   rw [hb] at h
   refine zfN (yiZ R hx (hc c List.mem_cons_self) (zaU (zbQ hb)) h) ?_
   rintro v w' ⟨x, σ', S', E', L', h1, h2, h3, h4, h5, h6⟩
   refine ⟨x, σ', S', E', L', h1, h2, h3, h4, h5, fun i hi hlt => ?_⟩
   rw [zaV, zaV, h6 i hlt (ydO hi 0 (zbQ (zbQ hb)))]
theorem yhJ {o : Op} {T : TypeId} {I : List Nat} {k : SV → St → Option β} {r : β} {w : World} {dst : Option Tmp} {g : Option (Nat × Bool)} {pos : String} {aft : Array Edge} (hτ : TEok P τ) (hΓ : CTok P Γ B) (R : Rel n B S E L σ m w) (h : op2P τ Γ I σ o T k = some r) :
  outcome P (Post2F n B S E L I m k r) ((execOp (evO n m) ⟨dst, o, T, pos, aft, g⟩).run P w) := by
 unfold op2P at h
 cases ho : okP I σ o with
 | true => rw [ho] at h; exact ywF hτ R ho h
 | false =>
  rw [ho] at h
  simp only [cond_false] at h
  split at h
  ·rename_i x ash at_
   split at h
   ·rename_i f xs hx
    exact ybF (ash := ash.toList) (at_ := at_) R hx (fun c hc => hΓ.sc f c hc) h
   ·cases h
  ·cases h
theorem yiN {f : Nat → Bool} : ∀ {n : Nat}, ymX n f = true → ∀ i, i < n → f i = true
 | n + 1, h, i, hi => by
  unfold ymX at h
  by_cases e : i = n
  ·subst e; exact zaU h
  ·exact yiN (zbQ h) i (by omega)
theorem zuZ {t : Nat} : ∀ {l : List Oper}, hasN (zpQ l) t = true ↔ ∃ o ∈ l, o.dst = some t
 | [] => by simp [zpQ, hasN]
 | o :: l => by
  have ih := zuZ (t := t) (l := l)
  unfold zpQ
  cases hd : o.dst with
  | none => simp [ih, hd]
  | some d => simp only [hasN, Bool.or_eq_true, ih, zoM, decide_eq_true_eq, List.mem_cons, exists_eq_or_imp, hd, Option.some.injEq]
end
section
variable {B : Bas} {S S' : Mem} {w w' : World} {L A : List Res}
theorem HS.part (H : HS B S w L) (h : ∀ i r, lkR A i = some r → r = zvR ∨ lkR L i = some r) : HS B S w A := by
 refine ⟨H.fr, H.sub, H.keep, fun k r hk => ?_, fun k r b hk hb => ?_, fun i j r s b hi hj h1 h2 => ?_⟩
 ·rcases h k r hk with rfl | h
  ·exact .inl ⟨rfl, rfl, rfl, rfl⟩
  ·exact H.own k r h
 ·rcases h k r hk with rfl | h
  ·cases hb
  ·exact H.old k r b h hb
 ·rcases h i r hi with rfl | hi
  ·cases h1
  ·rcases h j s hj with rfl | hj
   ·cases h2
   ·exact H.inj i j r s b hi hj h1 h2
theorem HS.home (H : HS B S w L) (H' : HS ⟨S, zbX L, w⟩ S' w' A) : HS B S' w' A :=
 HS.back H H' (fun _ h => h) (fun i r _ hi _ => .inl ⟨i, hi⟩) (fun i r hi _ => H'.own i r hi) H'.inj
theorem HS.cons (H : HS B S w L) {r : Res} (hr : r.holds w) (hn : ∀ b, r.key = some b → B.w0.heap.size ≤ b ∧ S b = none ∧ b ∉ zbX L) : HS B S w (r :: L) := by
 have away : ∀ {i q b}, lkR L i = some q → q.key = some b → r.key = some b → False := fun {i q b} hi hq hr => (hn b hr).2.2 (zdL.2 ⟨i, q, hi, hq⟩)
 refine ⟨H.fr, H.sub, H.keep, fun k q hk => ?_, fun k q b hk hb => ?_, fun i j q s b hi hj h1 h2 => ?_⟩
 ·cases k with
  | zero => cases hk; exact hr
  | succ k => exact H.own k q hk
 ·cases k with
  | zero => cases hk; exact ⟨.inl (hn b hb).1, (hn b hb).2.1⟩
  | succ k => exact H.old k q b hk hb
 ·cases i with
  | zero =>
   cases j with
   | zero => rfl
   | succ j => cases hi; exact (away hj h2 h1).elim
  | succ i =>
   cases j with
   | zero => cases hj; exact (away hi h1 h2).elim
   | succ j => rw [H.inj i j q s b hi hj h1 h2]
end
theorem yfB {W : List Nat} {i : Nat} (h : hasN W i = false) : ∀ {l : List Nat}, allN W l = true → hasN l i = false
 | [], _ => rfl
 | x :: l, hl => by
  unfold allN at hl
  unfold hasN
  rw [yfB h (zbQ hl), Bool.or_false]
  cases hb : Nat.beq x i with
  | false => rfl
  | true => rw [Nat.eq_of_beq_eq_true hb, h] at hl; cases (zaU hl)
theorem ysG {l : List Nat} (h : yaQ l = true) : l = [] := by cases l with
 | nil => rfl
 | cons a l => cases h
section
variable {β : Type} {τ : TE} {Γ : CT} {n : Nat} {P : Program} {B : Bas} {S : Mem} {E : List EI} {L : List Res} {σ : St} {m : FM} {w : World}
theorem CTok.lend (h : CTok P Γ B) (H : HS B S w L) : CTok P Γ ⟨S, zbX L, w⟩ := by
 have at_ : ∀ {S1 w1}, At ⟨S, zbX L, w⟩ S1 w1 → At B S1 w1 := fun ⟨S2, L2, hle, H2⟩ => ⟨S2, L2, hle, HS.home H H2⟩
 exact ⟨fun f c hc => ⟨(h.pc f c hc).fn, fun S w us a y hA => (h.pc f c hc).ok S w us a y (at_ hA)⟩, fun f c hc => ⟨(h.sc f c hc).fn, fun S w us E L a d hA => (h.sc f c hc).ok S w us E L a d (at_ hA)⟩⟩
theorem Rel.kill (R : Rel n B S E L σ m w) (I : List Nat) : Rel n B S (zpN I 0 E) (zrV I 0 L) ⟨σ.sl, ycX I 0 σ.hp⟩ m w := by
 refine ⟨HS.part R.hs fun i r hi => ?_, by rw [yeJ, zzL]; exact R.lL, by rw [ydI, zzL]; exact R.lE, fun j q hq => ?_, fun t => (R.sl t).mono (Mem.le_refl S) (yhO I E)⟩
 ·rw [zaV, zvA, Nat.zero_add] at hi
  cases hl : L[i]? with
  | none => rw [hl] at hi; cases hi
  | some r' =>
   rw [hl] at hi
   simp only [Option.map_some, Option.some.injEq] at hi
   cases hh : hasN I i with
   | true => rw [hh] at hi; exact .inl hi.symm
   | false => rw [hh] at hi; right; rw [zaV, hl, ← hi]; rfl
 ·rw [yhR, Nat.zero_add] at hq
  cases hj : σ.hp[j]? with
  | none => rw [hj] at hq; cases hq
  | some q' =>
   obtain ⟨r, e, h1, h2, h3⟩ := R.obj j q' hj
   rw [hj] at hq
   refine ⟨_, _, by rw [zvA, h1]; rfl, by rw [zxB, h2]; rfl, ?_⟩
   rw [Nat.zero_add]
   simp only [Option.map_some, Option.some.injEq] at hq
   cases hi : hasN I j with
   | true => rw [hi] at hq; subst hq; exact ⟨rfl, rfl⟩
   | false => rw [hi] at hq; subst hq; exact h3.mono (Mem.le_refl S) (yhO I E)
theorem yyF {o : Op} {W : List Nat} {k : SV → Option β} {r : β} {dst : Option Tmp} {ty : TypeId} {pos : String} {aft : Array Edge} {g : Option (Nat × Bool)} (hτ : TEok P τ) (R : Rel n B S E L σ m w) (h : fopS τ W σ o k = some r) :
  Ok1 P S E (evO n m) ⟨dst, o, ty, pos, aft, g⟩ k r (fun w => HS B S w (zrV W 0 L)) := by
 unfold fopS at h
 cases hm : xbD o with
 | true =>
  rw [hm] at h
  simp only [cond_true] at h
  exact xaR hτ (fun x a hx => zbH R hx) h
 | false =>
  rw [hm] at h
  simp only [cond_false] at h
  obtain ⟨z, u, h1, h2, h3⟩ := yiO (dst := dst) (ty := ty) (pos := pos) (aft := aft) (g := g) hτ (R.kill W) h
  obtain ⟨hok, h1⟩ := zaC h1
  exact ⟨z, u, h1, xaQ hok h2, h3⟩
def LateD (S : Mem) (E : List EI) : AO → Value → Nat → Obj → Prop
 | .blk T cs, v, k, x => v = .pointer (some ⟨k, 0, none⟩) ∧ ∃ us : LV, x = .cells us.toArray T (0, 0) ∧ A2 (VC S E) cs us
 | .osl ver e T xs, v, k, x => ver = 0 ∧ v = sl k 0 xs.length xs.length ∧ ∃ cs : LV, x = .cells cs.toArray T (0, 0) ∧ cs.length = xs.length * tsz e ∧ RL S cs xs
 | _, _, _, _ => False
theorem LateD.mono {S' : Mem} {E' : List EI} (hS : Mem.le S S') (hE : ELe E E') {o : AO} {v : Value} {k : Nat} {x : Obj} (h : LateD S E o v k x) : LateD S' E' o v k x := by
 cases o with
 | blk T cs => obtain ⟨h1, us, h2, h3⟩ := h; exact ⟨h1, us, h2, h3.imp fun _ _ => VC.mono hS hE⟩
 | osl ver e T xs => obtain ⟨h0, h1, cs, h2, h3, h4⟩ := h; exact ⟨h0, h1, cs, h2, h3, h4.mono hS⟩
 | _ => exact h.elim
theorem LateD.adopt (R : Rel n B S E L σ m w) {o : AO} {v : Value} {k : Nat} {x : Obj} (h : LateD S E o v k x) (h1 : k ∉ zbX L) (h2 : S k = none) (h3 : B.w0.heap.size ≤ k) : ∃ r e, r.key = some k ∧ (∀ w', w'.heap[k]? = some x → r.holds w') ∧
  (∀ w', HS B S w' L → w'.heap[k]? = some x → Rel n B S (E ++ [e]) (L ++ [r]) ⟨σ.sl, σ.hp ++ [o]⟩ m w') ∧ VR S (E ++ [e]) (aoV σ.hp.length o) v := by
 cases o with
 | blk T cs =>
  obtain ⟨rfl, us, rfl, hu⟩ := h
  refine ⟨.blk k us T, .blk k, rfl, fun w' hw => hw, fun w' H hw => ?_, ?_⟩
  ·exact (R.to H).snoc (HS.cons H hw fun b hb => by cases hb; exact ⟨h3, h2, h1⟩) ⟨k, us, rfl, rfl, hu.imp fun _ _ => VC.mono (Mem.le_refl _) (ELe.push E _)⟩
  ·exact ⟨k, rfl, .blk k, (by rw [← R.lE]; simp : (E ++ [EI.blk k])[σ.hp.length]? = some (EI.blk k)), fun b' hb => by cases hb; rfl⟩
 | osl ver e T xs =>
  obtain ⟨rfl, rfl, cs, rfl, hl, hr⟩ := h
  have hold : ∀ w', w'.heap[k]? = some (Obj.cells cs.toArray T (0, 0)) → (Res.osl (sl k 0 xs.length xs.length) xs.length (tsz e) cs [] T).holds w' := fun w' hw => .inr ⟨k, xs.length, (0, 0), rfl, Nat.le_refl _, hl, by rw [List.append_nil]; exact Nat.le_of_eq hl.symm, by rw [List.append_nil]; exact hw, .inl rfl⟩
  refine ⟨.osl (sl k 0 xs.length xs.length) xs.length (tsz e) cs [] T, .osl 0 (sl k 0 xs.length xs.length) (tsz e), rfl, hold, fun w' H hw => ?_, ?_⟩
  ·exact (R.to H).snoc (e := .osl 0 (sl k 0 xs.length xs.length) (tsz e)) (o := .osl 0 e T xs) (HS.cons H (hold w' hw) fun b hb => by cases hb; exact ⟨h3, h2, h1⟩) ⟨_, _, cs, [], rfl, rfl, hr, .inl rfl⟩
  ·exact ⟨rfl, .osl 0 (sl k 0 xs.length xs.length) (tsz e), (by rw [← R.lE]; simp : (E ++ [EI.osl 0 (sl k 0 xs.length xs.length) (tsz e)])[σ.hp.length]? = some (EI.osl 0 (sl k 0 xs.length xs.length) (tsz e))), fun r' v' s' hq => by cases hq; exact ⟨Nat.le_refl _, fun _ => rfl⟩⟩
 | _ => exact h.elim
theorem yqJ {o : Op} {ao : AO} {dst : Option Tmp} {ty : TypeId} {pos : String} {aft : Array Edge} {g : Option (Nat × Bool)} (hτ : TEok P τ) (R : Rel n B S E L σ m w) (h : yuE τ σ o = some ao) (w1 : World) : ∃ v k x w', (execOp (evO n m) ⟨dst, o, ty, pos, aft, g⟩).run P w1 = .ok (.value v) w' ∧ Ext w1 w' ∧ w1.heap.size ≤ k ∧ w'.heap[k]? = some x ∧ LateD S E ao v k x := by
 unfold yuE at h
 split at h
 ·rename_i T
  split at h
  ·rename_i f hT
   obtain ⟨hb, h⟩ := zaC h
   cases h
   have hF := hτ _ _ hT
   have hcs : (zV f).cells.toList = f.z.map zc := by
    rw [hF.cells (by
     cases ha : f.agg with
     | true => exact .inl rfl
     | false => rw [ha] at hb; exact .inr (Nat.eq_of_beq_eq_true hb))]
   refine ⟨_, w1.heap.size, _, w1.alloc (.cells (f.z.map zc).toArray T), by simp [execOp, ybA hF.zero, ← hcs], Ext.alloc w1 _, Nat.le_refl _, zaE w1 _, rfl, _, rfl, zwJ hF.z⟩
  ·cases h
 ·rename_i T N ps
  split at h
  ·rename_i E' z1 z2 z3 z4 hT
   split at h
   ·rename_i f hf
    obtain ⟨hb, h⟩ := zaC h
    split at h
    ·rename_i ys hys
     cases h
     obtain ⟨ps⟩ := ps
     have hb := zaU hb
     have hN := Nat.eq_of_beq_eq_true (zbQ (zaU hb))
     have hN : N = ps.length := hN
     subst hN
     have hz := Nat.eq_of_beq_eq_true (zbQ (zaU (zaU hb)))
     have hTn := zvW ((hτ _ _ hT).sl rfl) (hτ _ _ hf) (zaU (zaU (zaU hb))) hz
     have hE := hτ _ _ hf
     obtain ⟨us, h1, h2, h3⟩ := ylB R hz (pre := []) (i := 0) (zl := f.z.map zc) (N := ps.length) hys (by simp) (by rw [List.length_map, hE.zl]) (by simp)
     simp only [List.nil_append] at h1
     rw [hz] at h1
     have hle := Nat.le_of_ble_eq_true (zbQ hb)
     have hrun := zyH (P := P) (w := w1) (dst := dst) (ty := ty) (pos := pos) (aft := aft) (g := g) hTn rfl h1 (by rw [Nat.ble_eq, ← hz]; omega)
     refine ⟨_, w1.heap.size, _, _, hrun, Ext.alloc w1 _, Nat.le_refl _, zaE w1 _, rfl, by rw [h3], us, rfl, ?_, h2⟩
     rw [h2.len]; congr 1; exact zjK f.ty
    ·cases h
   ·cases h
  ·cases h
 ·cases h
section
variable {k : SV → St → Option β} {r : β} {dst : Option Tmp} {ty : TypeId} {pos : String} {aft : Array Edge} {g : Option (Nat × Bool)}
theorem ylK {W : List Nat} {i : Nat} : ∀ {l : List Nat}, allN W l = true → hasN W i = false → hasN l i = false
 | [], _, _ => rfl
 | x :: l, h, hi => by
  unfold allN at h
  unfold hasN
  rw [ylK (zbQ h) hi]
  cases hb : Nat.beq x i with
  | false => rfl
  | true => rw [Nat.eq_of_beq_eq_true hb, hi] at h; cases h
theorem xaM {x : Operand} {ash : List Operand} {at_ : Array TypeId} {I : List Nat} (hΓ : CTok P Γ B) (R : Rel n B S E L σ m w) (h : pcK Γ I σ x ash k = some (some r)) :
  outcome P (Post2F n B S E L I m k r) ((execOp (evO n m) ⟨dst, .call ⟨.value x, ash.toArray, at_⟩, ty, pos, aft, g⟩).run P w) := by
 unfold pcK at h
 split at h
 ·rename_i f xs hx
  split at h
  ·rename_i c hc
   have hc' := hΓ.pc _ _ hc
   obtain ⟨_, _, us0, hev0, hus0, hA0⟩ := zoC R hx
   cases hs : c.rts.any zvP with
   | true =>
    rw [hs] at h
    simp only [cond_true] at h
    obtain ⟨hI, h⟩ := zaC h
    obtain ⟨S1, E1, L1, h1, h2, R1, hF⟩ := yiD (xs.flatMap owns) R
    split at h
    ·rename_i f' xs' hx'
     split at h
     ·rename_i a ha
      have h := osi h
      obtain ⟨y, hy, h⟩ := bnd h
      obtain ⟨first, cap, us, hev, hus, hA⟩ := zoC R1 hx'
      have hA2 := zwY (Mem.le_refl S1) zeP ha hA
      refine zjH hc'.fn hev0 (by simpa using hus0) ?_
      have : us = us0 := by rw [hev0] at hev; cases hev; rw [← hus0, ← hus]
      subst this
      exact (hc'.ok S1 w us a y ⟨S1, L1, Mem.le_refl _, R1.hs⟩ R1.hs.sub hA2 hy).mono fun e w' ⟨hx, v, he, hr⟩ => ⟨v, he, _, _, gr S1 w w', E1, L1, h, Mem.le_trans h1 (ygF R1.hs.sub), h2, R1.call hx, zxJ hr.1 hr.2, fun i hi _ => hF i (ylK hI hi)⟩
     ·cases h
    ·cases h
   | false =>
    rw [hs] at h
    simp only [cond_false] at h
    split at h
    ·rename_i a ha
     have h := osi h
     obtain ⟨y, hy, h⟩ := bnd h
     refine zjH hc'.fn hev0 (by simpa using hus0) ?_
     have hA2 := zwY R.hs.sub R.own_ok ha hA0
     exact (hc'.ok (znN w) w us0 a y ⟨S, L, R.hs.sub, R.hs⟩ (yhZ w) hA2 hy).mono fun e w' ⟨hx, v, he, hr⟩ => ⟨v, he, _, _, gr S w w', E, L, h, ygF R.hs.sub, ELe.refl E, R.call hx, zxJ (ydZ hs hr.1) hr.2, fun _ _ _ => rfl⟩
    ·cases h
  ·cases h
 ·cases h
theorem yrT {o : Op} {T : TypeId} {I : List Nat} (hτ : TEok P τ) (R : Rel n B S E L σ m w) (ho : yqU I σ o = true) (h : op2 τ Γ σ o T k = some r) :
  outcome P (Post2F n B S E L I m k r) ((execOp (evO n m) ⟨dst, o, ty, pos, aft, g⟩).run P w) := by
 unfold yqU at ho
 split at ho
 ·rename_i T'
  simp only [op2] at h
  split at h
  ·rename_i f hT
   obtain ⟨hb, h⟩ := zaC h
   have hF := hτ _ _ hT
   have hcs : (zV f).cells.toList = f.z.map zc := by
    rw [hF.cells (by
     cases ha : f.agg with
     | true => exact .inl rfl
     | false => rw [ha] at hb; exact .inr (Nat.eq_of_beq_eq_true hb))]
   obtain ⟨w', b, h1, h2⟩ := ygH (dst := dst) (ty := ty) (pos := pos) (aft := aft) (g := g) (e := evO n m) R.hs hF.zero hcs
   rw [h1]
   exact (yfC R h2 (zwJ hF.z) h).sub fun _ _ _ => rfl
  ·cases h
 ·rename_i T' N ps
  simp only [op2, op2b] at h
  have hn := ysG ho
  rw [hn] at h
  simp only [frzL] at h
  split at h
  ·rename_i E' z1 z2 z3 z4 hT
   split at h
   ·rename_i f hf
    obtain ⟨hb, hq⟩ := zaC h; clear h; have h := hq; clear hq
    split at h
    ·rename_i ys hys
     obtain ⟨ps⟩ := ps
     exact zfN (yeV (dst := dst) (g := g) (ty := ty) (pos := pos) (aft := aft) R ((hτ _ _ hT).sl rfl) (hτ _ _ hf) (zaU (zaU (zaU hb))) (Nat.eq_of_beq_eq_true (zbQ (zaU (zaU hb)))) (Nat.eq_of_beq_eq_true (zbQ (zaU hb))) (Nat.le_of_ble_eq_true (zbQ hb)) hys h) fun _ _ hp => hp.sub fun _ _ _ => rfl
    ·cases h
   ·cases h
  ·cases h
 ·rename_i x y T1 T2
  simp only [op2] at h
  exact zfN (yeB (Γ := Γ) hτ R h) fun _ _ hp => hp.sub fun i hi _ => yfB hi ho
 ·cases ho
theorem ywD {o : Op} {T : TypeId} {I : List Nat} (hτ : TEok P τ) (hΓ : CTok P Γ B) (R : Rel n B S E L σ m w) (h : op2K τ Γ I σ o T k = some r) :
  outcome P (Post2F n B S E L I m k r) ((execOp (evO n m) ⟨dst, o, T, pos, aft, g⟩).run P w) := by
 unfold op2K at h
 cases ho : yqU I σ o with
 | true => rw [ho] at h; exact yrT (T := T) hτ R ho h
 | false =>
  rw [ho] at h
  cases hu : ymX σ.hp.length (hasN I) with
  | true =>
   rw [hu] at h
   refine zfN (ytL (T := T) hτ hΓ R h) fun v w' ⟨x, σ', S', E', L', h1, h2, h3, h4, h5⟩ => ⟨x, σ', S', E', L', h1, h2, h3, h4, h5, fun i hi hl => ?_⟩
   rw [yiN hu i (by rw [← R.lL]; exact hl)] at hi; cases hi
  | false =>
  rw [hu] at h
  simp only [Bool.or_self, cond_false] at h
  split at h
  ·rename_i x ash as_
   split at h
   ·rename_i r' hr
    obtain ⟨ash⟩ := ash
    exact xaM hΓ R (by rw [hr, h])
   ·exact yhJ hτ hΓ R h
  ·exact yhJ hτ hΓ R h
end
theorem ydY {r : β} {all : List Oper} {o : Oper} {doIt skip : St → Option β} (R : Rel n B S E L σ m w) (h : yhT all σ o.guard doIt skip = some r) :
  (∃ σ', Rel n B S E L σ' m w ∧ Region.wanted o (yielded all.toArray (fr n m).tmps) = true ∧ doIt σ' = some r) ∨ (∃ σ', Rel n B S E L σ' m w ∧ Region.wanted o (yielded all.toArray (fr n m).tmps) = false ∧ skip σ' = some r) := by
 unfold yhT at h
 split at h
 ·rename_i hg
  exact .inl ⟨σ, R, zqG hg, h⟩
 ·rename_i j b hg
  split at h
  ·rename_i d hd
   split at h
   ·rename_i t ht
    have hv : evO n m (.tmp d) = .bool t := vB (by have := R.sl d; rw [ht] at this; exact this)
    have hw := zyL (o := o) hg (yhG (m := m) (n := n) hd hv)
    have Rt : ∀ q : Bool, t = q → Rel n B S E L (σ.put d (.v .b q)) m w := fun q hq => R.re (by rw [hv, hq]; exact bV q)
    cases t with
    | true =>
     cases b with
     | true => exact .inl ⟨_, Rt true rfl, hw, h⟩
     | false => exact .inr ⟨_, Rt true rfl, hw, h⟩
    | false =>
     cases b with
     | true => exact .inr ⟨_, Rt false rfl, hw, h⟩
     | false => exact .inl ⟨_, Rt false rfl, hw, h⟩
   ·rename_i ht
    have hv : evO n m (.tmp d) = undef := by have := R.sl d; rw [ht] at this; exact this
    exact .inr ⟨_, R, yeO hg (ygM (m := m) (n := n) hd hv), h⟩
   ·cases h
  ·cases h
theorem HS.shrink {S' : Mem} {w1 w' : World} {L1 A : List Res} (H : HS B S w1 L1) (hS : Mem.le S S') (H' : HS B S' w' A) : HS B S w' A := by
 refine ⟨H'.fr, fun b o hb => H'.sub b o (hS b o hb), H.keep, H'.own, fun k r b hk hb => ⟨(H'.old k r b hk hb).1, ?_⟩, H'.inj⟩
 cases h : S b with
 | none => rfl
 | some o => have := hS b o h; rw [(H'.old k r b hk hb).2] at this; cases this
theorem HS.toJ {L0 : List Res} {W : List Nat} (hfr : ∀ i, hasN W i = false → i < L0.length → lkR L i = lkR L0 i) (H : HS B S w L) : HS B S w (zrV W 0 L0) :=
 HS.part H fun i r hi => by
  rw [zaV, zvA, Nat.zero_add] at hi
  cases hl : L0[i]? with
  | none => rw [hl] at hi; cases hi
  | some r' =>
   rw [hl] at hi
   simp only [Option.map_some, Option.some.injEq] at hi
   cases hh : hasN W i with
   | true => rw [hh] at hi; exact .inl hi.symm
   | false =>
    rw [hh] at hi
    right
    rw [hfr i hh (List.getElem?_eq_some_iff.1 hl).1, zaV, hl, ← hi]; rfl
def PnI (B : Bas) (S : Mem) (L : List Res) (Jp : Nat → World → Prop) (p : Nat × List Nat) : Prop :=
 ∃ S1 L1 w1, HS B S1 w1 L1 ∧ Mem.le S1 S ∧ L1.length ≤ L.length ∧ (∀ i, hasN p.2 i = false → i < L1.length → lkR L i = lkR L1 i) ∧ Jp p.1 = fun w => HS B S1 w (zrV p.2 0 L1)
theorem PnI.j {Jp : Nat → World → Prop} {p : Nat × List Nat} (h : PnI B S L Jp p) {u : World} (hu : HS B S u L) : Jp p.1 u := by
 obtain ⟨S1, L1, w1, h1, h2, h3, h4, h5⟩ := h
 rw [h5]
 exact HS.shrink h1 h2 (HS.toJ h4 hu)
theorem PnI.next {Jp : Nat → World → Prop} {p : Nat × List Nat} {S' : Mem} {L' : List Res} (h : PnI B S L Jp p) (hS : Mem.le S S') (hl : L.length ≤ L'.length) (hf : ∀ i, hasN p.2 i = false → i < L.length → lkR L' i = lkR L i) : PnI B S' L' Jp p := by
 obtain ⟨S1, L1, w1, h1, h2, h3, h4, h5⟩ := h
 exact ⟨S1, L1, w1, h1, Mem.le_trans h2 hS, Nat.le_trans h3 hl, fun i hi hlt => by rw [hf i hi (by omega), h4 i hi hlt], h5⟩
theorem ygP {i : Nat} : ∀ {pn : List (Nat × List Nat)}, ysD i pn = true → ∀ p ∈ pn, p.1 ≠ i
 | [], _, p, hp => by cases hp
 | q :: l, h, p, hp => by
  unfold ysD at h
  rcases List.mem_cons.1 hp with rfl | hp
  ·intro e; have := zaU h; rw [e, Nat.beq_refl] at this; cases this
  ·exact ygP (zbQ h) p hp
theorem ypP {ops : Array Oper} {i : Nat} {W : List Nat} : ∀ {pn : List (Nat × List Nat)}, pnOk ops i W pn = true → ∀ p ∈ pn, ancB ops i p.1 = false → allN p.2 W = true
 | [], _, p, hp, _ => by cases hp
 | q :: l, h, p, hp, ha => by
  unfold pnOk at h
  rcases List.mem_cons.1 hp with rfl | hp
  ·have := zaU h; rw [ha] at this; exact this
  ·exact ypP (zbQ h) p hp ha
theorem ybD {ops : Array Oper} {i : Nat} : ∀ (pn : List (Nat × List Nat)), yfX ops i (pn.map (·.1)) = (zwG ops i pn).map (·.1)
 | [] => rfl
 | q :: l => by
  have ih := ybD (ops := ops) (i := i) l
  unfold yfX zwG at ih ⊢
  simp only [List.map_cons, List.filter_cons]
  cases ancB ops i q.1 <;> simp [ih]
theorem yrC {W V : List Nat} {i : Nat} (h : allN V W = true) (hi : hasN V i = false) : hasN W i = false := yfB hi h
theorem HS.kp {w1 : World} (H : HS B S w1 L) : ∀ k, (k ∈ zbX L ∨ S k ≠ none ∨ k < B.w0.heap.size) → k < w1.heap.size := fun k h => by
 rcases h with h | h | h
 ·obtain ⟨i, r, h1, h2⟩ := zdL.1 h
  exact H.res_lt h1 h2
 ·exact Nat.lt_of_not_le fun hle => h (H.sub.none hle)
 ·exact Nat.lt_of_lt_of_le h H.fr.size
theorem ELe.len {E E' : List EI} (h : ELe E E') {b : Nat} (hb : b ≤ E.length) : b ≤ E'.length := by
 cases b with
 | zero => exact Nat.zero_le _
 | succ b =>
  obtain ⟨a, h1, _⟩ := h b _ (List.getElem?_eq_getElem hb)
  exact (List.getElem?_eq_some_iff.1 h1).1
theorem ymD {Jp : Nat → World → Prop} {i : Nat} {J : World → Prop} : updJ Jp i J i = J := by unfold updJ; rw [if_pos rfl]
theorem yxT {Jp : Nat → World → Prop} {i j : Nat} {J : World → Prop} (h : j ≠ i) : updJ Jp i J j = Jp j := by unfold updJ; rw [if_neg h]
theorem PnI.upd {Jp : Nat → World → Prop} {p : Nat × List Nat} {i : Nat} {J : World → Prop} (h : PnI B S L Jp p) (hi : p.1 ≠ i) : PnI B S L (updJ Jp i J) p := by
 obtain ⟨S1, L1, w1, h1, h2, h3, h4, h5⟩ := h
 exact ⟨S1, L1, w1, h1, h2, h3, h4, by rw [yxT hi]; exact h5⟩
theorem zuF {all : List Oper} {S0 : Mem} {E0 : List EI} {m0 : FM} {D : List Nat} {k : St → Option β} {r : β} {Q : Exit → Act → World → Prop} (hτ : TEok P τ) (hΓ : CTok P Γ B) (hD : ∀ t, hasN (zpQ all) t = true → hasN D t = true)
  (hQ : ∀ σ' S' E' L' m' w', k σ' = some r → Mem.le S0 S' → ELe E0 E' → Agr D m0 m' → Rel n B S' E' L' σ' m' w' → Q .normal (fr n m') w') :
  ∀ (s : SchW) (pd : List (Nat × AO)) (pn : List (Nat × List Nat)) {σ : St} {S : Mem} {E : List EI} {L : List Res} {m : FM} {w : World} {Dsc : Nat → Value → Nat → Obj → Prop} {Jp : Nat → World → Prop}, Mem.le S0 S → ELe E0 E → Agr D m0 m → (∀ p ∈ pn, PnI B S L Jp p) → Rel n B S E L σ m w → (∀ i ao, lkP pd i = some ao → ∃ S1 E1, Mem.le S1 S ∧ ELe E1 E ∧ Dsc i = LateD S1 E1 ao) → schS n τ Γ all.toArray all s pd pn σ k = some r →
  wpS P all.toArray Q (yoL s) Dsc Jp (pn.map (·.1)) (fun w => HS B S w L) (fun b => b ∈ zbX L ∨ S b ≠ none ∨ b < B.w0.heap.size) (fr n m)
 | [], pd, pn, σ, S, E, L, m, w, Dsc, Jp, hS, hE, hA, hpn, R, hp, h => fun w1 hw => hQ _ _ _ _ _ _ h hS hE hA (R.to hw)
 | (.pu, i, W) :: s, pd, pn, σ, S, E, L, m, w, Dsc, Jp, hS, hE, hA, hpn, R, hp, h => by
  simp only [schS] at h
  split at h
  ·rename_i o ho
   obtain ⟨hnew, h⟩ := zaC h
   have hoi : all.toArray[i]? = some o := by rw [List.getElem?_toArray, ← zdW]; exact ho
   have hdd : ∀ t, o.dst = some t → hasN D t = true := fun t ht => hD t (zuZ.2 ⟨o, List.mem_of_getElem? (by rw [← zdW]; exact ho), ht⟩)
   have hpn' : ∀ p ∈ (i, W) :: pn, PnI B S L (updJ Jp i fun w => HS B S w (zrV W 0 L)) p := fun p hp => by
    rcases List.mem_cons.1 hp with rfl | hp
    ·exact ⟨S, L, w, R.hs, Mem.le_refl _, Nat.le_refl _, fun _ _ _ => rfl, ymD⟩
    ·exact (hpn p hp).upd (ygP hnew p hp)
   have hG : ∀ u, HS B S u L → HS B S u (zrV W 0 L) := fun u hu => HS.toJ (fun _ _ _ => rfl) hu
   rcases ydY R h with ⟨σ', R', hw, h⟩ | ⟨σ', R', hw, h⟩
   ·obtain ⟨dst, op, ty, pos, aft, g⟩ := o
    obtain ⟨z, u, h1, h2, h3⟩ := yyF (dst := dst) (ty := ty) (pos := pos) (aft := aft) (g := g) hτ R' h
    obtain ⟨σ2, m2, h5, R2, h6, h7⟩ := zuG R' h2 h1
    refine ⟨_, u, fun w => HS B S w (zrV W 0 L), hoi, .inl ⟨hw, fun w1 hw1 => by rw [zjZ]; exact h3 w1 hw1⟩, hG, ?_⟩
    show wpS P all.toArray Q (yoL s) Dsc _ _ _ _ ((fr n m).put dst u)
    rw [h6]
    exact zuF hτ hΓ hD hQ s pd ((i, W) :: pn) hS hE (hA.trans (h7 D hdd)) hpn' R2 hp h5
   ·obtain ⟨σ2, m2, h5, R2, h6, h7⟩ := zuG R' (v := undef) (x := .skp) rfl h
    refine ⟨o, undef, fun w => HS B S w (zrV W 0 L), hoi, .inr ⟨hw, rfl⟩, hG, ?_⟩
    rw [h6]
    exact zuF hτ hΓ hD hQ s pd ((i, W) :: pn) hS hE (hA.trans (h7 D hdd)) hpn' R2 hp h5
  ·cases h
 | (.la, i, W) :: s, pd, pn, σ, S, E, L, m, w, Dsc, Jp, hS, hE, hA, hpn, R, hp, h => by
  simp only [schS] at h
  split at h
  ·rename_i o ho
   have hoi : all.toArray[i]? = some o := by rw [List.getElem?_toArray, ← zdW]; exact ho
   split at h
   ·rename_i ao hg hl
    refine ⟨o, LateD S E ao, hoi, zqG hg, fun w1 => ?_, ?_⟩
    ·obtain ⟨dst, op, ty, pos, aft, g⟩ := o
     rw [zjZ]
     exact yqJ hτ R hl w1
    ·refine zuF hτ hΓ hD hQ s ((i, ao) :: pd) pn hS hE hA hpn R (fun j bo hj => ?_) h
     unfold lkP at hj
     unfold updD
     cases hij : Nat.beq i j with
     | true =>
      rw [hij] at hj; cases hj
      rw [if_pos (Nat.eq_of_beq_eq_true hij).symm]
      exact ⟨S, E, Mem.le_refl _, ELe.refl _, rfl⟩
     | false =>
      rw [hij] at hj
      rw [if_neg fun e => by rw [e, Nat.beq_refl] at hij; cases hij]
      exact hp j bo hj
   ·cases h
  ·cases h
 | (.rv, i, W) :: s, pd, pn, σ, S, E, L, m, w, Dsc, Jp, hS, hE, hA, hpn, R, hp, h => by
  simp only [schS] at h
  split at h
  ·rename_i o ao ho hpi
   have hoi : all.toArray[i]? = some o := by rw [List.getElem?_toArray, ← zdW]; exact ho
   have hdd : ∀ t, o.dst = some t → hasN D t = true := fun t ht => hD t (zuZ.2 ⟨o, List.mem_of_getElem? (by rw [← zdW]; exact ho), ht⟩)
   obtain ⟨S1, E1, g1, g2, g3⟩ := hp i ao hpi
   refine ⟨o, hoi, fun v kk x hD1 hK ⟨w2, hw2, hx2⟩ => ?_⟩
   rw [g3] at hD1
   have hD1 := hD1.mono g1 g2
   have hk1 : kk ∉ zbX L := fun h => hK (.inl h)
   have hk2 : S kk = none := Classical.byContradiction fun h => hK (.inr (.inl h))
   have hk3 : B.w0.heap.size ≤ kk := Nat.le_of_not_lt fun h => hK (.inr (.inr h))
   obtain ⟨q, e, a1, a2, a3, a4⟩ := hD1.adopt R hk1 hk2 hk3
   have R2 := a3 w2 hw2 hx2
   obtain ⟨σ3, m3, h5, R3, h6, h7⟩ := zuG R2 a4 h
   have hpn' : ∀ p ∈ pn, PnI B S (L ++ [q]) Jp p := fun p hp => (hpn p hp).next (Mem.le_refl _) (by rw [List.length_append]; omega) fun j _ hj => zxE hj
   refine ⟨fun w => HS B S w (L ++ [q]), fun b => b ∈ zbX (L ++ [q]) ∨ S b ≠ none ∨ b < B.w0.heap.size, fun w1 h1 h2 => (a3 w1 h1 h2).hs, fun j hj w1 h1 => ?_, fun u u' h1 h2 => h1.ext h2, fun u h1 => HS.kp h1, fun b h1 => ?_, ?_⟩
   ·obtain ⟨p, hp1, rfl⟩ := List.mem_map.1 hj
    exact (hpn' p hp1).j h1
   ·rcases h1 with h1 | h1
    ·obtain ⟨t, q', t1, t2⟩ := zdL.1 h1
     rw [zaV] at t1
     by_cases ht : t < L.length
     ·rw [List.getElem?_append_left ht] at t1
      exact .inl (.inl (zdL.2 ⟨t, q', by rw [zaV]; exact t1, t2⟩))
     ·have : t = L.length := by
       have := (List.getElem?_eq_some_iff.1 t1).1
       simp at this; omega
      subst this
      simp at t1
      subst t1
      rw [a1] at t2; cases t2
      exact .inr rfl
    ·exact .inl (.inr h1)
   ·rw [h6]
    exact zuF hτ hΓ hD hQ s pd pn hS (hE.trans (ELe.push E _)) (hA.trans (h7 D hdd)) hpn' R3 (fun j bo hj => by
     obtain ⟨S2, E2, t1, t2, t3⟩ := hp j bo hj
     exact ⟨S2, E2, t1, t2.trans (ELe.push E _), t3⟩) h5
  ·cases h
 | (.mn, i, W) :: s, pd, pn, σ, S, E, L, m, w, Dsc, Jp, hS, hE, hA, hpn, R, hp, h => by
  simp only [schS] at h
  split at h
  ·rename_i o ho
   obtain ⟨hok, h⟩ := zaC h
   have hoi : all.toArray[i]? = some o := by rw [List.getElem?_toArray, ← zdW]; exact ho
   have hdd : ∀ t, o.dst = some t → hasN D t = true := fun t ht => hD t (zuZ.2 ⟨o, List.mem_of_getElem? (by rw [← zdW]; exact ho), ht⟩)
   have hrest : ∀ p ∈ zwG all.toArray i pn, p ∈ pn ∧ ancB all.toArray i p.1 = false := fun p hp => by
    have := List.mem_filter.1 hp
    exact ⟨this.1, by simpa using this.2⟩
   refine ⟨o, hoi, fun w1 hw1 => ?_⟩
   rw [ybD]
   rcases ydY (R.to hw1) h with ⟨σ', R', hw, h⟩ | ⟨σ', R', hw, h⟩
   ·left
    refine ⟨hw, ?_⟩
    obtain ⟨dst, op, ty, pos, aft, g⟩ := o
    rw [zjZ]
    have RL : Rel n ⟨S, zbX L, w1⟩ S E L σ' m w1 := ⟨HS.lend hw1, R'.lL, R'.lE, R'.obj, R'.sl⟩
    refine zfN (ywD hτ (hΓ.lend hw1) RL h) ?_
    rintro v w' ⟨x, σ2, S', E', L', h1, h2, h3, R2, h4, h5⟩
    have Hh := HS.home hw1 R2.hs
    have RB : Rel n B S' E' L' σ2 m w' := ⟨Hh, R2.lL, R2.lE, R2.obj, R2.sl⟩
    obtain ⟨σ3, m3, h6, R3, h7, h8⟩ := zuG RB h4 h1
    have hlen : L.length ≤ L'.length := by
     rw [R2.lL, ← R2.lE, R.lL, ← R.lE]; exact ELe.len h3 (Nat.le_refl _)
    have hpn' : ∀ p ∈ zwG all.toArray i pn, PnI B S' L' Jp p := fun p hp => by
     obtain ⟨t1, t2⟩ := hrest p hp
     exact (hpn p t1).next h2 hlen fun j hj hlt => h5 j (yrC (ypP hok p t1 t2) hj) hlt
    refine ⟨fun u => HS B S' u L', fun b => b ∈ zbX L' ∨ S' b ≠ none ∨ b < B.w0.heap.size, fun j hj u hu => ?_, fun u u' t1 t2 => t1.ext t2, fun u t1 => HS.kp t1, Hh, fun b t1 => ?_, fun b t1 t2 => R2.hs.fr.block b t1 fun t3 => t2 (.inl t3), ?_⟩
    ·obtain ⟨p, hp1, rfl⟩ := List.mem_map.1 hj
     exact (hpn' p hp1).j hu
    ·rcases t1 with t1 | t1 | t1
     ·obtain ⟨t, q', t2, t3⟩ := zdL.1 t1
      rcases (R2.hs.old t q' b t2 t3).1 with t4 | t4
      ·exact .inr t4
      ·exact .inl (.inl t4)
     ·by_cases hlt : b < w1.heap.size
      ·by_cases hX : b ∈ zbX L
       ·exact .inl (.inl hX)
       ·have := R2.hs.keep b hlt hX
        rw [this] at t1
        exact .inl (.inr (.inl t1))
      ·exact .inr (Nat.le_of_not_lt hlt)
     ·exact .inl (.inr (.inr t1))
    ·show wpS P all.toArray Q (yoL s) Dsc _ _ _ _ ((fr n m).put dst v)
     rw [h7]
     exact zuF hτ hΓ hD hQ s pd (zwG all.toArray i pn) (Mem.le_trans hS h2) (hE.trans h3) (hA.trans (h8 D hdd)) hpn' R3 (fun j bo hj => by
      obtain ⟨S2, E2, t1, t2, t3⟩ := hp j bo hj
      exact ⟨S2, E2, Mem.le_trans t1 h2, t2.trans h3, t3⟩) h6
   ·right
    refine ⟨hw, ?_⟩
    obtain ⟨σ2, m2, h5, R2, h6, h7⟩ := zuG R' (v := undef) (x := .skp) rfl h
    rw [h6]
    exact zuF hτ hΓ hD hQ s pd (zwG all.toArray i pn) hS hE (hA.trans (h7 D hdd)) (fun p hp => hpn p (hrest p hp).1) R2 hp h5
  ·cases h
theorem yoY {l : List Oper} {k : St → Option β} {r : β} {Q : Exit → Act → World → Prop} {s : SchW} (hτ : TEok P τ) (hΓ : CTok P Γ B) (R : Rel n B S E L σ m w) (h : yoJ n τ Γ s l.toArray σ k = some r)
  (hQ : ∀ σ' S' E' L' m' w', k σ' = some r → Mem.le S S' → ELe E E' → Agr (zpQ l) m m' → Rel n B S' E' L' σ' m' w' → Q .normal (fr n m') w') : RegAny P l Q (fr n m) w := by
 unfold yoJ at h
 obtain ⟨hb, h⟩ := zaC h
 have hw := zuF (Q := OnlyNormal Q) (S0 := S) (E0 := E) (m0 := m) (D := zpQ l) (Dsc := fun _ _ _ _ => False) (Jp := fun _ _ => True) hτ hΓ (fun _ h => h) (fun σ' S' E' L' m' w' k1 k2 k3 k4 R1 => ybN (hQ σ' S' E' L' m' w' k1 k2 k3 k4 R1)) s [] [] (Mem.le_refl _) (ELe.refl _) (Agr.refl _ _) (fun p hp => by cases hp) R (fun i ao hi => by cases hi) h
 exact ylQ (zaU hb) (zbQ hb) hw R.hs.drew (fun u u' h1 h2 => h1.ext h2) (fun u hu => HS.kp hu)
theorem ykK {id : Nat} {l : List Oper} {w : World} {k : St → Option β} {r : β} {Q : Exit → Act → World → Prop} (hm : P.follows .mixedOrders = true) (hτ : TEok P τ) (hΓ : CTok P Γ B) (R : Rel n B S E L σ m w) {η : HT} (h : yoP n τ Γ η id l.toArray σ k = some r)
  (hQ : ∀ σ' S' E' L' m' w', k σ' = some r → Mem.le S S' → ELe E E' → Agr (zpQ l) m m' → Rel n B S' E' L' σ' m' w' → Q .normal (fr n m') w') : (Code.region id l.toArray true).wp P Q (fr n m) w := by
 refine RegAny.wp hm ?_
 unfold yoP at h
 split at h
 ·exact yoY hτ hΓ R h hQ
 ·cases h
end
section
variable {β : Type} {τ : TE} {Γ : CT} {η : HT} {N0 n : Nat} {P : Program} {B : Bas} {S : Mem} {E : List EI} {L : List Res} {σ : St} {m : FM} {w : World} {ops : Array Oper} {Q : Exit → Act → World → Prop} {rest : List Oper} {o : Oper}
def exQ : Ex → Exit
 | .normal => .normal
 | .exit i => .exit i
 | .ret => .ret
theorem zsW {α γ : Type} {f : α → γ} {o : Option α} {y : γ} (h : mapO f o = some y) : ∃ x, o = some x ∧ f x = y := by
 cases o with
 | none => cases h
 | some x => cases h; exact ⟨x, rfl, rfl⟩
theorem ypG {a : Option Nat} {e : Ex} (h : isEx a e = true) : exOf a = e := by
 cases a with
 | none => cases e <;> first | rfl | cases h
 | some n =>
  cases e with
  | normal => cases h
  | exit i =>
   have h1 := Nat.eq_of_beq_eq_true (zaU h); subst h1
   have h2 := zbQ h
   cases hb : Nat.beq n 1000000 with
   | true => rw [hb] at h2; cases h2
   | false => simp only [exOf, hb, cond_false]
  | ret => simp only [exOf, show Nat.beq n 1000000 = true from h, cond_true]
theorem Agr.ev {D : List Nat} {m m' : FM} (h : Agr D m m') {t : Nat} (ht : hasN D t = false) : evO n m' (.tmp t) = evO n m (.tmp t) := by
 show (bif Nat.blt t n then look m' t else undef) = (bif Nat.blt t n then look m t else undef)
 rw [h t ht]
theorem zsG {S' : Mem} {E' : List EI} {m' : FM} {D : List Nat} (R : Rel n B S E L σ m w) (hS : Mem.le S S') (hA : Agr D m m') : ∀ (kp : List Nat) (t : Nat), VR S' E' (lkS (ztJ D σ kp) t) (evO n m' (.tmp t))
 | [], _ => trivial
 | d :: kp, t => by
  unfold ztJ
  cases hb : !(hasN D d) && yiE (lkS σ.sl d) with
  | false => exact zsG R hS hA kp t
  | true =>
   simp only [cond_true, lkS]
   cases hd : Nat.beq d t with
   | false => exact zsG R hS hA kp t
   | true =>
    have := Nat.eq_of_beq_eq_true hd; subst this
    have h1 := zaU hb
    have h2 : hasN D d = false := by cases hh : hasN D d with
     | true => rw [hh] at h1; cases h1
     | false => rfl
    rw [hA.ev h2]
    exact ygS (zbQ hb) (R.sl d) hS
theorem yoI : ∀ (a b : List (Nat × SV)) (t : Nat), lkS (a ++ b) t = lkS a t ∨ lkS (a ++ b) t = lkS b t
 | [], _, _ => .inr rfl
 | (d, x) :: a, b, t => by
  simp only [List.cons_append, lkS]
  cases Nat.beq d t with
  | true => exact .inl rfl
  | false => exact yoI a b t
theorem RelV.app {V : Nat → Value} (R : RelV B S E L σ V w) {l : List (Nat × SV)} (h : ∀ t, VR S E (lkS l t) (V t)) : RelV B S E L (σ.app l) V w :=
 ⟨R.hs, R.lL, R.lE, R.obj, fun t => by
  show VR S E (lkS (σ.sl ++ l) t) _
  rcases yoI σ.sl l t with e | e
  ·rw [e]; exact R.sl t
  ·rw [e]; exact h t⟩
theorem yaX (o : OSh) (os : List OSh) (l : List SV) : ∃ a l', zgX (o :: os) l = a :: zgX os l' ∧ ∀ ver e T (xs : List (den e)), a = .osl ver e T xs → ver = 0 := by
 cases o with
 | blk T s => exact ⟨_, _, rfl, fun _ _ _ _ h => by cases h⟩
 | dead => exact ⟨_, l, rfl, fun _ _ _ _ h => by cases h⟩
 | osl e T =>
  cases l with
  | nil => exact ⟨_, [], rfl, fun _ _ _ _ h => by cases h⟩
  | cons x l =>
   cases x with
   | v t y =>
    cases t with
    | sl e' => exact ⟨_, l, rfl, fun ver e T xs h => by split at h <;> first | (cases h; done) | (cases h; rfl)⟩
    | _ => exact ⟨_, _, rfl, fun _ _ _ _ h => by cases h⟩
   | _ => exact ⟨_, _, rfl, fun _ _ _ _ h => by cases h⟩
 | mp kp K V =>
  cases l with
  | nil => exact ⟨_, [], rfl, fun _ _ _ _ h => by cases h⟩
  | cons x l =>
   cases x with
   | v t y =>
    cases t with
    | mp a c => exact ⟨_, l, rfl, fun ver e T xs h => by split at h <;> cases h⟩
    | _ => exact ⟨_, _, rfl, fun _ _ _ _ h => by cases h⟩
   | _ => exact ⟨_, _, rfl, fun _ _ _ _ h => by cases h⟩
 | is =>
  cases l with
  | nil => exact ⟨_, [], rfl, fun _ _ _ _ h => by cases h⟩
  | cons x l =>
   cases x with
   | v t y =>
    cases t with
    | s =>
     cases l with
     | nil => exact ⟨_, _, rfl, fun _ _ _ _ h => by cases h⟩
     | cons x2 l =>
      cases x2 with
      | v t2 y2 =>
       cases t2 with
       | i k => cases k <;> exact ⟨_, _, rfl, fun _ _ _ _ h => by cases h⟩
       | _ => exact ⟨_, _, rfl, fun _ _ _ _ h => by cases h⟩
      | _ => exact ⟨_, _, rfl, fun _ _ _ _ h => by cases h⟩
    | _ => exact ⟨_, _, rfl, fun _ _ _ _ h => by cases h⟩
   | _ => exact ⟨_, _, rfl, fun _ _ _ _ h => by cases h⟩
 | it j kp K =>
  cases l with
  | nil => exact ⟨_, [], rfl, fun _ _ _ _ h => by cases h⟩
  | cons x l =>
   cases x with
   | v t y =>
    cases t with
    | sl a => exact ⟨_, l, rfl, fun ver e T xs h => by split at h <;> cases h⟩
    | _ => exact ⟨_, _, rfl, fun _ _ _ _ h => by cases h⟩
   | _ => exact ⟨_, _, rfl, fun _ _ _ _ h => by cases h⟩
theorem ydS : ∀ (os : List OSh) (l : List SV), (zgX os l).length = os.length
 | [], l => by cases l <;> rfl
 | o :: os, l => by
  obtain ⟨a, l', h, _⟩ := yaX o os l
  rw [h, List.length_cons, List.length_cons, ydS os]
theorem yeQ : ∀ (os : List OSh) (l : List SV), Ver0 (zgX os l)
 | [], l => fun i ver e T xs h => by cases l <;> (simp [zgX] at h)
 | o :: os, l => by
  obtain ⟨a, l', h, ha⟩ := yaX o os l
  rw [h]
  intro i ver e T xs h
  cases i with
  | zero => simp at h; exact ha _ _ _ _ h
  | succ i => exact yeQ os l' i ver e T xs (by simpa using h)
theorem get_put {s : Shp} {x : zdY s.tys} (h : s.get N0 σ = some x) : Ver0 (s.put x).hp ∧ N0 ≤ (s.put x).hp.length := by
 refine ⟨yeQ _ _, ?_⟩
 unfold Shp.get at h
 obtain ⟨h1, _⟩ := zaC h
 show N0 ≤ (zgX s.hp _).length
 rw [ydS]
 exact Nat.le_of_ble_eq_true (zaU h1)
theorem zvL {V : Nat → Value} (R : RelV B S E L σ V w) {e : Ex} {kp : List (Nat × SV)} (hk : ∀ S' E', Mem.le S S' → ∀ t, VR S' E' (lkS kp t) (V t)) : ∀ {outs : List (Option Nat × Shp)} {d : DS outs}, inj N0 outs e σ = some d → ∃ S' E' L' σ', Mem.le S S' ∧ Pin N0 E E' ∧ RelV B S' E' L' σ' V w ∧ Ver0 σ'.hp ∧ N0 ≤ σ'.hp.length ∧ ∀ {γ : Type} (k : Ex → St → Option γ), out kp outs d k = k e σ'
 | [], _, h => by cases h
 | [a], d, h => by
  obtain ⟨h1, h2⟩ := zaC h
  obtain ⟨S', E', L', hS, hP, R'⟩ := yaO R (fun l => znA l R) h2
  obtain ⟨h3, h4⟩ := get_put h2
  refine ⟨S', E', L', _, hS, hP, R'.app (hk S' E' hS), h3, h4, fun k => ?_⟩
  show k (exOf a.1) _ = _; rw [ypG h1]
 | a :: b :: l, d, h => by
  have next : mapO Sum.inr (inj N0 (b :: l) e σ) = some d → ∃ S' E' L' σ', Mem.le S S' ∧ Pin N0 E E' ∧ RelV B S' E' L' σ' V w ∧ Ver0 σ'.hp ∧ N0 ≤ σ'.hp.length ∧ ∀ {γ : Type} (k : Ex → St → Option γ), out kp (a :: b :: l) d k = k e σ' := fun h => by
   obtain ⟨x, h1, rfl⟩ := zsW h
   exact zvL R hk (outs := b :: l) h1
  simp only [inj] at h
  cases hb : isEx a.1 e with
  | true =>
   rw [hb] at h
   simp only [cond_true] at h
   split at h
   ·rename_i x h1
    cases h
    obtain ⟨S', E', L', hS, hP, R'⟩ := yaO R (fun l => znA l R) h1
    obtain ⟨h3, h4⟩ := get_put h1
    refine ⟨S', E', L', _, hS, hP, R'.app (hk S' E' hS), h3, h4, fun k => ?_⟩
    show k (exOf a.1) _ = _; rw [ypG hb]
   ·exact next h
  | false =>
   rw [hb] at h
   exact next h
theorem HS.nil (H : HS B S w L) (sz : Nat) (T : TypeId) : HS B S w (.osl (.slice none 0 0) 0 sz [] [] T :: L) := by
 refine ⟨H.fr, H.sub, H.keep, fun i q h => ?_, fun i q b h hb => ?_, fun i j q s b hi hj hq hs => ?_⟩
 ·cases i with
  | zero => cases h; exact .inl ⟨rfl, rfl, rfl, rfl⟩
  | succ i => exact H.own _ q h
 ·cases i with
  | zero => cases h; cases hb
  | succ i => exact H.old _ q b h hb
 ·cases i with
  | zero => cases hi; cases hq
  | succ i =>
   cases j with
   | zero => cases hj; cases hs
   | succ j => rw [H.inj i j q s b hi hj hq hs]
theorem xcR {c : SV} {u : Value} (hc : isNl c = true) (hx : VR S E c u) : Same S (.slice none 0 0) u 0 ∧ u.oneCell' = true := by
 cases c with
 | nils => have hx : u = .slice none 0 0 := hx; subst hx; exact ⟨.inl rfl, rfl⟩
 | emp => have hx : VB S E .emp u := hx; obtain ⟨h1, a, rfl⟩ := hx; exact ⟨.inr ⟨rfl, rfl, h1, a, rfl⟩, rfl⟩
 | _ => cases hc
theorem ysH (R : Rel n B S E L σ m w) {c : SV} {u : Value} (hc : isNl c = true) (hx : VR S E c u) (e : Ty) (T : TypeId) : Rel n B S (E ++ [.osl 0 u (tsz e)]) (L ++ [.osl (.slice none 0 0) 0 (tsz e) [] [] T]) ⟨σ.sl, σ.hp ++ [.osl 0 e T []]⟩ m w ∧ VC S (E ++ [.osl 0 u (tsz e)]) (.own σ.hp.length 0) u := by
 obtain ⟨h1, h2⟩ := xcR hc hx
 refine ⟨R.snoc (HS.nil R.hs _ _) ⟨.slice none 0 0, u, [], [], rfl, rfl, rfl, h1⟩, h2, .osl 0 u (tsz e), by rw [← R.lE]; simp, fun r v s he => ?_⟩
 cases he; exact ⟨Nat.le_refl 0, fun _ => rfl⟩
theorem yyK (R : Rel n B S E L σ m w) (x : Mk) : ∃ S' E' L', Mem.le S S' ∧ ELe E E' ∧ Rel n B S' E' L' (mk1 σ x) m w := by
 have same : ∃ S' E' L', Mem.le S S' ∧ ELe E E' ∧ Rel n B S' E' L' σ m w := ⟨S, E, L, Mem.le_refl _, ELe.refl _, R⟩
 cases x with
 | sl d e T =>
  simp only [mk1]
  cases hn : isNl (lkS σ.sl d) with
  | false => exact same
  | true =>
   obtain ⟨R1, h1⟩ := ysH R hn (R.sl d) e T
   exact ⟨S, _, _, Mem.le_refl _, ELe.push E _, R1.re (d := d) (VR.ofC h1)⟩
 | cell d i e T =>
  simp only [mk1]
  split
  ·split
   ·rename_i id off hp _ T' cs hc
    split
    ·rename_i c hi
     cases hn : isNl c with
     | false => exact same
     | true =>
      obtain ⟨r0, e0, h1, h2, b, us, rfl, rfl, h3⟩ := R.objN hc
      obtain ⟨u, h4, h5⟩ := h3.at hi
      obtain ⟨R1, h6⟩ := ysH R hn (VR.ofC h5) e T
      have hlt : id < σ.hp.length := by rw [← R.lE]; exact (List.getElem?_eq_some_iff.1 h2).1
      have h2' : (E ++ [EI.osl 0 u (tsz e)])[id]? = some (.blk b) := by rw [List.getElem?_append_left (by rw [R.lE]; exact hlt)]; exact h2
      have h1' : lkR (L ++ [Res.osl (.slice none 0 0) 0 (tsz e) [] [] T]) id = some (.blk b us T') := by
       rw [zaV, List.getElem?_append_left (by rw [R.lL]; exact hlt), ← zaV]; exact h1
      have hst : stR (L ++ [Res.osl (.slice none 0 0) 0 (tsz e) [] [] T]) id (.blk b us T') = L ++ [Res.osl (.slice none 0 0) 0 (tsz e) [] [] T] := by
       rw [zrA]
       apply List.ext_getElem?
       intro j
       by_cases hj : id = j
       ·subst hj
        rw [zaV] at h1'
        rw [List.getElem?_set_self (List.getElem?_eq_some_iff.1 h1').1, h1']
       ·rw [List.getElem?_set_ne hj]
      have h7 : A2 (VC S (E ++ [EI.osl 0 u (tsz e)])) (setN cs i (.own σ.hp.length 0)) us := by
       have h8 : A2 (VC S (E ++ [EI.osl 0 u (tsz e)])) cs us := h3.imp fun _ _ h => h.mono (Mem.le_refl S) (ELe.push E _)
       have h9 := A2.set (a := SV.own σ.hp.length 0) h6 i h8
       have h10 : us.set i u = us := by
        apply List.ext_getElem?
        intro j
        by_cases hj : i = j
        ·subst hj; rw [List.getElem?_set_self (List.getElem?_eq_some_iff.1 h4).1, h4]
        ·rw [List.getElem?_set_ne hj]
       rw [zoV]
       rw [h10] at h9; exact h9
      exact ⟨S, _, _, Mem.le_refl _, ELe.push E _, R1.upd1 (r' := .blk b us T') h2' (by rw [hst]; exact R1.hs) ⟨b, us, rfl, rfl, h7⟩⟩
    ·exact same
   ·exact same
  ·exact same
theorem zuY : ∀ (l : List Mk) {σ : St} {S : Mem} {E : List EI} {L : List Res} (_ : Rel n B S E L σ m w), ∃ S' E' L', Mem.le S S' ∧ ELe E E' ∧ Rel n B S' E' L' (ztF σ l) m w
 | [], _, S, E, L, R => ⟨S, E, L, Mem.le_refl _, ELe.refl _, R⟩
 | x :: l, _, _, _, _, R => by
  obtain ⟨S1, E1, L1, h1, h2, R1⟩ := yyK R x
  obtain ⟨S2, E2, L2, h3, h4, R2⟩ := zuY l R1
  exact ⟨S2, E2, L2, Mem.le_trans h1 h3, h2.trans h4, R2⟩
theorem ymA {a b : Bs} (h : str a = str b) : a = b := by
 have h : Value.string ⟨a.toArray⟩ = .string ⟨b.toArray⟩ := h
 injection h with h; injection h with h; injection h
theorem ypA : ∀ {K : Ty}, kOk K = true → ∀ {a b : den K}, kv K a = kv K b → a = b
 | .i k, _, a, b, h => by
  have h : Value.int k (toI k a) = .int k (toI k b) := h
  injection h with _ h; exact yfN h
 | .s, _, a, b, h => by
  have h : str a = str b := h
  exact ymA h
theorem A2.at_r {α γ : Type} {R : α → γ → Prop} : ∀ {l : List α} {m : List γ} {i : Nat} {b : γ}, A2 R l m → m[i]? = some b → ∃ a, l[i]? = some a ∧ R a b
 | _, _, _, _, .nil, h => by simp at h
 | _, _, 0, _, .cons a _, h => by simp at h; subst h; exact ⟨_, rfl, a⟩
 | _, _, i + 1, _, .cons _ t, h => by obtain ⟨a, h1, h2⟩ := A2.at_r (i := i) t (by simpa using h); exact ⟨a, by simpa using h1, h2⟩
theorem ynC {K V : Ty} (hK : kOk K = true) {es : List (den K × den V)} {ents : List MapEntry} (hM : MR S K V es ents) {a c : MapEntry} (ha : a ∈ ents) (hc : c ∈ ents) : a.key = c.key ↔ a.born = c.born := by
 obtain ⟨l, hl, hA⟩ := hM.perm
 have hne : l.Pairwise fun p q => keq K p.1 q.1 = false := (hl.pairwise_iff fun h => zvN hK h).2 hM.ne
 obtain ⟨i, hi, rfl⟩ := List.mem_iff_getElem.1 ha
 obtain ⟨j, hj, rfl⟩ := List.mem_iff_getElem.1 hc
 have hlen := hA.len
 constructor
 ·intro h
  by_cases hij : i = j
  ·subst hij; rfl
  ·exfalso
   obtain ⟨p, hp, hp2⟩ := A2.at_r hA (List.getElem?_eq_getElem hi)
   obtain ⟨q, hq, hq2⟩ := A2.at_r hA (List.getElem?_eq_getElem hj)
   have h2 : p.1 = q.1 := ypA hK (by rw [← zwN hK hp2.1, ← zwN hK hq2.1, h])
   have h3 : ∀ {i j : Nat} {p q : den K × den V}, i < j → l[i]? = some p → l[j]? = some q → p.1 = q.1 → False := fun {i j p q} hij hp hq h2 => by
    obtain ⟨h4, rfl⟩ := List.getElem?_eq_some_iff.1 hp
    obtain ⟨h5, rfl⟩ := List.getElem?_eq_some_iff.1 hq
    have := List.pairwise_iff_getElem.1 hne i j h4 h5 hij
    rw [h2] at this
    rw [(zkK hK).2 rfl] at this; cases this
   rcases Nat.lt_or_gt_of_ne hij with h4 | h4
   ·exact h3 h4 hp hq h2
   ·exact h3 h4 hq hp h2.symm
 ·intro h
  by_cases hij : i = j
  ·subst hij; rfl
  ·exfalso
   have h4 : ∀ {i j : Nat} (hi : i < ents.length) (hj : j < ents.length), i < j → ents[i].born = ents[j].born → False := fun {i j} hi hj hij h => by
    have := List.pairwise_iff_getElem.1 hM.nd i j (by simpa using hi) (by simpa using hj) hij
    simp only [List.getElem_map] at this
    exact this h
   rcases Nat.lt_or_gt_of_ne hij with h5 | h5
   ·exact h4 hi hj h5 h
   ·exact h4 hj hi h5 h.symm
theorem ypF {S R : Type} {f : S → List (Option (S ⊕ R))} {s : S} {r : R} (h : rngA f s = some r) : ∃ n, Rng f n s r := by
 unfold rngA at h
 split at h
 ·rename_i hh; cases h; exact hh.choose_spec
 ·cases h
theorem yqQ {α γ : Type} {l : List α} {d : γ} {f : α → γ} {p : α} (h : p ∈ l) : f p ∈ rngL l d f := by
 cases l with
 | nil => cases h
 | cons x l => exact List.mem_map.2 ⟨p, h, rfl⟩
theorem yuV {γ : Type} {d t : Nat} {g0 : St → Option γ} {Z : Option γ → Prop} (R : Rel n B S E L σ m w) (hZ : ¬ Z none) (hz : ∀ o ∈ yqC n σ d t g0, Z o) {ty : TypeId} {pos : String} {aft : Array Edge} :
  outcome P (fun v w' => ∃ σ' L', Z (g0 σ') ∧ Rel n B S E L' σ' ((d, v) :: m) w') ((execOp (evO n m) ⟨some d, .next (.tmp t) false, ty, pos, aft, none⟩).run P w) := by
 have bad : ∀ {X : Prop}, (∀ o, o ∈ [(none : Option γ)] → Z o) → X := fun h => absurd (h none List.mem_cons_self) hZ
 unfold yqC at hz
 split at hz
 ·rename_i i ht
  split at hz
  ·rename_i mid gn K cur left hi
   split at hz
   ·rename_i g' K' V es hm
    split at hz
    ·rename_i hK _
     subst hK
     cases hb : Nat.beq gn g' && Nat.blt d n with
     | false => rw [hb] at hz; exact bad hz
     | true =>
      rw [hb] at hz
      simp only [cond_true, zjT] at hz
      have hd : Nat.blt d n = true := zbQ hb
      have hg := Nat.eq_of_beq_eq_true (zaU hb); subst hg
      obtain ⟨r0, e0, k1, k2, b, mb, ck, seen, rfl, rfl, hK, e1, k3, k4⟩ := R.objN hi
      obtain ⟨r1, e2, k5, k6, b2, ents, ck2, rfl, rfl, hM, hlt⟩ := R.objN hm
      rw [k6] at k3; cases k3
      obtain ⟨_, k7⟩ := k4 _ _ _ _ rfl
      obtain ⟨rfl, rfl, k8⟩ := k7 rfl
      obtain ⟨l, hl, hA⟩ := hM.perm
      have hv := R.sl t
      rw [ht] at hv
      obtain ⟨b3, hv, e3, q1, q2⟩ := hv
      rw [k2] at q1; cases q1
      have := q2 _ rfl; subst this
      have hh : w.heap[b]? = some (.mapIter (some b2) ck2 seen ck2) := R.hs.own i _ k1
      have hh2 : w.heap[b2]? = some (.map ents.toArray ck2) := R.hs.own mid _ k5
      have exec : ∀ {u w'}, (Instr.next (.pointer (some ⟨b, 0, none⟩)) false ty).run P w = .ok u w' → (execOp (evO n m) ⟨some d, .next (.tmp t) false, ty, pos, aft, none⟩).run P w = .ok (.value u) w' := fun {u w'} h => by
       have hv : evO n m (.tmp t) = .pointer (some ⟨b, 0, none⟩) := hv
       simp [execOp, hv, h, Result.andThen]
      rcases run_next_at (P := P) w ty b b2 ck2 ck2 seen ents.toArray ck2 hh hh2 (by simpa using hlt) (Nat.le_refl _) with ⟨h0, hrun⟩ | ⟨en, hen, w1, hw1, hrun⟩
      ·rw [exec hrun]
       have hnil : rngC (keq K) es left = [] := by
        rw [rngC, List.filter_eq_nil_iff]
        intro p hp hany
        obtain ⟨k, hk, hke⟩ := List.any_eq_true.1 hany
        obtain ⟨en, hen, h1⟩ := A2.mem_l hA p (hl.mem_iff.2 hp)
        have h2 : en.born ∉ seen := fun h => ((k8 en hen).1.1 h) k hk (by rw [zwN hK h1.1, (zkK hK).1 hke])
        have : en ∈ (leftOf ents.toArray seen) := by simp [leftOf, hen, h2]
        have h3 := Array.size_pos_of_mem this
        omega
       rw [hnil] at hz
       exact ⟨_, _, hz _ List.mem_cons_self, R.put (x := .tup [.v .b false]) ⟨[.bool false], rfl, .cons (show rep .b S [.bool false] false from rfl) .nil⟩ hd⟩
      ·rw [exec hrun]
       have hen' : en ∈ ents ∧ en.born ∉ seen := by simpa [leftOf] using hen
       obtain ⟨p, hp, hpe⟩ := A2.mem_r hA en hen'.1
       have hkey := zwN hK hpe.1
       have hex : ∃ k ∈ left, en.key = kv K k := by
        refine Classical.byContradiction fun hno => hen'.2 ((k8 en hen'.1).1.2 fun k hk h => hno ⟨k, hk, h⟩)
       obtain ⟨k, hk, hkk⟩ := hex
       have hpk : p.1 = k := ypA hK (hkey.symm.trans hkk)
       have hpm : p ∈ rngC (keq K) es left := by
        rw [rngC, List.mem_filter]
        exact ⟨hl.mem_iff.1 hp, List.any_eq_true.2 ⟨k, hk, (zkK hK).2 hpk⟩⟩
       have h1 := hz _ (yqQ (d := g0 (σ.put d (.tup [.v .b false]))) (f := fun p => g0 ⟨(d, .tup [.v .b true, svOf K p.1, svOf V p.2]) :: σ.sl, setN σ.hp i (.it mid gn K (some p.1) (rngD (keq K) left p.1))⟩) hpm)
       have H1 : HS B S w1 L := by
        rcases hw1 with rfl | rfl
        ·exact R.hs
        ·exact R.hs.drew
       have hh1 : w1.heap = w.heap := by rcases hw1 with rfl | rfl <;> rfl
       have hlt1 : b < w1.heap.size := by rw [hh1]; exact lt_of_heap hh
       have H2 : HS B S (Go.ChangeMaps.setBlock w1 b (.mapIter (some b2) ck2 (seen.push en.born) ck2)) (stR L i (.obj b (.mapIter (some b2) ck2 (seen.push en.born) ck2))) := by
        refine H1.upd k1 (by simp [Go.ChangeMaps.setBlock]) rfl rfl rfl (fun j hj hne => ?_) ?_ fun b' hb' => .inl hb'
        ·have : j ≠ b := fun e => hne (by rw [e]; rfl)
         simp [Go.ChangeMaps.setBlock, Array.getElem?_setIfInBounds, Ne.symm this]
        ·show ((Go.ChangeMaps.setBlock w1 b _).heap)[b]? = _
         simp [Go.ChangeMaps.setBlock, Array.getElem?_setIfInBounds, hlt1]
       have hA1 := hA
       have R1 := R.upd1 (o' := .it mid gn K (some p.1) (rngD (keq K) left p.1)) k2 H2 ⟨b, b2, ck2, seen.push en.born, rfl, rfl, hK, _, k6, fun g2 b4 c2 es2 he => by
        cases he
        refine ⟨Nat.le_refl _, fun _ => ⟨rfl, rfl, fun e4 he4 => ⟨?_, fun c hc => ?_⟩⟩⟩
        ·have hkb : e4.key = en.key ↔ e4.born = en.born := ynC hK hM he4 hen'.1
         rw [Array.mem_push, (k8 e4 he4).1]
         constructor
         ·rintro (h | h) k' hk'
          ·exact h k' (List.mem_filter.1 hk').1
          ·rw [hkb.2 h, hkey]
           intro h5
           have := (List.mem_filter.1 hk').2
           rw [(zkK hK).2 (ypA hK h5).symm] at this; cases this
         ·intro h
          by_cases h5 : e4.born = en.born
          ·exact .inr h5
          ·refine .inl fun k' hk' h6 => h k' (List.mem_filter.2 ⟨hk', ?_⟩) h6
           rw [Bool.not_eq_true', zpG hK]
           intro h7
           exact h5 (hkb.1 (by rw [h6, h7, hkey]))
        ·cases hc
         rw [← hkey, Array.back?_push]
         exact (ynC hK hM he4 hen'.1).trans ⟨fun h => by rw [h], fun h => (osi h).symm⟩⟩
       refine ⟨_, _, h1, R1.put (x := .tup [.v .b true, svOf K p.1, svOf V p.2]) ⟨[.bool true, en.key, en.val], rfl, .cons (show rep .b S [.bool true] true from rfl) (.cons (zoY hpe.1) (.cons (zoY hpe.2) .nil))⟩ hd⟩
    ·exact bad hz
   ·exact bad hz
  ·exact bad hz
 ·exact bad hz
def Good (P : Program) (N0 n : Nat) (B : Bas) (c : Code) {β : Type} (rn : (Ex → St → Option β) → Option β) (S : Mem) (E : List EI) (m : FM) (w : World) : Prop :=
 ∀ (k : Ex → St → Option β) (r : β) (Q : Exit → Act → World → Prop), rn k = some r → (∀ e σ' S' E' L' m' w', k e σ' = some r → Mem.le S S' → Pin N0 E E' → Agr (zkV c) m m' → Rel n B S' E' L' σ' m' w' → Q (exQ e) (fr n m') w') → c.wp P Q (fr n m) w
theorem zoP {α γ : Type} {o : Option α} {f : α → Option γ} {r : γ} (h : Option.bind o f = some r) : ∃ x, o = some x ∧ f x = some r := bnd h
theorem zqV (hm : P.follows .mixedOrders = true) (hτ : TEok P τ) (hΓ : CTok P Γ B) : ∀ (c : Code) {β : Type} {σ : St} {S : Mem} {E : List EI} {L : List Res} {m : FM} {w : World}, Rel n B S E L σ m w → Good P N0 n B c (β := β) (run N0 n τ Γ η c σ) S E m w
 | .skip, _, σ, S, E, L, m, w, R, k, r, Q, h, hQ => wp_skip (hQ .normal _ _ _ _ _ _ h (Mem.le_refl _) (Pin.refl _ _) (Agr.refl _ _) R)
 | .exit id, _, σ, S, E, L, m, w, R, k, r, Q, h, hQ => wp_exit (hQ (.exit id) _ _ _ _ _ _ h (Mem.le_refl _) (Pin.refl _ _) (Agr.refl _ _) R)
 | .ret, _, σ, S, E, L, m, w, R, k, r, Q, h, hQ => wp_ret (hQ .ret _ _ _ _ _ _ h (Mem.le_refl _) (Pin.refl _ _) (Agr.refl _ _) R)
 | .region id ops d, _, σ, S, E, L, m, w, R, k, r, Q, h, hQ => by
  obtain ⟨ops⟩ := ops
  cases d with
  | true => exact ykK hm hτ hΓ R h (fun σ' S' E' L' m' w' h1 h2 h3 h4 R1 => hQ .normal _ _ _ _ _ _ h1 h2 (Pin.of h3) h4 R1)
  | false => exact wp_region_lit (zxL hτ hΓ (fun σ' S' E' L' m' w' h1 h2 h3 h4 R1 => hQ .normal _ _ _ _ _ _ h1 h2 (Pin.of h3) h4 R1) ops (fun _ h => h) (Mem.le_refl _) (ELe.refl _) (Agr.refl _ _) R h)
 | .cond c a b, _, σ, S, E, L, m, w, R, k, r, Q, h, hQ => by
  simp only [run] at h
  split at h
  ·rename_i t hc
   have hv : evO n m c = .bool t := vB (zbH R hc)
   refine ymL hv (fun ht => ?_) (fun ht => ?_)
   ·subst ht; exact zqV hm hτ hΓ a R k r Q h (fun e σ' S' E' L' m' w' h1 h2 hP h3 R1 => hQ e σ' S' E' L' m' w' h1 h2 hP h3.l R1)
   ·subst ht; exact zqV hm hτ hΓ b R k r Q h (fun e σ' S' E' L' m' w' h1 h2 hP h3 R1 => hQ e σ' S' E' L' m' w' h1 h2 hP h3.r R1)
  ·cases h
 | .seq a b, _, σ, S, E, L, m, w, R, k, r, Q, h, hQ => by
  have next : ∀ e σ' S' E' L' m' w', nx k (fun σ => run N0 n τ Γ η b σ k) e σ' = some r → Mem.le S S' → Pin N0 E E' → Agr (zkV a) m m' → Rel n B S' E' L' σ' m' w' → Exit.then (b.wp P Q) Q (exQ e) (fr n m') w' := fun e σ' S' E' L' m' w' h1 hS hP hA R1 => by
   cases e with
   | normal => exact zqV hm hτ hΓ b R1 k r Q h1 (fun e σ' S' E' L' m' w' h1 h2 hP2 h3 R1 => hQ e σ' S' E' L' m' w' h1 (Mem.le_trans hS h2) (hP.trans hP2) ((Agr.l hA).trans (Agr.r h3)) R1)
   | exit i => exact hQ (.exit i) _ _ _ _ _ _ h1 hS hP hA.l R1
   | ret => exact hQ .ret _ _ _ _ _ _ h1 hS hP hA.l R1
  simp only [run] at h
  refine wp_seq ?_
  split at h
  ·rename_i mk kp outs hj
   obtain ⟨d, h1, h2⟩ := zoP h
   obtain ⟨S0, E0, L0, hS0, hE0, R0⟩ := zuY mk R
   refine zqV hm hτ hΓ a R0 (inj N0 outs) d _ h1 fun e σ' S' E' L' m' w' h3 hS hP hA R1 => ?_
   obtain ⟨S2, E2, L2, σ2, hS2, hP2, R2, _, _, h4⟩ := zvL R1 (kp := ztJ (zkV a) (ztF σ mk) kp) (fun S'' E'' hS'' t => zsG R0 (Mem.le_trans hS hS'') hA kp t) h3
   rw [h4] at h2
   exact next e σ2 _ _ _ _ _ h2 (Mem.le_trans hS0 (Mem.le_trans hS hS2)) ((Pin.of hE0).trans (hP.trans hP2)) hA R2
  ·exact zqV hm hτ hΓ a R _ r _ h next
 | .block id b, _, σ, S, E, L, m, w, R, k, r, Q, h, hQ => by
  have next : ∀ e σ' S' E' L' m' w', blk id k e σ' = some r → Mem.le S S' → Pin N0 E E' → Agr (zkV b) m m' → Rel n B S' E' L' σ' m' w' → Exit.inBlock id Q (exQ e) (fr n m') w' := fun e σ' S' E' L' m' w' h1 hS hP hA R1 => by
   cases e with
   | normal => exact hQ .normal _ _ _ _ _ _ h1 hS hP hA R1
   | ret => exact hQ .ret _ _ _ _ _ _ h1 hS hP hA R1
   | exit i =>
    simp only [blk] at h1
    cases hb : Nat.beq i id with
    | true =>
     rw [hb] at h1
     have := Nat.eq_of_beq_eq_true hb; subst this
     exact yuX (hQ .normal _ _ _ _ _ _ h1 hS hP hA R1)
    | false => rw [hb] at h1; exact ysU hb (hQ (.exit i) _ _ _ _ _ _ h1 hS hP hA R1)
  simp only [run] at h
  refine wp_block ?_
  split at h
  ·rename_i mk kp outs hj
   obtain ⟨d, h1, h2⟩ := zoP h
   obtain ⟨S0, E0, L0, hS0, hE0, R0⟩ := zuY mk R
   refine zqV hm hτ hΓ b R0 _ d _ h1 fun e σ' S' E' L' m' w' h3 hS hP hA R1 => ?_
   have fin : ∀ e', inj N0 outs e' σ' = some d → Q (exQ e') (fr n m') w' := fun e' h3 => by
    obtain ⟨S2, E2, L2, σ2, hS2, hP2, R2, _, _, h4⟩ := zvL R1 (kp := ztJ (zkV b) (ztF σ mk) kp) (fun S'' E'' hS'' t => zsG R0 (Mem.le_trans hS hS'') hA kp t) h3
    rw [h4] at h2
    exact hQ e' σ2 _ _ _ _ _ h2 (Mem.le_trans hS0 (Mem.le_trans hS hS2)) ((Pin.of hE0).trans (hP.trans hP2)) hA R2
   cases e with
   | normal => exact fin .normal h3
   | ret => exact fin .ret h3
   | exit i =>
    simp only [blk] at h3
    cases hb : Nat.beq i id with
    | true =>
     rw [hb] at h3
     have := Nat.eq_of_beq_eq_true hb; subst this
     exact yuX (fin .normal h3)
    | false => rw [hb] at h3; exact ysU hb (fin (.exit i) h3)
  ·exact zqV hm hτ hΓ b R _ r _ h next
 | .loop b, _, σ, S, E, L, m, w, R, k, r, Q, h, hQ => by
  simp only [run] at h
  split at h
  ·rename_i mk s kp outs hj
   split at h
   ·rename_i s0 hs0
    obtain ⟨d, h1, h2⟩ := zoP h
    obtain ⟨S0, E0, L0, hS0, hE0, R0⟩ := zuY mk R
    obtain ⟨S1, E1, L1, hS1, hP1, R1⟩ := yaO R0 (fun l => znA l R0) hs0
    have hQ : ∀ e σ' S' E' L' m' w', k e σ' = some r → Mem.le S0 S' → Pin N0 E0 E' → Agr (zkV b) m m' → Rel n B S' E' L' σ' m' w' → Q (exQ e) (fr n m') w' := fun e σ' S' E' L' m' w' h1 h2 h3 h4 h5 => hQ e σ' S' E' L' m' w' h1 (Mem.le_trans hS0 h2) ((Pin.of hE0).trans h3) h4 h5
    clear hS0 hE0 R
    generalize ztF σ mk = σ at *
    refine ywU (fun g a w => ∃ m' x S' E' L', a = fr n m' ∧ Mem.le S0 S' ∧ Pin N0 E0 E' ∧ Agr (zkV b) m m' ∧ Rel n B S' E' L' (s.put x) m' w ∧ zqQ (fun x => run N0 n τ Γ η b ((s.put x).app (ztJ (zkV b) σ kp)) (nx (fun e σ => mapO Sum.inr (inj N0 outs e σ)) fun σ => mapO Sum.inl (s.get N0 σ))) g x = some d) FU ⟨m, s0, S1, E1, L1, rfl, hS1, hP1, Agr.refl _ _, R1, h1⟩ ?_
    rintro g a w ⟨m2, x, S2, E2, L2, rfl, hS2, hP2, hA2, R2, hit⟩
    cases g with
    | zero => cases hit
    | succ g =>
     obtain ⟨o, h3, h4⟩ := ymY hit
     refine zqV hm hτ hΓ b (R2.app (zsG R0 hS2 hA2 kp)) _ o _ h3 fun e σ' S' E' L' m' w' h5 hS3 hP3 hA3 R3 => ?_
     have hSS := Mem.le_trans hS2 hS3
     have hAA := hA2.trans hA3
     have fin : ∀ e', mapO Sum.inr (inj N0 outs e' σ') = some o → Q (exQ e') (fr n m') w' := fun e' h5 => by
      obtain ⟨d', h6, rfl⟩ := zsW h5
      have h7 : d' = d := by cases h4; rfl
      subst h7
      obtain ⟨S4, E4, L4, σ4, hS4, hP4, R4, _, _, h8⟩ := zvL R3 (kp := ztJ (zkV b) σ kp) (fun S'' E'' hS'' t => zsG R0 (Mem.le_trans hSS hS'') hAA kp t) h6
      rw [h8] at h2
      exact hQ e' σ4 _ _ _ _ _ h2 (Mem.le_trans hSS hS4) ((hP2.trans hP3).trans hP4) hAA R4
     cases e with
     | normal =>
      obtain ⟨x', h6, rfl⟩ := zsW h5
      obtain ⟨S4, E4, L4, hS4, hP4, R4⟩ := yaO R3 (fun l => znA l R3) h6
      exact ⟨g, Nat.lt_succ_self g, m', x', S4, E4, L4, rfl, Mem.le_trans hSS hS4, (hP2.trans hP3).trans hP4, hAA, R4, h4⟩
     | exit i => exact fin (.exit i) h5
     | ret => exact fin .ret h5
   ·cases h
  ·rename_i mk s kp outs hj
   split at h
   ·rename_i id ops c
    split at h
    ·rename_i d t ty pos aft l hops
     split at h
     ·rename_i s0 hs0
      obtain ⟨dd, h1, h2⟩ := zoP h
      obtain ⟨fuel, hrng⟩ := ypF h1
      obtain ⟨S0, E0, L0, hS0, hE0, R0⟩ := zuY mk R
      obtain ⟨S1, E1, L1, hS1, hP1, R1⟩ := yaO R0 (fun l => znA l R0) hs0
      have hQ : ∀ e σ' S' E' L' m' w', k e σ' = some r → Mem.le S0 S' → Pin N0 E0 E' → Agr (zkV (.seq (.region id ops false) c)) m m' → Rel n B S' E' L' σ' m' w' → Q (exQ e) (fr n m') w' := fun e σ' S' E' L' m' w' h1 h2 h3 h4 h5 => hQ e σ' S' E' L' m' w' h1 (Mem.le_trans hS0 h2) ((Pin.of hE0).trans h3) h4 h5
      clear hS0 hE0 R
      generalize ztF σ mk = σ at *
      refine ywU (fun g a w => ∃ m' x S' E' L', a = fr n m' ∧ Mem.le S0 S' ∧ Pin N0 E0 E' ∧ Agr (zkV (.seq (.region id ops false) c)) m m' ∧ Rel n B S' E' L' (s.put x) m' w ∧ Rng (fun x => yqC n ((s.put x).app (ztJ (zkV (.seq (.region id ops false) c)) σ kp)) d t fun σ => steps n τ Γ ops.toList l σ fun σ => run N0 n τ Γ η c σ (nx (fun e σ => mapO Sum.inr (inj N0 outs e σ)) fun σ => mapO Sum.inl (s.get N0 σ))) g x dd) fuel ⟨m, s0, S1, E1, L1, rfl, hS1, hP1, Agr.refl _ _, R1, hrng⟩ ?_
      rintro g a w ⟨m2, x, S2, E2, L2, rfl, hS2, hP2, hA2, R2, hit⟩
      cases g with
      | zero => exact hit.elim
      | succ g =>
       have hD : ∀ t', hasN (zpQ (⟨some d, .next (.tmp t) false, ty, pos, aft, none⟩ :: l)) t' = true → hasN (zkV (.seq (.region id ops false) c)) t' = true := fun t' ht' => by
        show hasN (zpQ ops.toList ++ zkV c) t' = true
        rw [ybR, hops, ht']; rfl
       obtain ⟨ops⟩ := ops
       have hops : ops = _ := hops
       subst hops
       refine wp_seq (wp_region_lit (yyR (zqG rfl) (yuV (R2.app (zsG R0 hS2 hA2 kp)) (Z := rngO (fun s' => Rng _ g s' dd) dd) (fun h => h) hit) ?_))
       rintro v w' ⟨σ1, L3, hy, R3⟩
       generalize hyo : (steps n τ Γ _ l σ1 fun σ => run N0 n τ Γ η c σ (nx (fun e σ => mapO Sum.inr (inj N0 outs e σ)) fun σ => mapO Sum.inl (s.get N0 σ))) = o at hy
       match o, hy with
       | some y, hy2 =>
        rw [zzH]
        refine zxL hτ hΓ (D := zkV (.seq (.region id _ false) c)) (S0 := S2) (E0 := E2) (m0 := m2) (fun σ' S' E' L' m' w' h5 hS3 hE3 hA3 R4 => ?_) l (fun t' ht' => hD t' (ybI ht')) (Mem.le_refl _) (ELe.refl _) (Agr.put (hD d (yaN rfl))) R3 hyo
        refine zqV hm hτ hΓ c R4 _ y _ h5 fun e σ' S' E' L' m' w' h5 hS4 hP4 hA4 R4 => ?_
        have hSS := Mem.le_trans hS2 (Mem.le_trans hS3 hS4)
        have hAA := hA2.trans (hA3.trans hA4.r)
        have hPP := (hP2.trans (Pin.of hE3)).trans hP4
        have fin : ∀ e', mapO Sum.inr (inj N0 outs e' σ') = some y → Q (exQ e') (fr n m') w' := fun e' h5 => by
         obtain ⟨d', h6, rfl⟩ := zsW h5
         have h7 : d' = dd := hy2
         subst h7
         obtain ⟨S4, E4, L4, σ4, hS4, hP4, R4, _, _, h8⟩ := zvL R4 (kp := ztJ (zkV (.seq (.region id _ false) c)) σ kp) (fun S'' E'' hS'' t => zsG R0 (Mem.le_trans hSS hS'') hAA kp t) h6
         rw [h8] at h2
         exact hQ e' σ4 _ _ _ _ _ h2 (Mem.le_trans hSS hS4) (hPP.trans hP4) hAA R4
        cases e with
        | normal =>
         obtain ⟨x', h6, rfl⟩ := zsW h5
         obtain ⟨S4, E4, L4, hS4, hP4, R4⟩ := yaO R4 (fun l => znA l R4) h6
         exact ⟨g, Nat.lt_succ_self g, m', x', S4, E4, L4, rfl, Mem.le_trans hSS hS4, hPP.trans hP4, hAA, R4, hy2⟩
        | exit i => exact fin (.exit i) h5
        | ret => exact fin .ret h5
     ·cases h
    ·cases h
   ·cases h
  ·cases h
theorem yfV {s : Sem Value} {u : Value} (h : (do pure (Next.value (← s)) : Sem Next).run P w = .ok (.value u) w) : s.run P w = .ok u w := by
 rw [Sem.run_bind] at h
 cases hs : s.run P w with
 | ok v w' =>
  rw [hs] at h
  simp only [Result.andThen_ok, Sem.run_pure] at h
  injection h with h1 h2
  injection h1 with h1
  rw [h1, h2]
 | halt x w' => rw [hs] at h; cases h
theorem yxN (hτ : TEok P τ) (R : Rel n B S E L σ m w) {v : ResultVar} {x : SV} (h : resV τ σ v = some x) : ∃ u, VR S E x u ∧ (resS (fr n m).tmps v).run P w = .ok u w := by
 cases v with
 | tmp t =>
  cases h
  exact ⟨_, R.sl t, yfS rfl⟩
 | cell t T =>
  simp only [resV] at h
  split at h
  ·rename_i f hT
   have h' : deref σ.hp (lkS σ.sl t) f.sz (fun l => bindS (svAt f l) some) = some x := by
    have e1 : (fun l => bindS (svAt f l) some) = fun l => svAt f l := by funext l; cases svAt f l <;> rfl
    rw [e1]; exact h
   obtain ⟨z, u, h1, h2, h3⟩ := yoE (dst := none) (g := none) (ty := 0) (pos := "") (aft := #[]) (a := .tmp t) (k := some) R (hτ _ _ hT) (R.sl t) h'
   cases h1
   refine ⟨u, h2, ?_⟩
   have h4 := yfV (h3 w R.hs)
   show (do loadVar T (← asAddr ((fr n m).tmps.getD t undef)) : Sem Value).run P w = _
   rw [ylU]
   have h5 : (do loadVar T (← Instr.sureAddr (evO n m (.tmp t))) : Sem Value).run P w = .ok u w := h4
   cases hp : evO n m (.tmp t) with
   | pointer a =>
    rw [hp] at h5
    cases a with
    | none => simp [Instr.sureAddr] at h5
    | some a => simpa [Instr.sureAddr, asAddr] using h5
   | _ => rw [hp] at h5; simp [Instr.sureAddr] at h5
  ·cases h
theorem zxH (hτ : TEok P τ) (R : Rel n B S E L σ m w) : ∀ {l : List ResultVar} {xs : List SV}, zvZ τ σ l = some xs → ∃ us, A2 (VR S E) xs us ∧ (l.mapM (resS (fr n m).tmps)).run P w = .ok us w
 | [], xs, h => by cases h; exact ⟨[], .nil, by simp⟩
 | v :: l, xs, h => by
  unfold zvZ at h
  split at h
  ·rename_i x y h1 h2
   cases h
   obtain ⟨u, h3, h4⟩ := yxN hτ R h1
   obtain ⟨us, h5, h6⟩ := zxH hτ R h2
   exact ⟨u :: us, .cons h3 h5, by simp only [List.mapM_cons, Sem.run_bind, h4, Result.andThen_ok, h6, Sem.run_pure]⟩
  ·cases h
theorem yiK : ∀ {l : List Ty} {us : LV} {x : zdY l}, repA S l us x → us.length = l.length
 | [], us, _, h => by have : us = [] := h; subst this; rfl
 | [_], _, _, ⟨_, e, _⟩ => by rw [e]; rfl
 | _ :: t' :: l, _, _, ⟨_, _, e, _, h⟩ => by rw [e]; simp [yiK h]
theorem yxI {l : List Ty} {us : LV} {x : zdY l} (h : repA S l us x) : repR S l (if h : us.toArray.size = 1 then us.toArray[0] else .tuple us.toArray) x := by
 match l, x, h with
 | [], x, h => have : us = [] := h; subst this; exact ⟨[], rfl, rfl⟩
 | [t], x, ⟨u, e, h1⟩ => subst e; exact h1
 | t :: t' :: l, x, h =>
  have hl := yiK h
  rw [dif_neg (by simp at hl ⊢; omega)]
  exact ⟨us, rfl, h⟩
theorem ykD : ∀ {xs : List SV} {us : LV} (i t : Nat), A2 (VR S E) xs us → VR S E (lkS (argS i xs) t) (look (argm us i) t)
 | _, _, i, t, .nil => trivial
 | _, _, i, t, .cons a r => by
  unfold argS lkS argm look
  cases Nat.beq i t with
  | true => exact a
  | false => exact ykD (i + 1) t r
theorem ydD : ∀ (us : LV) (i t : Nat), look (argm us i) t = if i ≤ t then us.getD (t - i) undef else undef
 | [], i, t => by simp [argm, look]
 | u :: us, i, t => by
  unfold argm look
  rw [ydD us (i + 1) t]
  cases hb : Nat.beq i t with
  | true =>
   have := Nat.eq_of_beq_eq_true hb; subst this
   simp
  | false =>
   have hne : i ≠ t := fun e => by subst e; rw [Nat.beq_refl] at hb; cases hb
   simp only [cond_false]
   by_cases h : i ≤ t
   ·rw [if_pos h, if_pos (by omega), show t - i = (t - (i + 1)) + 1 by omega, List.getD_cons_succ]
   ·rw [if_neg h, if_neg (by omega)]
theorem ycN : ∀ (ash : List Sh) (l : List SV), (putL ash l).1.length = ash.length
 | [], _ => rfl
 | a :: ash, l => by simp only [putL, List.length_cons, ycN ash]
theorem zyA : ∀ {xs : List SV} {i t : Nat}, i + xs.length ≤ t → lkS (argS i xs) t = .undef
 | [], _, _, _ => rfl
 | x :: xs, i, t, h => by
  simp only [List.length_cons] at h
  unfold argS lkS
  have : Nat.beq i t = false := by rw [zoM]; simp; omega
  rw [this]
  exact zyA (by omega)
theorem yrE {G : List (Nat × Obj)} {S0 : Mem} {w0 : World} (hG : GS G S0) (hS : Sub S0 w0) : GB G ⟨S0, [], w0⟩ := fun p hp => ⟨(Array.getElem?_eq_some_iff.1 (hS _ _ (hG p hp))).1, by simp, hG p hp⟩
theorem xcZ {G : List (Nat × Obj)} {B : Bas} {S0 : Mem} {w0 : World} {L0 : List Res} (hG : GS G S0) (H : HS B S0 w0 L0) : GB G ⟨S0, zbX L0, w0⟩ := fun p hp => by
 refine ⟨(Array.getElem?_eq_some_iff.1 (H.sub _ _ (hG p hp))).1, fun h => ?_, hG p hp⟩
 obtain ⟨k, r, h1, h2⟩ := zdL.1 h
 have := (H.old k r _ h1 h2).2
 rw [hG p hp] at this; cases this
theorem xdF {G : List (Nat × Obj)} {f : FuncId} {fn : Func} {ats : List Sh} {rts : List Ty} (hm : P.follows .mixedOrders = true) (hτ : TEok P τ) (hΓ : ∀ B, GB G B → CTok P Γ B) (hf : P.funcs[f]? = some fn) (hfn : IsFn P f) (hl : Nat.ble ats.length fn.ntmps = true) : PCok P G f ⟨ats, rts, fnP τ Γ η fn ats rts, false⟩ := by
 refine ⟨hfn, fun S0 w0 us a y hG hS ha hy => ?_⟩
 have hy : fnP τ Γ η fn ats rts a = some y := hy
 have ha : A2 (VR S0 []) (putL ats (zrG _ a)).1 us := ha
 have hul : us.length = ats.length := by rw [← ha.len, ycN]
 unfold fnP at hy
 split at hy
 ·cases hy
 ·rename_i c hb
  refine enter hf hb rfl (by rw [hul]; exact hl) ?_
  have R0 : Rel fn.ntmps ⟨S0, [], w0⟩ S0 [] [] ⟨argS 0 (putL ats (zrG _ a)).1, []⟩ (argm us 0) w0 := by
   refine ⟨HS.start hS, rfl, rfl, fun i o h => by simp at h, fun t => ?_⟩
   show VR S0 [] (lkS (argS 0 (putL ats (zrG _ a)).1) t) (bif Nat.blt t fn.ntmps then look (argm us 0) t else undef)
   cases ht : Nat.blt t fn.ntmps with
   | true => exact ykD 0 t ha
   | false =>
    rw [zkE] at ht
    have h1 := of_decide_eq_false ht
    have h2 := Nat.le_of_ble_eq_true hl
    rw [zyA (by rw [ycN]; omega)]
    trivial
  refine zqV hm hτ (hΓ _ (yrE hG hS)) c R0 (fin τ fn rts) y _ hy fun e σ' S' E' L' m' w' h1 _ _ _ R1 => ?_
  have key : ∀ (_ : (match zvZ τ σ' fn.results.toList with
    | some l => match zvZ τ (frzL σ' (l.flatMap owns)) fn.results.toList with
     | some l => ycZ [] rts l
     | none => none
    | none => none) = some y), (fr fn.ntmps m').defers = [] ∧ ∃ v, (results fn (fr fn.ntmps m').tmps).run P w' = .ok v w' ∧ ∃ v', Ending.returned v = .returned v' ∧ Ext w0 w' ∧ repR (gr S0 w0 w') rts v' y := fun h1 => by
   split at h1
   ·rename_i l hl1
    split at h1
    ·rename_i l2 hl2
     obtain ⟨S2, E2, L2, _, _, R2⟩ := znA (l.flatMap owns) R1
     obtain ⟨vs, h3, h4⟩ := zxH (P := P) hτ R2 hl2
     have h5 := yhY (S2 := gr S0 w0 w') R2.hs.gr zeP rts h1 h3
     refine ⟨rfl, _, ?_, _, rfl, R2.hs.toExt, yxI h5⟩
     rw [zpI, Array.mapM_eq_mapM_toList]
     simp only [Sem.run_bind, Sem.run_map, h4, Result.andThen_ok, Sem.run_pure]
    ·cases h1
   ·cases h1
  cases e with
  | normal =>
   obtain ⟨h2, v, h3, v', h4, h5, h6⟩ := key h1
   cases h4
   exact ⟨h2, v, h3, h5, v, rfl, h6, fun h => by cases h⟩
  | ret =>
   obtain ⟨h2, v, h3, v', h4, h5, h6⟩ := key h1
   cases h4
   exact ⟨h2, v, h3, h5, v, rfl, h6, fun h => by cases h⟩
  | exit i => cases h1
theorem yiV : ∀ (us : LV) (pre : LV), zxR (fun t => (pre ++ us).getD t undef) pre.length us.length = us
 | [], _ => rfl
 | u :: us, pre => by
  have h1 := yiV us (pre ++ [u])
  simp only [List.length_append, List.length_singleton, List.append_assoc, List.singleton_append] at h1
  simp only [List.length_cons, zxR, h1]
  congr 1
  simp
theorem ykI (us : LV) : zxR (fun t => us.getD t undef) 0 us.length = us := yiV us []
theorem ysA (us : LV) : (if h : us.toArray.size = 1 then us.toArray[0] else .tuple us.toArray) = yaD us := by
 match us with
 | [] => rfl
 | [u] => rfl
 | u :: u' :: us => rw [dif_neg (by simp)]; rfl
theorem ydW : ∀ {l : List ResultVar} {xs : List SV}, zvZ τ σ l = some xs → xs.length = l.length
 | [], _, h => by cases h; rfl
 | v :: l, _, h => by
  unfold zvZ at h
  split at h
  ·rename_i h2; cases h; simp [ydW h2]
  ·cases h
theorem ygD {f : FuncId} {fn : Func} {c : Code} {N0 nr : Nat} {outs : List (Option Nat × Shp)} {S0 : Mem} {w0 : World} {us : LV} {E0 : List EI} {L0 : List Res} {σ0 : St} {d : DS outs} (hm : P.follows .mixedOrders = true) (hτ : TEok P τ) (hΓ : CTok P Γ ⟨S0, zbX L0, w0⟩) (hf : P.funcs[f]? = some fn) (hb : fn.body = some c) (hl : us.length ≤ fn.ntmps) (hr : Nat.beq fn.results.toList.length nr = true)
  (R : RelV ⟨S0, zbX L0, w0⟩ S0 E0 L0 σ0 (fun t => us.getD t undef) w0) (hy : run N0 fn.ntmps τ Γ η c σ0 (finS τ fn N0 outs) = some d) :
  Calls P f us.toArray w0 fun e w' => ∃ v, e = .returned v ∧ ∃ S' E' L' σo V', (∀ {γ : Type} (k : Ex → St → Option γ), out [] outs d k = k .normal σo) ∧ Mem.le S0 S' ∧ Pin N0 E0 E' ∧ RelV ⟨S0, zbX L0, w0⟩ S' E' L' σo V' w' ∧ Ver0 σo.hp ∧ N0 ≤ σo.hp.length ∧ v = yaD (zxR V' 0 nr) := by
 refine enter hf hb rfl (Nat.ble_eq_true_of_le hl) ?_
 have R0 : Rel fn.ntmps ⟨S0, zbX L0, w0⟩ S0 E0 L0 σ0 (argm us 0) w0 := by
  refine ⟨R.hs, R.lL, R.lE, R.obj, fun t => ?_⟩
  have h1 := R.sl t
  show VR S0 E0 (lkS σ0.sl t) (bif Nat.blt t fn.ntmps then look (argm us 0) t else undef)
  cases ht : Nat.blt t fn.ntmps with
  | true =>
   have := ydD us 0 t
   rw [if_pos (Nat.zero_le t)] at this
   rw [cond_true, this]; exact h1
  | false =>
   rw [zkE] at ht
   have h2 := of_decide_eq_false ht
   rw [cond_false]
   have h3 : us.getD t undef = undef := by rw [List.getD_eq_getElem?_getD, List.getElem?_eq_none (by omega)]; rfl
   rw [← h3]; exact h1
 refine zqV hm hτ hΓ c R0 (finS τ fn N0 outs) d _ hy fun e σ' S' E' L' m' w' h1 hS hP _ R1 => ?_
 have key : ∀ (_ : (match zvZ τ σ' fn.results.toList with
   | some l => inj N0 outs .normal ⟨argS 0 l, σ'.hp⟩
   | none => none) = some d), (fr fn.ntmps m').defers = [] ∧ ∃ v, (results fn (fr fn.ntmps m').tmps).run P w' = .ok v w' ∧ ∃ v', Ending.returned v = .returned v' ∧ ∃ S' E' L' σo V', (∀ {γ : Type} (k : Ex → St → Option γ), out [] outs d k = k .normal σo) ∧ Mem.le S0 S' ∧ Pin N0 E0 E' ∧ RelV ⟨S0, zbX L0, w0⟩ S' E' L' σo V' w' ∧ Ver0 σo.hp ∧ N0 ≤ σo.hp.length ∧ v' = yaD (zxR V' 0 nr) := fun h1 => by
  split at h1
  ·rename_i l hl1
   obtain ⟨vs, h3, h4⟩ := zxH (P := P) hτ R1 hl1
   have R2 : RelV ⟨S0, zbX L0, w0⟩ S' E' L' ⟨argS 0 l, σ'.hp⟩ (fun t => vs.getD t undef) w' := ⟨R1.hs, R1.lL, R1.lE, R1.obj, fun t => by
    have := ycT 0 t h3
    rw [if_pos (Nat.zero_le t)] at this
    exact this⟩
   obtain ⟨S2, E2, L2, σ2, hS2, hP2, R3, hv, hn, h5⟩ := zvL R2 (kp := []) (fun _ _ _ _ => trivial) h1
   refine ⟨rfl, yaD vs, ?_, yaD vs, rfl, S2, E2, L2, σ2, _, h5, Mem.le_trans hS hS2, hP.trans hP2, R3, hv, hn, ?_⟩
   ·rw [zpI, Array.mapM_eq_mapM_toList]
    simp only [Sem.run_bind, Sem.run_map, h4, Result.andThen_ok, Sem.run_pure, ← ysA]
   ·have h6 : vs.length = nr := by rw [← h3.len, ydW hl1]; exact Nat.eq_of_beq_eq_true hr
    rw [← h6, ykI]
  ·cases h1
 cases e with
 | normal =>
  obtain ⟨h2, v, h3, v', h4, h5⟩ := key h1
  cases h4
  exact ⟨h2, v, h3, v, rfl, h5⟩
 | ret =>
  obtain ⟨h2, v, h3, v', h4, h5⟩ := key h1
  cases h4
  exact ⟨h2, v, h3, v, rfl, h5⟩
 | exit i => cases h1
theorem yyL {G : List (Nat × Obj)} {f : FuncId} {fn : Func} {I : Shp} {nr : Nat} {outs : List (Option Nat × Shp)} (hm : P.follows .mixedOrders = true) (hτ : TEok P τ) (hΓ : ∀ B, GB G B → CTok P Γ B) (hf : P.funcs[f]? = some fn) (hfn : IsFn P f) (hl : Nat.ble I.sl.length fn.ntmps = true) (hr : Nat.beq fn.results.toList.length nr = true) : SCok P G f ⟨I, nr, outs, fnS τ Γ η fn I outs⟩ := by
 refine ⟨hfn, fun S0 w0 us E0 L0 a d hG hul R hy => ?_⟩
 have hy : fnS τ Γ η fn I outs a = some d := hy
 have hul : us.length = I.sl.length := hul
 unfold fnS at hy
 split at hy
 ·cases hy
 ·rename_i c hb
  exact ygD hm hτ (hΓ _ (xcZ hG R.hs)) hf hb (by rw [hul]; exact Nat.le_of_ble_eq_true hl) hr R hy
end
def PL (P : Program) (G : List (Nat × Obj)) : List (Nat × PC) → Prop
 | [] => True
 | x :: l => PCok P G x.1 x.2 ∧ PL P G l
def SL (P : Program) (G : List (Nat × Obj)) : List (Nat × SC) → Prop
 | [] => True
 | x :: l => SCok P G x.1 x.2 ∧ SL P G l
theorem PL.at {P : Program} {G : List (Nat × Obj)} : ∀ {l : List (Nat × PC)}, PL P G l → ∀ f c, pcAt l f = some c → PCok P G f c
 | [], _, f, c, h => by cases h
 | (d, x) :: l, ⟨h1, h2⟩, f, c, h => by
  unfold pcAt at h
  cases hb : Nat.beq d f with
  | true => rw [hb] at h; cases h; rw [← Nat.eq_of_beq_eq_true hb]; exact h1
  | false => rw [hb] at h; exact PL.at h2 f c h
theorem SL.at {P : Program} {G : List (Nat × Obj)} : ∀ {l : List (Nat × SC)}, SL P G l → ∀ f c, c ∈ scAt l f → SCok P G f c
 | [], _, f, c, h => by cases h
 | (d, x) :: l, ⟨h1, h2⟩, f, c, h => by
  unfold scAt at h
  cases hb : Nat.beq d f with
  | true =>
   rw [hb] at h
   rcases List.mem_cons.1 h with rfl | h
   ·rw [← Nat.eq_of_beq_eq_true hb]; exact h1
   ·exact SL.at h2 f c h
  | false => rw [hb] at h; exact SL.at h2 f c h
theorem ctok {P : Program} {G : List (Nat × Obj)} {pc : List (Nat × PC)} {sc : List (Nat × SC)} {k : Bool} (h1 : PL P G pc) (h2 : SL P G sc) : ∀ B, GB G B → CTok P ⟨pc, sc, k⟩ B := fun B hG =>
 ⟨fun f c h => ⟨(h1.at f c h).fn, fun S w us a y hA => (h1.at f c h).ok S w us a y (hA.gs hG)⟩, fun f c h => ⟨(h2.at f c h).fn, fun S w us E L a d hA => (h2.at f c h).ok S w us E L a d (hA.gs hG)⟩⟩
theorem yvM {P : Program} {G : List (Nat × Obj)} {τ : TE} {Γ : CT} {η : HT} {f : FuncId} {fn : Func} {c : PC} (hm : P.follows .mixedOrders = true) (hτ : TEok P τ) (hΓ : ∀ B, GB G B → CTok P Γ B) (hf : P.funcs[f]? = some fn) (hfn : IsFn P f) (hl : Nat.ble c.ash.length fn.ntmps = true) (hc : c.cl = false) (he : fnP τ Γ η fn c.ash c.rts = c.p) : PCok P G f c := by
 have h := xdF (η := η) (rts := c.rts) hm hτ hΓ hf hfn hl
 rw [he, ← hc] at h
 exact h
theorem yvU {P : Program} {G : List (Nat × Obj)} {τ : TE} {Γ : CT} {η : HT} {f : FuncId} {fn : Func} {c : SC} (hm : P.follows .mixedOrders = true) (hτ : TEok P τ) (hΓ : ∀ B, GB G B → CTok P Γ B) (hf : P.funcs[f]? = some fn) (hfn : IsFn P f) (hl : Nat.ble c.I.sl.length fn.ntmps = true) (hr : Nat.beq fn.results.toList.length c.nr = true) (he : fnS τ Γ η fn c.I c.outs = c.p) : SCok P G f c := by
 have h := yyL (η := η) (outs := c.outs) hm hτ hΓ hf hfn hl hr
 rw [he] at h
 exact h
def keqI (x y : Int) : Bool := decide (x = y)
def kltI (x y : Int) : Bool := decide (x < y)
abbrev hS : Sh := .h .s
abbrev hI : Sh := .h (.i .i64)
abbrev hB : Sh := .h .b
def scal : Ty → Bool
 | .i _ => true
 | .b => true
 | .s => true
 | _ => false
def encV : (t : Ty) → den t → Value
 | .i k, x => .int k (toI k x)
 | .b, x => .bool x
 | .s, x => str x
 | _, _ => undef
def encL : (l : List Ty) → zdY l → LV
 | [], _ => []
 | [t], x => [encV t x]
 | t :: t' :: l, x => encV t x.1 :: encL (t' :: l) x.2
def encR (l : List Ty) (x : zdY l) : Value := match l, x with
 | [t], x => encV t x
 | l, x => .tuple (encL l x).toArray
section
variable {S : Mem} {E : List EI} {P : Program} {G : List (Nat × Obj)} {f : FuncId}
theorem ycH : ∀ {t : Ty} {x : den t} {u : Value}, scal t = true → VR S E (svOf t x) u → u = encV t x
 | .i k, x, u, _, h => by
  have h : [u] = [Value.int k (toI k x)] := h
  exact (List.cons.inj h).1
 | .b, x, u, _, h => by
  have h : [u] = [Value.bool x] := h
  exact (List.cons.inj h).1
 | .s, x, u, _, h => by
  have h : [u] = [str x] := h
  exact (List.cons.inj h).1
theorem ybO : ∀ {t : Ty} {x : den t}, scal t = true → rep1 t S (encV t x) x
 | .i _, _, _ => rfl
 | .b, _, _ => rfl
 | .s, _, _ => rfl
theorem yhV : ∀ {l : List Ty} {x : zdY l}, l.all scal = true → repA S l (encL l x) x
 | [], _, _ => rfl
 | [t], x, h => ⟨_, rfl, ybO (by simpa using h)⟩
 | t :: t' :: l, x, h => ⟨_, _, rfl, ybO (by simp at h; exact h.1), yhV (by simp at h ⊢; exact h.2)⟩
theorem ycJ {l : List Ty} {x : zdY l} (h : l.all scal = true) : repR S l (encR l x) x := match l, x, h with
 | [t], x, h => show rep1 t S (encV t x) x from ybO (by simpa using h)
 | [], _, _ => ⟨[], rfl, rfl⟩
 | t :: t' :: l, x, h => ⟨_, rfl, yhV h⟩
theorem pc1 {t1 : Ty} {rts : List Ty} {p : den t1 → Option (zdY rts)} (h1 : scal t1 = true) (hr : rts.all scal = true) (hfn : IsFn P f)
  (h : ∀ S w x y, GS G S → Sub S w → p x = some y → Calls P f #[encV t1 x] w fun e w' => e = .returned (encR rts y) ∧ Ext w w') :
  PCok P G f ⟨[.h t1], rts, p, false⟩ := by
 refine ⟨hfn, fun S0 w0 us x y hG hS ha hy => ?_⟩
 have ha : A2 (VR S0 []) [svOf t1 x] us := ha
 cases ha with
 | cons q1 q2 =>
  cases q2
  rw [ycH h1 q1]
  exact (h S0 w0 x y hG hS hy).mono fun e w' ⟨he, hx⟩ => ⟨hx, _, he, ycJ hr, fun h => by cases h⟩
theorem pc2 {t1 t2 : Ty} {rts : List Ty} {p : den t1 → den t2 → Option (zdY rts)} (h1 : scal t1 = true) (h2 : scal t2 = true) (hr : rts.all scal = true) (hfn : IsFn P f)
  (h : ∀ S w x1 x2 y, GS G S → Sub S w → p x1 x2 = some y → Calls P f #[encV t1 x1, encV t2 x2] w fun e w' => e = .returned (encR rts y) ∧ Ext w w') :
  PCok P G f ⟨[.h t1, .h t2], rts, fun (x : den t1 × den t2) => p x.1 x.2, false⟩ := by
 refine ⟨hfn, fun S0 w0 us (x : den t1 × den t2) y hG hS ha hy => ?_⟩
 have ha : A2 (VR S0 []) [svOf t1 x.1, svOf t2 x.2] us := ha
 cases ha with
 | cons q1 q2 =>
  cases q2 with
  | cons q3 q4 =>
   cases q4
   rw [ycH h1 q1, ycH h2 q3]
   exact (h S0 w0 x.1 x.2 y hG hS hy).mono fun e w' ⟨he, hx⟩ => ⟨hx, _, he, ycJ hr, fun h => by cases h⟩
end
end Go.Proofs.YtebbcofojchkpaaGreatDoor.Am
namespace Go.Proofs.YtebbcofojchkpaaGreatDoor
open Go Go.RowKit
def decF : Nat → Nat → Bs
 | 0, _ => []
 | f + 1, u => bif Nat.blt u 10 then [UInt8.ofNat (48 + u)] else decF f (u / 10) ++ [UInt8.ofNat (48 + u % 10)]
theorem yfP : ∀ (f u : Nat), u < 10 ^ f → 0 < f → decF f u = Lib.decDigits u
 | 0, _, _, h => absurd h (Nat.lt_irrefl 0)
 | f + 1, u, h, _ => by
  rw [Lib.decDigits]
  unfold decF
  by_cases hu : u < 10
  ·rw [show Nat.blt u 10 = true by rw [zkE]; simpa using hu, dif_pos hu]; rfl
  ·rw [show Nat.blt u 10 = false by rw [zkE]; simpa using hu, dif_neg hu]
   have hf : 0 < f := by
    rcases Nat.eq_zero_or_pos f with rfl | hf
    ·rw [Nat.zero_add, Nat.pow_one] at h; omega
    ·exact hf
   rw [yfP f (u / 10) (by rw [Nat.pow_succ] at h; omega) hf]; rfl
def yvZ (n : Int) : Bs := bif decide (n < 0) then 45 :: decF 20 n.natAbs else decF 20 n.toNat
def ylX (n : Int) : Option Bs := bif decide (-9223372036854775808 ≤ n) && decide (n ≤ 9223372036854775807) then some (yvZ n) else none
theorem yqO {n : Int} (h0 : -9223372036854775808 ≤ n) (h1 : n ≤ 9223372036854775807) : yvZ n = Lib.itoa n := by
 unfold yvZ Lib.itoa
 by_cases hn : n < 0
 ·rw [if_pos hn, decide_eq_true hn, cond_true, yfP _ _ (by omega) (by omega)]
 ·rw [if_neg hn, decide_eq_false hn, cond_false, yfP _ _ (by omega) (by omega)]
theorem GV.tab {S : Mem} {w : World} (h : GV S) (hS : Sub S w) : Lib.TabIs Tryz.prog w "internal/strconv.uint64pow10" .u64 Lib.pow10Tab := by
 obtain ⟨t, fz, h⟩ := h.tb
 have hg : Tryz.prog.globalNamed "internal/strconv.uint64pow10" = some 3 := by kernel_rfl
 unfold Lib.TabIs World.var?
 rw [hg, Option.bind_some, hS _ _ h]
 rfl
theorem ysY {S : Mem} {w : World} (hS : Sub S w) (hG : GV S) {x0 : Int} {r : Bs} (hF : ylX x0 = some r) :
  Calls Tryz.prog 46 #[.int .i64 x0] w fun e w' => e = .returned (str r) ∧ Ext w w' := by
 unfold ylX at hF
 obtain ⟨h, hF⟩ := Am.zaC hF
 simp only [Bool.and_eq_true, decide_eq_true_eq] at h
 cases hF
 refine (Tryz.strconv_Itoa x0 h.1 h.2 w (hG.tab hS)).mono ?_
 rintro _ w' ⟨rfl, k, os, rfl⟩
 rw [yqO h.1 h.2]
 exact ⟨rfl, ⟨rfl, rfl, rfl, by show w.heap.size ≤ (w.heap ++ os).size; rw [Array.size_append]; omega, fun j hj => by show (w.heap ++ os)[j]? = _; rw [Array.getElem?_append_left hj]⟩⟩
def yjS (s cs : Bs) : Option Bs := bif decide (s.length ≤ 9223372036854775807) && decide (cs.length < 4294967281) && cs.all (fun b => decide (b.toNat < 128)) then some (Lib.trimS s cs) else none
theorem xaS {S : Mem} {w : World} (_ : Sub S w) {x0 x1 r : Bs} (hF : yjS x0 x1 = some r) :
  Calls Tryz.prog 82 #[str x0, str x1] w fun e w' => e = .returned (str r) ∧ Ext w w' := by
 unfold yjS at hF
 obtain ⟨h, hF⟩ := Am.zaC hF
 simp only [Bool.and_eq_true, decide_eq_true_eq] at h
 cases hF
 exact Any.strings_Trim_laid Tryz.lays160 (by kernel_rfl) ⟨x0.toArray⟩ ⟨x1.toArray⟩ w (by rw [zfI]; exact h.1.1) (by rw [zfI]; exact h.1.2) (fun j b hj => by
  have := List.all_eq_true.1 h.2 b (List.mem_of_getElem? hj)
  simpa using this)
def cutP (s sep : Bs) : Option (Bs × Bs × Bool) := bif decide (s.length < 4294967281) then some (Lib.cut s sep) else none
theorem xdQ {S : Mem} {w : World} (hS : Sub S w) (hG : GV S) {x0 x1 : Bs} {r : Bs × Bs × Bool} (hF : cutP x0 x1 = some r) :
  Calls Tryz.prog 79 #[str x0, str x1] w fun e w' => e = .returned (.tuple #[str (r.1), str (r.2.1), .bool (r.2.2)]) ∧ Ext w w' := by
 unfold cutP at hF
 obtain ⟨h, hF⟩ := Am.zaC hF
 simp only [decide_eq_true_eq] at h
 cases hF
 obtain ⟨m, hm⟩ := hG.cell hS
 refine (Tryz.strings_Cut ⟨x0.toArray⟩ ⟨x1.toArray⟩ m w (by rw [zfI]; exact h) hm).mono ?_
 rintro _ w' ⟨rfl, n, rfl⟩
 exact ⟨rfl, rfl, rfl, rfl, Nat.le_refl _, fun _ _ => rfl⟩
def yrN (s : Bs) : Option (Int × Bool) := bif decide (s.length ≤ 9223372036854775806) then (match Lib.atoiAll s with
 | .ok v => some (v, false)
 | _ => none) else none
theorem xbJ {S : Mem} {w : World} (_ : Sub S w) {x0 : Bs} {r : Int × Bool} (hF : yrN x0 = some r) :
  r.2 = false ∧ Calls Tryz.prog 83 #[str x0] w fun e w' => e = .returned (.tuple #[.int .i64 r.1, .nilIface]) ∧ Ext w w' := by
 unfold yrN at hF
 obtain ⟨h, hF⟩ := Am.zaC hF
 simp only [decide_eq_true_eq] at h
 split at hF
 ·rename_i v hv
  cases hF
  refine ⟨rfl, (Tryz.strconv_Atoi_ok ⟨x0.toArray⟩ (by rw [zfI]; exact h) v hv w).mono ?_⟩
  rintro _ w' ⟨rfl, rfl | ⟨t, rfl⟩⟩
  ·exact ⟨rfl, Ext.refl _⟩
  ·exact ⟨rfl, ⟨rfl, rfl, rfl, by rw [Lib.bytesWorld_size]; omega, fun j hj => Lib.bytesWorld_at_old w _ _ j hj⟩⟩
 ·cases hF
section
attribute [local irreducible] wpList wpT Code.wp Calls Code.rounds
variable {S : Mem} {w : World}
theorem to9 : TOne Tryz.prog 9 := ⟨fun _ => by kernel_rfl, fun _ => by kernel_rfl⟩
theorem xcA : TOne Tryz.prog 132 := ⟨fun _ => by kernel_rfl, fun _ => by kernel_rfl⟩
theorem xcG : yfJ Tryz.prog 134 (.agg #[.pointer none, .slice none 0 0]) := fun _ => by kernel_rfl
theorem u9 : Tryz.prog.underlying 9 = some .string := by kernel_rfl
theorem u45 : Tryz.prog.underlying 45 = some (.slice 9) := by kernel_rfl
theorem is46 : IsFn Tryz.prog 46 := isFn Tryz.func46 (by kernel_rfl) (by kernel_rfl)
theorem is99 : IsFn Tryz.prog 99 := isFn Tryz.func99 (by kernel_rfl) (by kernel_rfl)
theorem xcB : IsFn Tryz.prog 100 := isFn Tryz.func100 (by kernel_rfl) (by kernel_rfl)
theorem xcE : IsFn Tryz.prog 146 := isFn Tryz.func146 (by kernel_rfl) (by kernel_rfl)
theorem ynT : ykB Tryz.prog 134 1 1 := fun _ _ _ => by kernel_rfl
theorem xdO : TSn Tryz.prog 132 5 (.int .u8 0) [.int .u8 0] 1 1 := TSn.mk' (by kernel_rfl) (by kernel_rfl) rfl rfl rfl rfl
theorem tsz9 : TSz Tryz.prog 9 1 := fun _ => by kernel_rfl
theorem xbC : TSz Tryz.prog 132 1 := fun _ => by kernel_rfl
def zhZ (x0 : Bs) (x1 : Bs) : Option (Int × Bs) :=
 Option.bind (zoD x0) fun y1 => Option.bind (app y1 x1) fun y2 => some ((((x1).length : Int), y2))
theorem zsF {b0_ : Nat} {x0 : Bs} {pv1 : Value} {pcs1 prs1 : LV} {pa1 : Value} (H : HS ⟨S, zbX [.blk b0_ (([pa1] ++ ([pv1]))) 134, .osl (pv1) (x0).length 1 pcs1 prs1 5], w⟩ S w [.blk b0_ (([pa1] ++ ([pv1]))) 134, .osl (pv1) (x0).length 1 pcs1 prs1 5]) (pg1 : RL S pcs1 x0) (pg2 : BA b0_ pa1) {x1 : Bs} {r : Int × Bs} (hF : zhZ x0 x1 = some r) :
  Calls Tryz.prog 99 #[.pointer (some ⟨b0_, 0, none⟩), str (x1)] w fun e w' => ∃ (S2 : Mem) (pv4 : Value) (pcs4 prs4 : LV) (pa4 : Value), e = .returned (.tuple #[.int .i64 (r.1), .nilIface]) ∧ HS ⟨S, zbX [.blk b0_ (([pa1] ++ ([pv1]))) 134, .osl (pv1) (x0).length 1 pcs1 prs1 5], w⟩ S2 w' [.blk b0_ (([pa4] ++ ([pv4]))) 134, .osl (pv4) (r.2).length 1 pcs4 prs4 5] ∧ RL S2 pcs4 r.2 ∧ BA b0_ pa4 := by
 refine enter (n := 19) Tryz.func99 rfl rfl rfl ?_
 unfold zhZ at hF
 refine sr ?_; intro K1 hK1
 refine p_as (v := .int .i64 (0)) rfl ?_
 refine p_as (v := .nilIface) rfl ?_
 refine xk hK1 ?_; clear hK1
 refine sr ?_; intro K2 hK2
 refine p_mv (v := .pointer (some ⟨b0_, 0, none⟩)) rfl ?_
 obtain ⟨y1, e1, hF⟩ := bnd hF
 refine yhX (l := [.pointer (some ⟨b0_, 0, none⟩)]) xcE rfl ?_
 refine (zuI (H.hand [0, 1] rfl) pg1 pg2 e1).mono ?_; rintro _ w1 ⟨S1, pv2, pcs2, prs2, pa2, rfl, H2, pg3, pg4⟩
 obtain ⟨H1, hle1⟩ := H.frame [0, 1] [] rfl H2; clear H H2; have H := H1; clear H1
 replace H : HS ⟨S, zbX [.blk b0_ (([pa1] ++ ([pv1]))) 134, .osl (pv1) (x0).length 1 pcs1 prs1 5], w⟩ S1 w1 [.blk b0_ (([pa2] ++ ([pv2]))) 134, .osl (pv2) (y1).length 1 pcs2 prs2 5] := H
 refine xk hK2 ?_; clear hK2
 refine sr ?_; intro K3 hK3
 refine p_mv (v := .pointer (some ⟨b0_, 0, none⟩)) rfl ?_
 refine p_mv (v := .pointer (some ⟨b0_, 0, none⟩)) rfl ?_
 refine zeB (zlV rfl) ?_
 refine zeB (zmW ynT rfl) ?_
 refine zeB (zoW (v := pv2) xcA H rfl (k := 0) rfl rfl) ?_
 refine p_mv (v := str (x1)) rfl ?_
 obtain ⟨y2, e2, hF⟩ := bnd hF
 refine xcV (ynN (k := 1) (l := x1) xdO u9 H rfl rfl pg3 rfl e2) ?_; clear H; rintro w2 v1 ⟨cs1, rs1, H, g1⟩
 replace H : HS ⟨S, zbX [.blk b0_ (([pa1] ++ ([pv1]))) 134, .osl (pv1) (x0).length 1 pcs1 prs1 5], w⟩ S1 w2 [.blk b0_ (([pa2] ++ ([pv2]))) 134, .osl (v1) (y2).length 1 cs1 rs1 5] := H
 refine zeB (zlV rfl) ?_
 refine zeB (zmW ynT rfl) ?_
 refine xbP (ydA (k := 0) (v := v1) (l := [v1]) xbC H rfl rfl rfl (cells_one (HS.ownOne H (k := 1) rfl)) rfl (fun u hu => by rw [List.mem_singleton] at hu; rw [hu]; exact HS.ownOne H (k := 1) rfl) rfl) ?_; clear H; intro w3 H
 replace H : HS ⟨S, zbX [.blk b0_ (([pa1] ++ ([pv1]))) 134, .osl (pv1) (x0).length 1 pcs1 prs1 5], w⟩ S1 w3 [.blk b0_ (([pa2] ++ ([v1]))) 134, .osl (v1) (y2).length 1 cs1 rs1 5] := H
 refine xk hK3 ?_; clear hK3
 refine sr ?_; intro K4 hK4
 refine p_mv (v := str (x1)) rfl ?_
 refine zeB (ykP (N := (x1).length) u9 rfl rfl) ?_
 refine p_as (v := .int .i64 (((x1).length : Int))) rfl ?_
 refine p_as (v := .nilIface) rfl ?_
 refine xk hK4 ?_; clear hK4
 refine wp_ret ?_
 obtain rfl := osi hF
 refine e_2 rfl (yfS (v := .int .i64 (((x1).length : Int))) rfl) (yfS (v := .nilIface) rfl) ?_
 replace H : HS ⟨S, zbX [.blk b0_ (([pa1] ++ ([pv1]))) 134, .osl (pv1) (x0).length 1 pcs1 prs1 5], w⟩ S1 w3 [.blk b0_ (([pa2] ++ ([v1]))) 134, .osl (v1) (y2).length 1 cs1 rs1 5] := H
 exact ⟨_, _, _, _, _, rfl, H, g1, pg4⟩
def ztZ (x0 : List Bs) (s1 : Int × Bs) : Option ((Int × Bs) ⊕ (Bs)) :=
 bif decide (s1.1 < ((x0).length : Int)) then (Option.bind (idx x0 s1.1) fun y1 => Option.bind (ylX ((y1).length : Int)) fun y2 => Option.bind (app y2 ([58] : Bs)) fun y3 => Option.bind (app y3 y1) fun y4 => Option.bind (zhZ s1.2 y4) fun y5 => some (.inl (((w64 (s1.1 + 1)), y5.2)))) else (some (.inr (s1.2)))
def znL (x0 : List Bs) : Option (Bs) :=
 Option.bind (Option.bind (iter (ztZ x0) ((0, ([] : Bs)))) (fun e => some (e))) (fun t1 => Option.bind (chk (decide ((t1).length ≤ 68719476736))) fun y6 => some (t1))
theorem ybY (hS : Sub S w) (hG : GV S) {v0_ : Value} {x0 : List Bs} (h0_ : RdS S v0_ x0) {r : Bs} (hF : znL x0 = some r) :
  Calls Tryz.prog 45 #[v0_] w fun e w' => e = .returned (str (r)) ∧ Ext w w' := by
 refine enter (n := 21) Tryz.func45 rfl rfl rfl ?_
 have H := HS.start hS
 unfold znL at hF
 refine sr ?_; intro K1 hK1
 refine p_as (v := str (([] : Bs))) rfl ?_
 refine xk hK1 ?_; clear hK1
 refine sr ?_; intro K2 hK2
 refine xcF (ygH (l := ([Value.pointer none] ++ ([Value.slice none 0 0]))) H xcG rfl) ?_; clear H; intro w1 b1 H
 refine xk hK2 ?_; clear hK2
 refine wp_seq_k ?_; intro K3 hK3
 refine xaX fun m1 k1 => ?_
 obtain ⟨t1, hE1, hF1⟩ := bnd hF
 have J1 : ∀ (a2 : Value) (v2 : Value) (cs3 rs2 : LV) (S3 : Mem) (m4 : FM) (w5 : World), (∀ t, has [5, 6, 7, 8, 9, 10, 11, 12, 13, 14, 15, 16, 17, 18, 19] t = false → look m4 t = look m1 t) → Mem.le S S3 → HS ⟨S, [], w⟩ S3 w5 [.osl (v2) (t1).length 1 cs3 rs2 5, .blk b1 (([a2] ++ ([v2]))) 134] → BA b1 a2 → RL S3 cs3 t1 → K3 (fr 21 m4) w5 := by
  clear H; intro a2 v2 cs3 rs2 S3 m4 w5 k5 hle3 H g4 g5
  replace hG := GV.mono hG hle3
  replace h0_ := RdS.mono h0_ hle3
  have q5 : look m4 3 = .pointer (some ⟨b1, 0, none⟩) := (k5 3 rfl).trans (k1 3)
  refine hK3 _ _ ?_
  refine sr ?_; intro K9 hK9
  obtain ⟨y6, e6, hF1⟩ := bnd hF1
  refine yhX (l := [.pointer (some ⟨b1, 0, none⟩)]) xcB (zzC q5 yhP) ?_
  refine (zwL (k1 := 1) (k2 := 0) H rfl rfl g5 (Nat.le_trans (of_decide_eq_true (zoO e6)) (by decide))).mono ?_; clear H; rintro _ w6 ⟨rfl, H⟩
  replace H : HS ⟨S, [], w⟩ S3 w6 [.blk b1 (([a2] ++ ([v2]))) 134] := H
  refine p_as (v := str (t1)) rfl ?_
  refine xk hK9 ?_; clear hK9
  refine wp_ret ?_
  obtain rfl := osi hF1
  refine e_1 rfl (yfS (v := str (t1)) rfl) ?_
  exact ⟨rfl, H.toExt⟩
 refine sr ?_; intro K4 hK4
 refine p_mv (v := v0_) (k1 0) ?_
 refine zeB (r_lenR' u45 rfl h0_ H.sub) ?_
 refine p_mv (v := .int .i64 (0)) rfl ?_
 refine xk hK4 ?_; clear hK4
 refine wp_block ?_
 refine xaX fun m2 k2 => ?_
 obtain ⟨out1, hL1, hE2⟩ := bnd hE1
 replace H := H.nilOwn 1 5; have g3 : RL S [] ([] : Bs) := RL.nil
 replace H : HS ⟨S, [], w⟩ S w1 [.osl (.slice none 0 0) (([] : Bs)).length 1 [] [] 5, .blk b1 (([Value.pointer none] ++ ([Value.slice none 0 0]))) 134] := H
 refine xdP [5, 8, 9, 10, 11, 12, 13, 14, 15, 16, 17, 18, 19] (fun (s1 : Int × Bs) (m3 : FM) (w2 : World) => ∃ (S1 : Mem) (a1 : Value) (v1 : Value) (cs1 rs1 : LV), look m3 8 = .int .i64 (s1.1) ∧ Mem.le S S1 ∧ HS ⟨S, [], w⟩ S1 w2 [.osl (v1) (s1.2).length 1 cs1 rs1 5, .blk b1 (([a1] ++ ([v1]))) 134] ∧ BA b1 a1 ∧ RL S1 cs1 s1.2) hL1 ⟨_, _, _, _, _, (k2 8), (Mem.le_refl _), H, (Or.inl rfl), g3⟩ ?_
 clear H; intro k4 s1 m3 w2 k3 hI1 o2 hb1 hh1; obtain ⟨S1, a1, v1, cs1, rs1, q1, hle1, H, g1, g2⟩ := hI1
 replace hG := GV.mono hG hle1
 replace h0_ := RdS.mono h0_ hle1
 have q2 : look m3 3 = .pointer (some ⟨b1, 0, none⟩) := (k3 3 rfl).trans ((k2 3).trans (k1 3))
 have q3 : look m3 6 = v0_ := (k3 6 rfl).trans (k2 6)
 have q4 : look m3 7 = .int .i64 (((x0).length : Int)) := (k3 7 rfl).trans (k2 7)
 unfold ztZ at hb1
 refine sr ?_; intro K5 hK5
 refine zeB (yzI q1 q4) ?_
 refine xk hK5 ?_; clear hK5
 refine wp_seq_k ?_; intro K6 hK6
 refine ymL (t := decide (s1.1 < ((x0).length : Int))) rfl (fun hc1 => ?_) (fun hc1 => ?_)
 ·replace hb1 := xcP hb1 hc1
  refine wp_skip ?_
  refine xn hK6 ?_; clear hK6
  refine wp_seq_k ?_; intro K7 hK7
  refine wp_block ?_
  refine sr ?_; intro K8 hK8
  obtain ⟨y1, e1, hb1⟩ := bnd hb1
  obtain ⟨b2, o3, N1, c1, cs2, hv1, hi1, hc2, hr1⟩ := h0_.get (ztD e1).2
  refine zeB (yfW (i := (s1.1 : Int).toNat) u45 tsz9 q3 hv1 q1 (ztD e1).1 hi1) ?_
  obtain rfl := elT hr1
  refine zeB (yvQ (p := (o3 + (s1.1 : Int).toNat * 1)) (o := 0) (v := str (y1)) to9 H.sub rfl hc2 rfl) ?_
  refine p_as (v := str (y1)) rfl ?_
  refine xk hK8 ?_; clear hK8
  refine wp_region_lit ?_
  refine p_mv (v := str (y1)) rfl ?_
  refine zeB (ykP (N := (y1).length) u9 rfl rfl) ?_
  obtain ⟨y2, e2, hb1⟩ := bnd hb1
  refine yhX (l := [.int .i64 (((y1).length : Int))]) is46 rfl ?_
  refine (ysY H.sub hG e2).mono ?_; rintro _ w3 ⟨rfl, hx⟩; replace H := H.ext hx; clear hx
  obtain ⟨y3, e3, hb1⟩ := bnd hb1
  refine zeB (ywX (r := y3) rfl rfl (by have := (ziY e3).1; omega) (ziY e3).2) ?_
  refine p_mv (v := str (y1)) rfl ?_
  obtain ⟨y4, e4, hb1⟩ := bnd hb1
  refine zeB (ywX (r := y4) rfl rfl (by have := (ziY e4).1; omega) (ziY e4).2) ?_
  obtain ⟨y5, e5, hb1⟩ := bnd hb1
  refine yhX (l := [.pointer (some ⟨b1, 0, none⟩), str (y4)]) is99 (zzC q2 (zzC rfl yhP)) ?_
  refine (zsF (H.hand [1, 0] rfl) g2 g1 e5).mono ?_; rintro _ w4 ⟨S2, pv1, pcs1, prs1, pa1, rfl, H2, pg1, pg2⟩
  obtain ⟨H1, hle2⟩ := H.frame [1, 0] [] rfl H2; clear H H2; have H := H1; clear H1
  replace hG := GV.mono hG hle2
  replace h0_ := RdS.mono h0_ hle2
  replace H : HS ⟨S, [], w⟩ S2 w4 [.blk b1 (([pa1] ++ ([pv1]))) 134, .osl (pv1) (y5.2).length 1 pcs1 prs1 5] := H
  refine wpList_nil ?_
  refine yyJ ?_
  refine xn hK7 ?_; clear hK7
  refine wp_region_lit ?_
  refine zeB (yzC q1 rfl) ?_
  refine p_mv (v := .int .i64 ((w64 (s1.1 + 1)))) rfl ?_
  refine wpList_nil ?_
  refine zpB ?_
  replace H := H.sel [1, 0] rfl
  replace H : HS ⟨S, [], w⟩ S2 w4 [.osl (pv1) (y5.2).length 1 pcs1 prs1 5, .blk b1 (([pa1] ++ ([pv1]))) 134] := H
  obtain rfl := osi hb1
  exact ⟨((w64 (s1.1 + 1)), y5.2), _, rfl, (by (repeat (refine zuL rfl ?_)); refine yiA k3 rfl ?_; exact kcx), ⟨_, _, _, _, _, rfl, (Mem.le_trans hle1 hle2), H, pg2, pg1⟩, hh1⟩
 ·replace hb1 := xbX hb1 hc1
  refine wp_exit ?_
  refine ytA ?_
  refine ytA ?_
  refine yuX ?_
  refine zpB ?_
  replace H : HS ⟨S, [], w⟩ S1 w2 [.osl (v1) (s1.2).length 1 cs1 rs1 5, .blk b1 (([a1] ++ ([v1]))) 134] := H
  obtain rfl := osi hb1
  obtain rfl := osi hh1
  obtain rfl := osi hE2
  exact J1 _ _ _ _ _ _ _ (by (repeat (refine zuL rfl ?_)); refine yiA k3 rfl ?_; (repeat (refine zuL rfl ?_)); refine ylZ k2 ?_; exact kcx) hle1 H g1 g2
end
end Go.Proofs.YtebbcofojchkpaaGreatDoor
namespace Go.Proofs.YtebbcofojchkpaaGreatDoor.Am
open Go Go.RowKit
class zpM (G : List (Nat × Obj)) : Prop where
 gv : ∀ S, GS G S → GV S
theorem wit {p : Prop} {G : List (Nat × Obj)} [zpM G] (h : p) : p := h
section
variable {G : List (Nat × Obj)} [zpM G]
def zyO : PC := ⟨[.h (.i .i64)], [.s], ylX, false⟩
theorem zxV : PCok Tryz.prog G 46 zyO := pc1 (t1 := .i .i64) (rts := [.s]) rfl rfl (isFn Tryz.func46 (by kernel_rfl) (by kernel_rfl)) fun S _ _ _ hG hS h => ysY hS (zpM.gv S hG) h
def zyS : PC := ⟨[.h .s, .h .s], [.s], fun x => yjS x.1 x.2, false⟩
omit [zpM G] in
theorem zxZ : PCok Tryz.prog G 82 zyS := pc2 (t1 := .s) (t2 := .s) (rts := [.s]) rfl rfl rfl (isFn Tryz.func82 (by kernel_rfl) (by kernel_rfl)) fun _ _ _ _ _ _ hS h => xaS hS h
def zzZ : PC := ⟨[.h .s, .h .s], [.s, .s, .b], fun x => cutP x.1 x.2, false⟩
theorem yaF : PCok Tryz.prog G 79 zzZ := pc2 (t1 := .s) (t2 := .s) (rts := [.s, .s, .b]) rfl rfl rfl (isFn Tryz.func79 (by kernel_rfl) (by kernel_rfl)) fun S _ _ _ _ hG hS h => xdQ hS (zpM.gv S hG) h
def zxY : PC := ⟨[.h .s], [.i .i64, .er], yrN, false⟩
omit [zpM G] in
theorem zyB : PCok Tryz.prog G 83 zxY := by
 refine ⟨isFn Tryz.func83 (by kernel_rfl) (by kernel_rfl), fun S0 w0 us (x : Bs) (y : Int × Bool) hG hS ha hy => ?_⟩
 have ha : A2 (VR S0 []) [svOf .s x] us := ha
 cases ha with
 | cons q1 q2 =>
  cases q2
  rw [ycH (t := .s) rfl q1]
  obtain ⟨h1, h2⟩ := xbJ hS (r := y) hy
  refine h2.mono fun e w' ⟨he, hx⟩ => ⟨hx, _, he, ⟨_, rfl, _, _, rfl, (rfl : [_] = [_]), _, rfl, ?_⟩, fun h => by cases h⟩
  exact ⟨_, rfl, .inl ⟨h1, rfl⟩⟩
end
section
variable {G : List (Nat × Obj)}
def yaC : PC := ⟨[.h (.sl .s)], [.s], znL, false⟩
theorem zzT [zpM G] : PCok Tryz.prog G 45 yaC := by
 refine ⟨isFn Tryz.func45 (by kernel_rfl) (by kernel_rfl), fun S0 w0 us (x : List Bs) (y : Bs) hG hS ha hy => ?_⟩
 have ha : A2 (VR S0 []) [svOf (.sl .s) x] us := ha
 cases ha with
 | cons q1 q2 =>
  cases q2
  rename_i u
  have q1 : rep (.sl .s) S0 [u] x := q1
  obtain ⟨u', hu, hr⟩ := q1
  cases hu
  exact (ybY hS (zpM.gv S0 hG) hr hy).mono fun e w' ⟨he, hx⟩ => ⟨hx, _, he, ycJ (l := [.s]) rfl, fun h => by cases h⟩
end
end Go.Proofs.YtebbcofojchkpaaGreatDoor.Am
