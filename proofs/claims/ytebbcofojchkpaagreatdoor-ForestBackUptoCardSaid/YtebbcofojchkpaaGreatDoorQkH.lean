/- A machine over plain values: regions whose order is open. A machine over plain values: regions whose order is open, by a schedule. A machine over plain values: what it computes of a function's code, the call answers. A machine over plain values: contracts of functions whose arguments and results are numbers, bools and texts. Some functions of Go's library: what they compute, and that they do. Plain laws of the words that walks are told in: loops, lists, bytes. Numbers as texts, and back: plain laws. Conditions: as each theorem says. -/
import Derived.Shelf.Strings.SlTrimAscii
import Derived.KernelRfl
import Derived.Test.YtebbcofojchkpaaGreatDoorQkG
namespace Go.Proofs.YtebbcofojchkpaaGreatDoor.Am
open Go Go.RowKit
def Agr (D : List Nat) (m m' : FM) : Prop := ∀ t, hasN D t = false → look m' t = look m t
theorem Agr.refl (D : List Nat) (m : FM) : Agr D m m := fun _ _ => rfl
theorem Agr.trans {D : List Nat} {a b c : FM} (h : Agr D a b) (k : Agr D b c) : Agr D a c := fun t ht => (k t ht).trans (h t ht)
theorem Agr.put {D : List Nat} {m : FM} {d : Nat} {v : Value} (h : hasN D d = true) : Agr D m ((d, v) :: m) := fun t ht => by
 show (bif Nat.beq d t then v else look m t) = _
 cases hb : Nat.beq d t with
 | true => rw [Nat.eq_of_beq_eq_true hb] at h; rw [h] at ht; cases ht
 | false => rfl
theorem yeD (a b : List Nat) (t : Nat) : hasN (a ++ b) t = (hasN a t || hasN b t) := by
 induction a with
 | nil => rfl
 | cons x a ih => simp only [List.cons_append, hasN, ih, Bool.or_assoc]
theorem Agr.l {a b : List Nat} {m m' : FM} (h : Agr a m m') : Agr (a ++ b) m m' := fun t ht => h t (by rw [yeD, Bool.or_eq_false_iff] at ht; exact ht.1)
theorem Agr.r {a b : List Nat} {m m' : FM} (h : Agr b m m') : Agr (a ++ b) m m' := fun t ht => h t (by rw [yeD, Bool.or_eq_false_iff] at ht; exact ht.2)
theorem ydH {o : Oper} {l : List Oper} {t : Nat} (h : hasN (ztJ l) t = true) : hasN (ztJ (o :: l)) t = true := by
 unfold ztJ
 cases o.dst with
 | none => exact h
 | some d => simp [hasN, h]
theorem ydO {o : Oper} {l : List Oper} {d : Nat} (h : o.dst = some d) : hasN (ztJ (o :: l)) d = true := by
 unfold ztJ; rw [h]; simp [hasN]
theorem Agr.mono {D D' : List Nat} {m m' : FM} (h : Agr D m m') (hd : ∀ t, hasN D t = true → hasN D' t = true) : Agr D' m m' := fun t ht => h t (by
 cases hb : hasN D t with
 | true => rw [hd t hb] at ht; cases ht
 | false => rfl)
section
variable {n : Nat} {m : FM} {o : Oper}
theorem ztI (hg : o.guard = none) {y : Nat → Option Bool} : Region.wanted o y = true := by simp only [Region.wanted, hg]
theorem ylQ {all : List Oper} {j d : Nat} {t : Bool} (h : ynC all j = some d) (hv : evO n m (.tmp d) = .bool t) : yielded all.toArray (fr n m).tmps j = some t := by
 rw [ydY, yyI]
 unfold ynC at h
 split at h
 ·rename_i o ho
  refine gvl_at ?_ h hv
  rw [yjW, ← zfM]; exact ho
 ·cases h
theorem ylT {all : List Oper} {j d : Nat} (h : ynC all j = some d) (hv : evO n m (.tmp d) = undef) : yielded all.toArray (fr n m).tmps j = none := by
 rw [ydY, yyI]
 unfold ynC at h
 split at h
 ·rename_i o ho
  have ho2 : lko all j = some o := by rw [yjW, ← zfM]; exact ho
  unfold gvl; rw [ho2]
  obtain ⟨dst, _, _, _, _, _⟩ := o
  simp only at h
  subst h
  simp only [gvo, hv]
  rfl
 ·cases h
theorem yhV {j : Nat} {b : Bool} {y : Nat → Option Bool} (hg : o.guard = some (j, b)) (hy : y j = none) : Region.wanted o y = false := by
 simp only [Region.wanted, hg, hy]
 cases b <;> rfl
theorem ycC {j : Nat} {b t : Bool} {y : Nat → Option Bool} (hg : o.guard = some (j, b)) (hy : y j = some t) : Region.wanted o y = (t == b) := by
 simp only [Region.wanted, hg, hy]
 cases t <;> cases b <;> rfl
end
section
variable {β : Type} {τ : TE} {Γ : CT} {n : Nat} {P : Program} {B : Bas} {S : Mem} {E : List EI} {L : List Res} {σ : St} {m : FM} {w : World} {ops : Array Oper} {Q : Exit → Act → World → Prop} {rest : List Oper} {o : Oper}
theorem xdH {Rv : Value → World → Prop} (hg : Region.wanted o (yielded ops (fr n m).tmps) = true) (h : outcome P Rv ((execOp (evO n m) o).run P w)) (hK : ∀ v w', Rv v w' → wpList P ops Q rest ((fr n m).put o.dst v) w') :
  wpList P ops Q (o :: rest) (fr n m) w := by
 unfold wpList; rw [if_pos hg]; exact .inl (zvW (by rw [zmZ]; exact h) hK)
theorem xcX (hg : Region.wanted o (yielded ops (fr n m).tmps) = false) (h : wpList P ops Q rest ((fr n m).put o.dst undef) w) : wpList P ops Q (o :: rest) (fr n m) w := by
 unfold wpList; rw [if_neg (by rw [hg]; simp)]; exact h
theorem zwY (R : Rel n B S E L σ m w) {d : Option Nat} {x : SV} {v : Value} {k : St → Option β} {r : β} (hx : VR S E x v) (h : putD n d x σ k = some r) : ∃ σ' m', k σ' = some r ∧ Rel n B S E L σ' m' w ∧ (fr n m).put d v = fr n m' ∧ ∀ D, (∀ t, d = some t → hasN D t = true) → Agr D m m' := by
 cases d with
 | none => exact ⟨σ, m, h, R, yaU _ _ _, fun D _ => Agr.refl D m⟩
 | some d =>
  obtain ⟨hd, h⟩ := zaD h
  exact ⟨_, _, h, R.put hx hd, ybV _ _ _ _, fun D hD => Agr.put (hD d rfl)⟩
theorem zzQ (hτ : TEok P τ) (hΓ : CTok P Γ B) {all : List Oper} {k : St → Option β} {r : β} {S0 : Mem} {E0 : List EI} {m0 : FM} {D : List Nat} (hQ : ∀ σ' S' E' L' m' w', k σ' = some r → Mem.le S0 S' → ELe E0 E' → Agr D m0 m' → Rel n B S' E' L' σ' m' w' → Q .normal (fr n m') w') :
  ∀ (l : List Oper) {σ : St} {S : Mem} {E : List EI} {L : List Res} {m : FM} {w : World}, (∀ t, hasN (ztJ l) t = true → hasN D t = true) → Mem.le S0 S → ELe E0 E → Agr D m0 m → Rel n B S E L σ m w → steps n τ Γ all l σ k = some r → wpList P all.toArray Q l (fr n m) w
 | [], σ, S, E, L, m, w, _, hS, hE, hA, R, h => hQ _ _ _ _ _ _ h hS hE hA R
 | o :: l, σ, S, E, L, m, w, hD, hS, hE, hA, R, h => by
  have hD' : ∀ t, hasN (ztJ l) t = true → hasN D t = true := fun t h => hD t (ydH h)
  have hd' : ∀ t, o.dst = some t → hasN D t = true := fun t h => hD t (ydO h)
  have doIt : ∀ {σ : St}, Rel n B S E L σ m w → Region.wanted o (yielded all.toArray (fr n m).tmps) = true → (op2 τ Γ σ o.op o.type fun x σ => putD n o.dst x σ fun σ => steps n τ Γ all l σ k) = some r → wpList P all.toArray Q (o :: l) (fr n m) w := fun {σ} R hw h => by
   obtain ⟨dst, op, ty, pos, aft, g⟩ := o
   refine xdH hw (yxV hτ hΓ R h) ?_
   rintro v w' ⟨x, σ', S', E', L', h1, h2, h3, R', h4⟩
   obtain ⟨σ2, m2, h5, R2, h6, h7⟩ := zwY R' h4 h1
   show wpList P all.toArray Q l ((fr n m).put dst v) w'
   rw [h6]
   exact zzQ hτ hΓ hQ l hD' (Mem.le_trans hS h2) (hE.trans h3) (hA.trans (h7 D hd')) R2 h5
  have skip : ∀ {σ : St}, Rel n B S E L σ m w → Region.wanted o (yielded all.toArray (fr n m).tmps) = false → (putD n o.dst .skp σ fun σ => steps n τ Γ all l σ k) = some r → wpList P all.toArray Q (o :: l) (fr n m) w := fun {σ} R hw h => by
   obtain ⟨σ2, m2, h5, R2, h6, h7⟩ := zwY R (v := undef) (x := .skp) rfl h
   refine xcX hw ?_
   rw [h6]
   exact zzQ hτ hΓ hQ l hD' hS hE (hA.trans (h7 D hd')) R2 h5
  unfold steps at h
  split at h
  ·rename_i hg
   exact doIt R (ztI hg) h
  ·rename_i j b hg
   split at h
   ·rename_i d hd
    split at h
    ·rename_i t ht
     have hv : evO n m (.tmp d) = .bool t := vB (by have := R.sl d; rw [ht] at this; exact this)
     have hw := ycC (o := o) hg (ylQ (m := m) (n := n) hd hv)
     have Rt : ∀ q : Bool, t = q → Rel n B S E L (σ.put d (.v .b q)) m w := fun q hq => R.re (by rw [hv, hq]; exact bV q)
     cases t with
     | true =>
      cases b with
      | true => exact doIt (Rt true rfl) hw h
      | false => exact skip (Rt true rfl) hw h
     | false =>
      cases b with
      | true => exact skip (Rt false rfl) hw h
      | false => exact doIt (Rt false rfl) hw h
    ·rename_i ht
     have hv : evO n m (.tmp d) = undef := by have := R.sl d; rw [ht] at this; exact this
     exact skip R (yhV hg (ylT (m := m) (n := n) hd hv)) h
    ·cases h
   ·cases h
end
section
variable {S : Mem} {E : List EI}
end
section
variable {β : Type} {τ : TE} {Γ : CT} {n nh : Nat} {P : Program} {B : Bas} {S : Mem} {E : List EI} {L : List Res} {σ : St} {m : FM} {W : World} {ops : Array Oper} {all : List Oper} {Φ : zjM} {vs : Nat → Gv} {D : List (Nat × Nat)}
def Inv (n : Nat) (S : Mem) (E : List EI) (W : World) (Φ : zjM) (vs : Nat → Gv) (sl : List (Nat × SV)) (D : List (Nat × Nat)) (m : FM) : Prop := ∀ t, match lkD D t with
 | none => VR S E (lkS sl t) (evO n m (.tmp t))
 | some j => relK Φ j = true ∧ ∀ w', zkS Φ vs w' j → VR (gf S W (vs j).f w') E (lkS sl t) (evO n m (.tmp t))
theorem ynV : ∀ (D : List (Nat × Nat)) (d t : Nat), lkD (delD D d) t = if d = t then none else lkD D t
 | [], d, t => by simp [delD, lkD]
 | (x, j) :: D, d, t => by
  have ih := ynV D d t
  unfold delD
  cases hx : Nat.beq x d with
  | true =>
   have := Nat.eq_of_beq_eq_true hx; subst this
   simp only [cond_true, ih, lkD]
   by_cases h : x = t
   ·simp [h]
   ·rw [if_neg h, if_neg h]
    have : Nat.beq x t = false := by rw [zrM]; simp [h]
    rw [this]; rfl
  | false =>
   simp only [cond_false, lkD, ih]
   cases hy : Nat.beq x t with
   | true =>
    have h1 := Nat.eq_of_beq_eq_true hy; subst h1
    have h2 : d ≠ x := fun e => by subst e; rw [zrM] at hx; simp at hx
    simp [h2]
   | false => rfl
theorem Inv.put {d : Nat} {x : SV} {v : Value} (hI : Inv n S E W Φ vs σ.sl D m) (hd : Nat.blt d n = true) (hx : VR S E x v) : Inv n S E W Φ vs (σ.put d x).sl (delD D d) ((d, v) :: m) := fun t => by
 have := hI t
 rw [ynV]
 show match (if d = t then none else lkD D t) with
  | none => VR S E (bif Nat.beq d t then x else lkS σ.sl t) (bif Nat.blt t n then (bif Nat.beq d t then v else look m t) else undef)
  | some j => relK Φ j = true ∧ ∀ w', zkS Φ vs w' j → VR (gf S W (vs j).f w') E (bif Nat.beq d t then x else lkS σ.sl t) (bif Nat.blt t n then (bif Nat.beq d t then v else look m t) else undef)
 by_cases h : d = t
 ·subst h
  rw [if_pos rfl]
  simp only [Nat.beq_refl, cond_true, hd]
  exact hx
 ·rw [if_neg h]
  have hb : Nat.beq d t = false := by rw [zrM]; simp [h]
  simp only [hb, cond_false]
  exact this
theorem Inv.re {d : Nat} {x : SV} (hI : Inv n S E W Φ vs σ.sl D m) (hd : lkD D d = none) (hx : VR S E x (evO n m (.tmp d))) : Inv n S E W Φ vs (σ.put d x).sl D m := fun t => by
 have := hI t
 show match lkD D t with
  | none => VR S E (bif Nat.beq d t then x else lkS σ.sl t) _
  | some j => relK Φ j = true ∧ ∀ w', zkS Φ vs w' j → VR (gf S W (vs j).f w') E (bif Nat.beq d t then x else lkS σ.sl t) _
 cases hb : Nat.beq d t with
 | true =>
  have := Nat.eq_of_beq_eq_true hb; subst this
  rw [hd]; exact hx
 | false => exact this
end
section
variable {β : Type} {τ : TE} {σ : St} {k : SV → Option β}
end
section
variable {β : Type} {τ : TE} {Γ : CT} {n nh : Nat} {P : Program} {B : Bas} {S : Mem} {E : List EI} {L : List Res} {σ : St} {m : FM} {W : World} {ops : Array Oper} {all : List Oper} {Φ : zjM} {vs : Nat → Gv} {D : List (Nat × Nat)}
theorem ykG {S' : Mem} {E' : List EI} {x : SV} {u : Value} (hp : ylY x = true) (h : VR S E x u) (hS : Mem.le S S') : VR S' E' x u := by
 cases x with
 | v t x => exact (rpD t).mono h hS
 | nils => exact h
 | nilp => exact h
 | emp => have h : VB S E .emp u := h; exact (⟨h.1.mono hS, h.2⟩ : VB S' E' .emp u)
 | cl e xs => have h : VB S E (.cl e xs) u := h; exact (⟨h.1.mono hS, h.2⟩ : VB S' E' (.cl e xs) u)
 | rm e n xs => have h : VB S E (.rm e n xs) u := h; obtain ⟨v, h1, h2⟩ := h; exact (⟨v, h1.mono hS, h2⟩ : VB S' E' (.rm e n xs) u)
 | rp t x off => obtain ⟨b, o, us, e, h1, h2⟩ := h; exact ⟨b, o, us, e, h1.mono hS, (rpD t).mono h2 hS⟩
 | _ => cases hp
def zuZ (I : List Nat) : Nat → List Res → List Res
 | _, [] => []
 | i, r :: l => (bif hasN I i then zyA else r) :: zuZ I (i + 1) l
def zsM (I : List Nat) : Nat → List EI → List EI
 | _, [] => []
 | i, e :: l => (bif hasN I i then .dead else e) :: zsM I (i + 1) l
theorem zxG (I : List Nat) : ∀ (l : List Res) (i j : Nat), (zuZ I i l)[j]? = (l[j]?).map fun r => bif hasN I (i + j) then zyA else r
 | [], _, _ => by simp [zuZ]
 | r :: l, i, 0 => by simp [zuZ]
 | r :: l, i, j + 1 => by
  simp only [zuZ, List.getElem?_cons_succ, zxG I l (i + 1) j]
  rw [show i + 1 + j = i + (j + 1) by omega]
theorem zzV (I : List Nat) : ∀ (l : List EI) (i j : Nat), (zsM I i l)[j]? = (l[j]?).map fun r => bif hasN I (i + j) then EI.dead else r
 | [], _, _ => by simp [zsM]
 | r :: l, i, 0 => by simp [zsM]
 | r :: l, i, j + 1 => by
  simp only [zsM, List.getElem?_cons_succ, zzV I l (i + 1) j]
  rw [show i + 1 + j = i + (j + 1) by omega]
theorem ykY (I : List Nat) : ∀ (l : List AO) (i j : Nat), (yeM I i l)[j]? = (l[j]?).map fun r => bif hasN I (i + j) then AO.dead else r
 | [], _, _ => by simp [yeM]
 | r :: l, i, 0 => by simp [yeM]
 | r :: l, i, j + 1 => by
  simp only [yeM, List.getElem?_cons_succ, ykY I l (i + 1) j]
  rw [show i + 1 + j = i + (j + 1) by omega]
theorem ygS (I : List Nat) : ∀ (l : List Res) (i : Nat), (zuZ I i l).length = l.length
 | [], _ => rfl
 | _ :: l, i => by simp only [zuZ, List.length_cons, ygS I l]
theorem yhW (I : List Nat) : ∀ (l : List EI) (i : Nat), (zsM I i l).length = l.length
 | [], _ => rfl
 | _ :: l, i => by simp only [zsM, List.length_cons, yhW I l]
theorem ybO (I : List Nat) : ∀ (l : List AO) (i : Nat), (yeM I i l).length = l.length
 | [], _ => rfl
 | _ :: l, i => by simp only [yeM, List.length_cons, ybO I l]
theorem ymI (I : List Nat) (E : List EI) : ELe E (zsM I 0 E) := fun i a h => by
 refine ⟨_, by rw [zzV, h]; rfl, ?_⟩
 rw [Nat.zero_add]
 cases hasN I i with
 | false => exact a.le_refl
 | true =>
  show a.le .dead
  cases a with
  | blk => exact .inr rfl
  | osl => exact .inr (.inl rfl)
  | mp => exact .inl rfl
  | dead => rfl
theorem HS.frame {B : Bas} {S S' : Mem} {w w' : World} {L L' : List Res} (H : HS B S w L) (H' : HS B S' w' L') (hS : Mem.le S S') {I : List Nat} (hf : ∀ i, hasN I i = false → i < L.length → lkR L' i = lkR L i) : HS B S w' (zuZ I 0 L) := by
 have key : ∀ i q, lkR (zuZ I 0 L) i = some q → q = zyA ∨ (lkR L i = some q ∧ lkR L' i = some q) := fun i q h => by
  rw [zbF, zxG, Nat.zero_add] at h
  cases hl : L[i]? with
  | none => rw [hl] at h; cases h
  | some r =>
   rw [hl] at h
   simp only [Option.map_some, Option.some.injEq] at h
   cases hi : hasN I i with
   | true => rw [hi] at h; exact .inl h.symm
   | false =>
    rw [hi] at h
    have h : r = q := h
    subst h
    have h2 : lkR L i = some r := by rw [zbF]; exact hl
    exact .inr ⟨h2, by rw [hf i hi (List.getElem?_eq_some_iff.1 hl).1]; exact h2⟩
 refine ⟨H'.fr, fun b o e => H'.sub b o (hS b o e), H.keep, fun i q h => ?_, fun i q b h hb => ?_, fun i j q s b hi hj hq hs => ?_⟩
 ·rcases key i q h with rfl | ⟨_, h⟩
  ·exact .inl ⟨rfl, rfl, rfl, rfl⟩
  ·exact H'.own i q h
 ·rcases key i q h with rfl | ⟨h, _⟩
  ·cases hb
  ·exact H.old i q b h hb
 ·rcases key i q hi with rfl | ⟨h1, _⟩
  ·cases hq
  ·rcases key j s hj with rfl | ⟨h2, _⟩
   ·cases hs
   ·exact H.inj i j q s b h1 h2 hq hs
theorem yxZ {S : Mem} {E : List EI} {I : List Nat} {x : SV} {u : Value} (hx : okC I x = true) (h : VC S (zsM I 0 E) x u) : VC S E x u := by
 have at_ : ∀ {id e}, (!(hasN I id)) = true → (zsM I 0 E)[id]? = some e → E[id]? = some e := fun {id e} hi h1 => by
  have hi : hasN I id = false := by cases hh : hasN I id with
   | true => rw [hh] at hi; cases hi
   | false => rfl
  rw [zzV, Nat.zero_add, hi] at h1
  cases hE : E[id]? with
  | none => rw [hE] at h1; cases h1
  | some e' =>
   rw [hE] at h1
   have h1 : e' = e := osi h1
   subst h1; rfl
 unfold okC at hx
 split at hx
 ·rename_i id off
  obtain ⟨b, hu, e, h1, h2⟩ := (show VB S (zsM I 0 E) (.ptr id off) u from h)
  exact (⟨b, hu, e, at_ hx h1, h2⟩ : VB S E (.ptr id off) u)
 ·rename_i id ver
  obtain ⟨hu, e, h1, h2⟩ := (show VB S (zsM I 0 E) (.own id ver) u from h)
  exact (⟨hu, e, at_ hx h1, h2⟩ : VB S E (.own id ver) u)
 ·rename_i id
  obtain ⟨hu, e, h1, h2⟩ := (show VB S (zsM I 0 E) (.mpr id) u from h)
  exact (⟨hu, e, at_ hx h1, h2⟩ : VB S E (.mpr id) u)
 ·rename_i id ver i off
  obtain ⟨hu, e, h1, h2⟩ := (show VB S (zsM I 0 E) (.ep id ver i off) u from h)
  exact (⟨hu, e, at_ hx h1, h2⟩ : VB S E (.ep id ver i off) u)
 ·exact ((ykG hx (VR.ofC h) (Mem.le_refl S)).b (by cases x <;> first | rfl | cases hx)).b (by cases x <;> first | rfl | cases hx)
theorem yqB {S : Mem} {E : List EI} {I : List Nat} : ∀ {l : List SV} {us : LV}, l.all (okC I) = true → A2 (VC S (zsM I 0 E)) l us → A2 (VC S E) l us
 | _, _, _, .nil => .nil
 | _, _, hp, .cons a t => by
  simp only [List.all_cons, Bool.and_eq_true] at hp
  exact .cons (yxZ hp.1 a) (yqB hp.2 t)
theorem ywS {S : Mem} {E : List EI} {I : List Nat} {x : SV} {u : Value} (hx : okA I x = true) (h : VA (VC S (zsM I 0 E)) x u) : VA (VC S E) x u := by
 unfold okA at hx
 split at hx
 ·rename_i l
  obtain ⟨us, h1, h2⟩ := h
  exact ⟨us, h1, yqB hx h2⟩
 ·rename_i hn
  have hg : noag x = true := by cases x <;> first | rfl | exact absurd rfl (hn _)
  exact VA.of (yxZ hx (h.b hg)) hg
theorem yqS {S : Mem} {E : List EI} {I : List Nat} : ∀ {l : List SV} {us : LV}, l.all (okA I) = true → A2 (VA (VC S (zsM I 0 E))) l us → A2 (VA (VC S E)) l us
 | _, _, _, .nil => .nil
 | _, _, hp, .cons a t => by
  simp only [List.all_cons, Bool.and_eq_true] at hp
  exact .cons (ywS hp.1 a) (yqS hp.2 t)
theorem xfE {S : Mem} {E : List EI} {I : List Nat} {x : SV} {u : Value} (hx : okF I x = true) (h : VR S (zsM I 0 E) x u) : VR S E x u := by
 unfold okF at hx
 split at hx
 ·rename_i l
  obtain ⟨us, h1, h2⟩ := (show ∃ us, u = .tuple us.toArray ∧ A2 (VA (VC S (zsM I 0 E))) l us from h)
  exact (⟨us, h1, yqS hx h2⟩ : VR S E (.tup l) u)
 ·rename_i hn
  have hu : notu x = true := by cases x <;> first | rfl | exact absurd rfl (hn _) | cases hx
  exact VR.of (ywS hx (h.b hu))
theorem Ok1.twoF {o : Oper} {I : List Nat} {k : SV → St → Option β} {r : β} {w : World} (R : Rel n B S E L σ m w) (h : Ok1 P S E (evO n m) o (fun x => k x σ) r (fun w' => HS B S w' L)) : outcome P (Post2F n B S E L I m k r) ((execOp (evO n m) o).run P w) := by
 obtain ⟨z, u, h1, h2, h3⟩ := h
 rw [h3 w R.hs]
 exact ⟨z, σ, S, E, L, h1, Mem.le_refl _, ELe.refl _, R, h2, fun _ _ _ => rfl⟩
theorem yvK {o : Op} {T : TypeId} {k : SV → St → Option β} (h : (mvOp o || yuY o) = true) : op2 τ Γ σ o T k = op1 τ σ o fun x => k x σ := by
 cases o with
 | call c =>
  unfold mvOp yuY at h
  simp only [Bool.false_or] at h
  split at h
  all_goals first
   | (rename_i e; cases e; done)
   | cases h
   | skip
  all_goals (rename_i e; cases e; rfl)
 | _ => first | rfl | cases h
theorem xfD {T : TypeId} {f : TI} {a x : Operand} {I : List Nat} {id off : Nat} {B' : TypeId} {cs : List SV} {sv : SV} {k : SV → St → Option β} {r : β} {w : World} {dst : Option Tmp} {g : Option (Nat × Bool)} {ty : TypeId} {pos : String} {aft : Array Edge} (hi : hasN I id = true) (hT : TIok P T f) (R : Rel n B S E L σ m w) (ha : VR S E (.ptr id off) (evO n m a)) (hx : VR S E sv (evO n m x)) (hc : atN σ.hp id = some (.blk B' cs))
  (hb : (Nat.beq (cellL sv).length f.sz && Nat.ble (off + f.sz) cs.length && notu sv) = true) (h : k .undef ⟨σ.sl, setN σ.hp id (.blk B' (layS cs off (cellL sv)))⟩ = some r) :
  outcome P (Post2F n B S E L I m k r) ((execOp (evO n m) ⟨dst, .store T a x, ty, pos, aft, g⟩).run P w) := by
 obtain ⟨r0, e0, h1, h2, b, us, rfl, rfl, h3⟩ := R.objN hc
 obtain ⟨b1, hu, e1, h4, h5⟩ := ha
 rw [h2] at h4; cases h4
 cases h5 _ rfl
 obtain ⟨h6, h7⟩ := zxN (hx.b (zcN hb))
 have h8 := Nat.eq_of_beq_eq_true (zbD (zbD hb)); have h9 := Nat.le_of_ble_eq_true (zcN (zbD hb))
 obtain ⟨w', h10, h11⟩ := yeG (g := g) (ty := ty) (pos := pos) (aft := aft) (P := P) hT.tsz R.hs hu h1 rfl h7 (by rw [← h6.len, h8]) (VC.ones h6) (by rw [← h3.len, Nat.ble_eq]; exact h9)
 have h10' : (execOp (evO n m) ⟨dst, .store T a x, ty, pos, aft, g⟩).run P w = .ok .skip w' := h10
 rw [h10']
 refine ⟨_, _, S, E, _, h, Mem.le_refl _, ELe.refl _, R.upd1 h2 h11 ⟨b, _, rfl, rfl, zyD off h3 h6⟩, trivial, fun j hj _ => zdG fun e => ?_⟩
 subst e
 rw [hi] at hj; cases hj
theorem xcH {o : Op} {T : TypeId} {I : List Nat} {k : SV → St → Option β} {r : β} {w : World} {dst : Option Tmp} {g : Option (Nat × Bool)} {pos : String} {aft : Array Edge} (hτ : TEok P τ) (R : Rel n B S E L σ m w) (ho : okP I σ o = true) (h : op2 τ Γ σ o T k = some r) :
  outcome P (Post2F n B S E L I m k r) ((execOp (evO n m) ⟨dst, o, T, pos, aft, g⟩).run P w) := by
 have pure : (mvOp o || yuY o) = true → outcome P (Post2F n B S E L I m k r) ((execOp (evO n m) ⟨dst, o, T, pos, aft, g⟩).run P w) := fun hp => by
  rw [yvK hp] at h
  exact Ok1.twoF R (yjX hτ R h)
 cases o with
 | store T' a x =>
  simp only [op2] at h
  simp only [okP] at ho
  cases hea : ev σ a with
  | none => rw [hea] at ho; cases ho
  | some sa =>
   rw [hea] at ho h
   cases sa with
   | ptr id off =>
    split at h
    ·rename_i f id' off' sv hT ha' hx
     cases ha'
     split at h
     ·rename_i B' cs hc
      obtain ⟨hb, h⟩ := zaD h
      exact xfD ho (hτ _ _ hT) R (zbR R hea) (zbR R hx) hc hb h
     ·cases h
    ·rename_i ha' _; cases ha'
    ·rename_i ha' _; cases ha'
    ·cases h
   | _ => cases ho
 | _ => exact pure ho
theorem ydV {x : Operand} {ash : List Operand} {at_ : Array TypeId} {f : Nat} {xs : List SV} {I : List Nat} {k : SV → St → Option β} {r : β} {w : World} {dst : Option Tmp} {g : Option (Nat × Bool)} {ty : TypeId} {pos : String} {aft : Array Edge} (R : Rel n B S E L σ m w) (hx : zuW σ x ash = some (f, xs)) : ∀ {l : List SC}, (∀ c ∈ l, SCB P B f c) → yfA I σ x ash xs k l = some r →
  outcome P (Post2F n B S E L I m k r) ((execOp (evO n m) ⟨dst, .call ⟨.value x, ash.toArray, at_⟩, ty, pos, aft, g⟩).run P w)
 | [], _, h => by cases h
 | c :: l, hc, h => by
  unfold yfA at h
  cases hb : (Nat.beq xs.length c.I.sl.length && (ydM (c.I.need 0 ⟨argS 0 xs, σ.hp⟩) && yoA I c.I.hp (c.I.rho 0 ⟨argS 0 xs, σ.hp⟩))) with
  | false => rw [hb] at h; exact ydV (at_ := at_) R hx (fun c' hc' => hc c' (List.mem_cons_of_mem _ hc')) h
  | true =>
   rw [hb] at h
   refine zhJ (ymY R hx (hc c List.mem_cons_self) (zbD (zcN hb)) h) ?_
   rintro v w' ⟨x, σ', S', E', L', h1, h2, h3, h4, h5, h6⟩
   refine ⟨x, σ', S', E', L', h1, h2, h3, h4, h5, fun i hi hlt => ?_⟩
   rw [zbF, zbF, h6 i hlt (yhB hi 0 (zcN (zcN hb)))]
theorem ylX {o : Op} {T : TypeId} {I : List Nat} {k : SV → St → Option β} {r : β} {w : World} {dst : Option Tmp} {g : Option (Nat × Bool)} {pos : String} {aft : Array Edge} (hτ : TEok P τ) (hΓ : CTok P Γ B) (R : Rel n B S E L σ m w) (h : op2P τ Γ I σ o T k = some r) :
  outcome P (Post2F n B S E L I m k r) ((execOp (evO n m) ⟨dst, o, T, pos, aft, g⟩).run P w) := by
 unfold op2P at h
 cases ho : okP I σ o with
 | true => rw [ho] at h; exact xcH hτ R ho h
 | false =>
  rw [ho] at h
  simp only [cond_false] at h
  split at h
  ·rename_i x ash at_
   split at h
   ·rename_i f xs hx
    exact ydV (ash := ash.toList) (at_ := at_) R hx (fun c hc => hΓ.sc f c hc) h
   ·cases h
  ·cases h
theorem ykC {f : Nat → Bool} : ∀ {n : Nat}, ysN n f = true → ∀ i, i < n → f i = true
 | n + 1, h, i, hi => by
  unfold ysN at h
  by_cases e : i = n
  ·subst e; exact zbD h
  ·exact ykC (zcN h) i (by omega)
theorem zxU {t : Nat} : ∀ {l : List Oper}, hasN (ztJ l) t = true ↔ ∃ o ∈ l, o.dst = some t
 | [] => by simp [ztJ, hasN]
 | o :: l => by
  have ih := zxU (t := t) (l := l)
  unfold ztJ
  cases hd : o.dst with
  | none => simp [ih, hd]
  | some d => simp only [hasN, Bool.or_eq_true, ih, zrM, decide_eq_true_eq, List.mem_cons, exists_eq_or_imp, hd, Option.some.injEq]
end
section
variable {B : Bas} {S S' : Mem} {w w' : World} {L A : List Res}
theorem HS.part (H : HS B S w L) (h : ∀ i r, lkR A i = some r → r = zyA ∨ lkR L i = some r) : HS B S w A := by
 refine ⟨H.fr, H.sub, H.keep, fun k r hk => ?_, fun k r b hk hb => ?_, fun i j r s b hi hj h1 h2 => ?_⟩
 ·rcases h k r hk with rfl | h
  ·exact .inl ⟨rfl, rfl, rfl, rfl⟩
  ·exact H.own k r h
 ·rcases h k r hk with rfl | h
  ·cases hb
  ·exact H.old k r b h hb
 ·rcases h i r hi with rfl | hi
  ·cases h1
  ·rcases h j s hj with rfl | hj
   ·cases h2
   ·exact H.inj i j r s b hi hj h1 h2
theorem HS.home (H : HS B S w L) (H' : HS ⟨S, zcX L, w⟩ S' w' A) : HS B S' w' A :=
 HS.back H H' (fun _ h => h) (fun i r _ hi _ => .inl ⟨i, hi⟩) (fun i r hi _ => H'.own i r hi) H'.inj
theorem HS.cons (H : HS B S w L) {r : Res} (hr : r.holds w) (hn : ∀ b, r.key = some b → B.w0.heap.size ≤ b ∧ S b = none ∧ b ∉ zcX L) : HS B S w (r :: L) := by
 have away : ∀ {i q b}, lkR L i = some q → q.key = some b → r.key = some b → False := fun {i q b} hi hq hr => (hn b hr).2.2 (zeP.2 ⟨i, q, hi, hq⟩)
 refine ⟨H.fr, H.sub, H.keep, fun k q hk => ?_, fun k q b hk hb => ?_, fun i j q s b hi hj h1 h2 => ?_⟩
 ·cases k with
  | zero => cases hk; exact hr
  | succ k => exact H.own k q hk
 ·cases k with
  | zero => cases hk; exact ⟨.inl (hn b hb).1, (hn b hb).2.1⟩
  | succ k => exact H.old k q b hk hb
 ·cases i with
  | zero =>
   cases j with
   | zero => rfl
   | succ j => cases hi; exact (away hj h2 h1).elim
  | succ i =>
   cases j with
   | zero => cases hj; exact (away hi h1 h2).elim
   | succ j => rw [H.inj i j q s b hi hj h1 h2]
end
theorem yjG {W : List Nat} {i : Nat} (h : hasN W i = false) : ∀ {l : List Nat}, allN W l = true → hasN l i = false
 | [], _ => rfl
 | x :: l, hl => by
  unfold allN at hl
  unfold hasN
  rw [yjG h (zcN hl), Bool.or_false]
  cases hb : Nat.beq x i with
  | false => rfl
  | true => rw [Nat.eq_of_beq_eq_true hb, h] at hl; cases (zbD hl)
theorem yvM {l : List Nat} (h : ydM l = true) : l = [] := by cases l with
 | nil => rfl
 | cons a l => cases h
section
variable {β : Type} {τ : TE} {Γ : CT} {n : Nat} {P : Program} {B : Bas} {S : Mem} {E : List EI} {L : List Res} {σ : St} {m : FM} {w : World}
theorem CTok.lend (h : CTok P Γ B) (H : HS B S w L) : CTok P Γ ⟨S, zcX L, w⟩ := by
 have at_ : ∀ {S1 w1}, At ⟨S, zcX L, w⟩ S1 w1 → At B S1 w1 := fun ⟨S2, L2, hle, H2⟩ => ⟨S2, L2, hle, HS.home H H2⟩
 exact ⟨fun f c hc => ⟨(h.pc f c hc).fn, fun S w us a y hA => (h.pc f c hc).ok S w us a y (at_ hA)⟩, fun f c hc => ⟨(h.sc f c hc).fn, fun S w us E L a d hA => (h.sc f c hc).ok S w us E L a d (at_ hA)⟩⟩
theorem Rel.kill (R : Rel n B S E L σ m w) (I : List Nat) : Rel n B S (zsM I 0 E) (zuZ I 0 L) ⟨σ.sl, yeM I 0 σ.hp⟩ m w := by
 refine ⟨HS.part R.hs fun i r hi => ?_, by rw [ygS, ybO]; exact R.lL, by rw [yhW, ybO]; exact R.lE, fun j q hq => ?_, fun t => (R.sl t).mono (Mem.le_refl S) (ymI I E)⟩
 ·rw [zbF, zxG, Nat.zero_add] at hi
  cases hl : L[i]? with
  | none => rw [hl] at hi; cases hi
  | some r' =>
   rw [hl] at hi
   simp only [Option.map_some, Option.some.injEq] at hi
   cases hh : hasN I i with
   | true => rw [hh] at hi; exact .inl hi.symm
   | false => rw [hh] at hi; right; rw [zbF, hl, ← hi]; rfl
 ·rw [ykY, Nat.zero_add] at hq
  cases hj : σ.hp[j]? with
  | none => rw [hj] at hq; cases hq
  | some q' =>
   obtain ⟨r, e, h1, h2, h3⟩ := R.obj j q' hj
   rw [hj] at hq
   refine ⟨_, _, by rw [zxG, h1]; rfl, by rw [zzV, h2]; rfl, ?_⟩
   rw [Nat.zero_add]
   simp only [Option.map_some, Option.some.injEq] at hq
   cases hi : hasN I j with
   | true => rw [hi] at hq; subst hq; exact ⟨rfl, rfl⟩
   | false => rw [hi] at hq; subst hq; exact h3.mono (Mem.le_refl S) (ymI I E)
theorem yzO {o : Op} {W : List Nat} {k : SV → Option β} {r : β} {dst : Option Tmp} {ty : TypeId} {pos : String} {aft : Array Edge} {g : Option (Nat × Bool)} (hτ : TEok P τ) (R : Rel n B S E L σ m w) (h : fopS τ W σ o k = some r) :
  Ok1 P S E (evO n m) ⟨dst, o, ty, pos, aft, g⟩ k r (fun w => HS B S w (zuZ W 0 L)) := by
 unfold fopS at h
 cases hm : xeI o with
 | true =>
  rw [hm] at h
  simp only [cond_true] at h
  exact xeE hτ (fun x a hx => zbR R hx) h
 | false =>
  rw [hm] at h
  simp only [cond_false] at h
  obtain ⟨z, u, h1, h2, h3⟩ := yjX (dst := dst) (ty := ty) (pos := pos) (aft := aft) (g := g) hτ (R.kill W) h
  obtain ⟨hok, h1⟩ := zaD h1
  exact ⟨z, u, h1, xfE hok h2, h3⟩
def LateD (S : Mem) (E : List EI) : AO → Value → Nat → Obj → Prop
 | .blk T cs, v, k, x => v = .pointer (some ⟨k, 0, none⟩) ∧ ∃ us : LV, x = .cells us.toArray T (0, 0) ∧ A2 (VC S E) cs us
 | .osl ver e T xs, v, k, x => ver = 0 ∧ v = sl k 0 xs.length xs.length ∧ ∃ cs : LV, x = .cells cs.toArray T (0, 0) ∧ cs.length = xs.length * tsz e ∧ RL S cs xs
 | _, _, _, _ => False
theorem LateD.mono {S' : Mem} {E' : List EI} (hS : Mem.le S S') (hE : ELe E E') {o : AO} {v : Value} {k : Nat} {x : Obj} (h : LateD S E o v k x) : LateD S' E' o v k x := by
 cases o with
 | blk T cs => obtain ⟨h1, us, h2, h3⟩ := h; exact ⟨h1, us, h2, h3.imp fun _ _ => VC.mono hS hE⟩
 | osl ver e T xs => obtain ⟨h0, h1, cs, h2, h3, h4⟩ := h; exact ⟨h0, h1, cs, h2, h3, h4.mono hS⟩
 | _ => exact h.elim
theorem LateD.adopt (R : Rel n B S E L σ m w) {o : AO} {v : Value} {k : Nat} {x : Obj} (h : LateD S E o v k x) (h1 : k ∉ zcX L) (h2 : S k = none) (h3 : B.w0.heap.size ≤ k) : ∃ r e, r.key = some k ∧ (∀ w', w'.heap[k]? = some x → r.holds w') ∧
  (∀ w', HS B S w' L → w'.heap[k]? = some x → Rel n B S (E ++ [e]) (L ++ [r]) ⟨σ.sl, σ.hp ++ [o]⟩ m w') ∧ VR S (E ++ [e]) (aoV σ.hp.length o) v := by
 cases o with
 | blk T cs =>
  obtain ⟨rfl, us, rfl, hu⟩ := h
  refine ⟨.blk k us T, .blk k, rfl, fun w' hw => hw, fun w' H hw => ?_, ?_⟩
  ·exact (R.to H).snoc (HS.cons H hw fun b hb => by cases hb; exact ⟨h3, h2, h1⟩) ⟨k, us, rfl, rfl, hu.imp fun _ _ => VC.mono (Mem.le_refl _) (ELe.push E _)⟩
  ·exact ⟨k, rfl, .blk k, (by rw [← R.lE]; simp : (E ++ [EI.blk k])[σ.hp.length]? = some (EI.blk k)), fun b' hb => by cases hb; rfl⟩
 | osl ver e T xs =>
  obtain ⟨rfl, rfl, cs, rfl, hl, hr⟩ := h
  have hold : ∀ w', w'.heap[k]? = some (Obj.cells cs.toArray T (0, 0)) → (Res.osl (sl k 0 xs.length xs.length) xs.length (tsz e) cs [] T).holds w' := fun w' hw => .inr ⟨k, xs.length, (0, 0), rfl, Nat.le_refl _, hl, by rw [List.append_nil]; exact Nat.le_of_eq hl.symm, by rw [List.append_nil]; exact hw, .inl rfl⟩
  refine ⟨.osl (sl k 0 xs.length xs.length) xs.length (tsz e) cs [] T, .osl 0 (sl k 0 xs.length xs.length) (tsz e), rfl, hold, fun w' H hw => ?_, ?_⟩
  ·exact (R.to H).snoc (e := .osl 0 (sl k 0 xs.length xs.length) (tsz e)) (o := .osl 0 e T xs) (HS.cons H (hold w' hw) fun b hb => by cases hb; exact ⟨h3, h2, h1⟩) ⟨_, _, cs, [], rfl, rfl, hr, .inl rfl⟩
  ·exact ⟨rfl, .osl 0 (sl k 0 xs.length xs.length) (tsz e), (by rw [← R.lE]; simp : (E ++ [EI.osl 0 (sl k 0 xs.length xs.length) (tsz e)])[σ.hp.length]? = some (EI.osl 0 (sl k 0 xs.length xs.length) (tsz e))), fun r' v' s' hq => by cases hq; exact ⟨Nat.le_refl _, fun _ => rfl⟩⟩
 | _ => exact h.elim
theorem ywC {o : Op} {ao : AO} {dst : Option Tmp} {ty : TypeId} {pos : String} {aft : Array Edge} {g : Option (Nat × Bool)} (hτ : TEok P τ) (R : Rel n B S E L σ m w) (h : xaV τ σ o = some ao) (w1 : World) : ∃ v k x w', (execOp (evO n m) ⟨dst, o, ty, pos, aft, g⟩).run P w1 = .ok (.value v) w' ∧ Ext w1 w' ∧ w1.heap.size ≤ k ∧ w'.heap[k]? = some x ∧ LateD S E ao v k x := by
 unfold xaV at h
 split at h
 ·rename_i T
  split at h
  ·rename_i f hT
   obtain ⟨hb, h⟩ := zaD h
   cases h
   have hF := hτ _ _ hT
   have hcs : (zV f).cells.toList = f.z.map zc := by
    rw [hF.cells (by
     cases ha : f.agg with
     | true => exact .inl rfl
     | false => rw [ha] at hb; exact .inr (Nat.eq_of_beq_eq_true hb))]
   refine ⟨_, w1.heap.size, _, w1.alloc (.cells (f.z.map zc).toArray T), by simp [execOp, ydU hF.zero, ← hcs], Ext.alloc w1 _, Nat.le_refl _, zaG w1 _, rfl, _, rfl, zyV hF.z⟩
  ·cases h
 ·rename_i T N ps
  split at h
  ·rename_i E' z1 z2 z3 z4 hT
   split at h
   ·rename_i f hf
    obtain ⟨hb, h⟩ := zaD h
    split at h
    ·rename_i ys hys
     cases h
     obtain ⟨ps⟩ := ps
     have hb := zbD hb
     have hN := Nat.eq_of_beq_eq_true (zcN (zbD hb))
     have hN : N = ps.length := hN
     subst hN
     have hz := Nat.eq_of_beq_eq_true (zcN (zbD (zbD hb)))
     have hTn := zyL ((hτ _ _ hT).sl rfl) (hτ _ _ hf) (zbD (zbD (zbD hb))) hz
     have hE := hτ _ _ hf
     obtain ⟨us, h1, h2, h3⟩ := yrM R hz (pre := []) (i := 0) (zl := f.z.map zc) (N := ps.length) hys (by simp) (by rw [List.length_map, hE.zl]) (by simp)
     simp only [List.nil_append] at h1
     rw [hz] at h1
     have hle := Nat.le_of_ble_eq_true (zcN hb)
     have hrun := yaE (P := P) (w := w1) (dst := dst) (ty := ty) (pos := pos) (aft := aft) (g := g) hTn rfl h1 (by rw [Nat.ble_eq, ← hz]; omega)
     refine ⟨_, w1.heap.size, _, _, hrun, Ext.alloc w1 _, Nat.le_refl _, zaG w1 _, rfl, by rw [h3], us, rfl, ?_, h2⟩
     rw [h2.len]; congr 1; exact zmC f.ty
    ·cases h
   ·cases h
  ·cases h
 ·cases h
section
variable {k : SV → St → Option β} {r : β} {dst : Option Tmp} {ty : TypeId} {pos : String} {aft : Array Edge} {g : Option (Nat × Bool)}
theorem ysH {W : List Nat} {i : Nat} : ∀ {l : List Nat}, allN W l = true → hasN W i = false → hasN l i = false
 | [], _, _ => rfl
 | x :: l, h, hi => by
  unfold allN at h
  unfold hasN
  rw [ysH (zcN h) hi]
  cases hb : Nat.beq x i with
  | false => rfl
  | true => rw [Nat.eq_of_beq_eq_true hb, hi] at h; cases h
theorem xdG {x : Operand} {ash : List Operand} {at_ : Array TypeId} {I : List Nat} (hΓ : CTok P Γ B) (R : Rel n B S E L σ m w) (h : pcK Γ I σ x ash k = some (some r)) :
  outcome P (Post2F n B S E L I m k r) ((execOp (evO n m) ⟨dst, .call ⟨.value x, ash.toArray, at_⟩, ty, pos, aft, g⟩).run P w) := by
 unfold pcK at h
 split at h
 ·rename_i f xs hx
  split at h
  ·rename_i c hc
   have hc' := hΓ.pc _ _ hc
   obtain ⟨_, _, us0, hev0, hus0, hA0⟩ := zqZ R hx
   cases hs : c.rts.any zyE with
   | true =>
    rw [hs] at h
    simp only [cond_true] at h
    obtain ⟨hI, h⟩ := zaD h
    obtain ⟨S1, E1, L1, h1, h2, R1, hF⟩ := yjZ (xs.flatMap owns) R
    split at h
    ·rename_i f' xs' hx'
     split at h
     ·rename_i a ha
      have h := osi h
      obtain ⟨y, hy, h⟩ := bnd h
      obtain ⟨first, cap, us, hev, hus, hA⟩ := zqZ R1 hx'
      have hA2 := zzK (Mem.le_refl S1) zgG ha hA
      refine zlZ hc'.fn hev0 (by simpa using hus0) ?_
      have : us = us0 := by rw [hev0] at hev; cases hev; rw [← hus0, ← hus]
      subst this
      exact (hc'.ok S1 w us a y ⟨S1, L1, Mem.le_refl _, R1.hs⟩ R1.hs.sub hA2 hy).mono fun e w' ⟨hx, v, he, hr⟩ => ⟨v, he, _, _, gr S1 w w', E1, L1, h, Mem.le_trans h1 (yiB R1.hs.sub), h2, R1.call hx, zzP hr.1 hr.2, fun i hi _ => hF i (ysH hI hi)⟩
     ·cases h
    ·cases h
   | false =>
    rw [hs] at h
    simp only [cond_false] at h
    split at h
    ·rename_i a ha
     have h := osi h
     obtain ⟨y, hy, h⟩ := bnd h
     refine zlZ hc'.fn hev0 (by simpa using hus0) ?_
     have hA2 := zzK R.hs.sub R.own_ok ha hA0
     exact (hc'.ok (zqP w) w us0 a y ⟨S, L, R.hs.sub, R.hs⟩ (ylI w) hA2 hy).mono fun e w' ⟨hx, v, he, hr⟩ => ⟨v, he, _, _, gr S w w', E, L, h, yiB R.hs.sub, ELe.refl E, R.call hx, zzP (yfW hs hr.1) hr.2, fun _ _ _ => rfl⟩
    ·cases h
  ·cases h
 ·cases h
theorem yvA {o : Op} {T : TypeId} {I : List Nat} (hτ : TEok P τ) (R : Rel n B S E L σ m w) (ho : yvC I σ o = true) (h : op2 τ Γ σ o T k = some r) :
  outcome P (Post2F n B S E L I m k r) ((execOp (evO n m) ⟨dst, o, ty, pos, aft, g⟩).run P w) := by
 unfold yvC at ho
 split at ho
 ·rename_i T'
  simp only [op2] at h
  split at h
  ·rename_i f hT
   obtain ⟨hb, h⟩ := zaD h
   have hF := hτ _ _ hT
   have hcs : (zV f).cells.toList = f.z.map zc := by
    rw [hF.cells (by
     cases ha : f.agg with
     | true => exact .inl rfl
     | false => rw [ha] at hb; exact .inr (Nat.eq_of_beq_eq_true hb))]
   obtain ⟨w', b, h1, h2⟩ := yiW (dst := dst) (ty := ty) (pos := pos) (aft := aft) (g := g) (e := evO n m) R.hs hF.zero hcs
   rw [h1]
   exact (yjL R h2 (zyV hF.z) h).sub fun _ _ _ => rfl
  ·cases h
 ·rename_i T' N ps
  simp only [op2, op2b] at h
  have hn := yvM ho
  rw [hn] at h
  simp only [frzL] at h
  split at h
  ·rename_i E' z1 z2 z3 z4 hT
   split at h
   ·rename_i f hf
    obtain ⟨hb, hq⟩ := zaD h; clear h; have h := hq; clear hq
    split at h
    ·rename_i ys hys
     obtain ⟨ps⟩ := ps
     exact zhJ (yhS (dst := dst) (g := g) (ty := ty) (pos := pos) (aft := aft) R ((hτ _ _ hT).sl rfl) (hτ _ _ hf) (zbD (zbD (zbD hb))) (Nat.eq_of_beq_eq_true (zcN (zbD (zbD hb)))) (Nat.eq_of_beq_eq_true (zcN (zbD hb))) (Nat.le_of_ble_eq_true (zcN hb)) hys h) fun _ _ hp => hp.sub fun _ _ _ => rfl
    ·cases h
   ·cases h
  ·cases h
 ·rename_i x y T1 T2
  simp only [op2] at h
  exact zhJ (ygQ (Γ := Γ) hτ R h) fun _ _ hp => hp.sub fun i hi _ => yjG hi ho
 ·cases ho
theorem xbM {o : Op} {T : TypeId} {I : List Nat} (hτ : TEok P τ) (hΓ : CTok P Γ B) (R : Rel n B S E L σ m w) (h : op2K τ Γ I σ o T k = some r) :
  outcome P (Post2F n B S E L I m k r) ((execOp (evO n m) ⟨dst, o, T, pos, aft, g⟩).run P w) := by
 unfold op2K at h
 cases ho : yvC I σ o with
 | true => rw [ho] at h; exact yvA (T := T) hτ R ho h
 | false =>
  rw [ho] at h
  cases hu : ysN σ.hp.length (hasN I) with
  | true =>
   rw [hu] at h
   refine zhJ (yxV (T := T) hτ hΓ R h) fun v w' ⟨x, σ', S', E', L', h1, h2, h3, h4, h5⟩ => ⟨x, σ', S', E', L', h1, h2, h3, h4, h5, fun i hi hl => ?_⟩
   rw [ykC hu i (by rw [← R.lL]; exact hl)] at hi; cases hi
  | false =>
  rw [hu] at h
  simp only [Bool.or_self, cond_false] at h
  split at h
  ·rename_i x ash as_
   split at h
   ·rename_i r' hr
    obtain ⟨ash⟩ := ash
    exact xdG hΓ R (by rw [hr, h])
   ·exact ylX hτ hΓ R h
  ·exact ylX hτ hΓ R h
end
theorem ygK {r : β} {all : List Oper} {o : Oper} {doIt skip : St → Option β} (R : Rel n B S E L σ m w) (h : ykB all σ o.guard doIt skip = some r) :
  (∃ σ', Rel n B S E L σ' m w ∧ Region.wanted o (yielded all.toArray (fr n m).tmps) = true ∧ doIt σ' = some r) ∨ (∃ σ', Rel n B S E L σ' m w ∧ Region.wanted o (yielded all.toArray (fr n m).tmps) = false ∧ skip σ' = some r) := by
 unfold ykB at h
 split at h
 ·rename_i hg
  exact .inl ⟨σ, R, ztI hg, h⟩
 ·rename_i j b hg
  split at h
  ·rename_i d hd
   split at h
   ·rename_i t ht
    have hv : evO n m (.tmp d) = .bool t := vB (by have := R.sl d; rw [ht] at this; exact this)
    have hw := ycC (o := o) hg (ylQ (m := m) (n := n) hd hv)
    have Rt : ∀ q : Bool, t = q → Rel n B S E L (σ.put d (.v .b q)) m w := fun q hq => R.re (by rw [hv, hq]; exact bV q)
    cases t with
    | true =>
     cases b with
     | true => exact .inl ⟨_, Rt true rfl, hw, h⟩
     | false => exact .inr ⟨_, Rt true rfl, hw, h⟩
    | false =>
     cases b with
     | true => exact .inr ⟨_, Rt false rfl, hw, h⟩
     | false => exact .inl ⟨_, Rt false rfl, hw, h⟩
   ·rename_i ht
    have hv : evO n m (.tmp d) = undef := by have := R.sl d; rw [ht] at this; exact this
    exact .inr ⟨_, R, yhV hg (ylT (m := m) (n := n) hd hv), h⟩
   ·cases h
  ·cases h
theorem HS.shrink {S' : Mem} {w1 w' : World} {L1 A : List Res} (H : HS B S w1 L1) (hS : Mem.le S S') (H' : HS B S' w' A) : HS B S w' A := by
 refine ⟨H'.fr, fun b o hb => H'.sub b o (hS b o hb), H.keep, H'.own, fun k r b hk hb => ⟨(H'.old k r b hk hb).1, ?_⟩, H'.inj⟩
 cases h : S b with
 | none => rfl
 | some o => have := hS b o h; rw [(H'.old k r b hk hb).2] at this; cases this
theorem HS.toJ {L0 : List Res} {W : List Nat} (hfr : ∀ i, hasN W i = false → i < L0.length → lkR L i = lkR L0 i) (H : HS B S w L) : HS B S w (zuZ W 0 L0) :=
 HS.part H fun i r hi => by
  rw [zbF, zxG, Nat.zero_add] at hi
  cases hl : L0[i]? with
  | none => rw [hl] at hi; cases hi
  | some r' =>
   rw [hl] at hi
   simp only [Option.map_some, Option.some.injEq] at hi
   cases hh : hasN W i with
   | true => rw [hh] at hi; exact .inl hi.symm
   | false =>
    rw [hh] at hi
    right
    rw [hfr i hh (List.getElem?_eq_some_iff.1 hl).1, zbF, hl, ← hi]; rfl
def PnI (B : Bas) (S : Mem) (L : List Res) (Jp : Nat → World → Prop) (p : Nat × List Nat) : Prop :=
 ∃ S1 L1 w1, HS B S1 w1 L1 ∧ Mem.le S1 S ∧ L1.length ≤ L.length ∧ (∀ i, hasN p.2 i = false → i < L1.length → lkR L i = lkR L1 i) ∧ Jp p.1 = fun w => HS B S1 w (zuZ p.2 0 L1)
theorem PnI.j {Jp : Nat → World → Prop} {p : Nat × List Nat} (h : PnI B S L Jp p) {u : World} (hu : HS B S u L) : Jp p.1 u := by
 obtain ⟨S1, L1, w1, h1, h2, h3, h4, h5⟩ := h
 rw [h5]
 exact HS.shrink h1 h2 (HS.toJ h4 hu)
theorem PnI.next {Jp : Nat → World → Prop} {p : Nat × List Nat} {S' : Mem} {L' : List Res} (h : PnI B S L Jp p) (hS : Mem.le S S') (hl : L.length ≤ L'.length) (hf : ∀ i, hasN p.2 i = false → i < L.length → lkR L' i = lkR L i) : PnI B S' L' Jp p := by
 obtain ⟨S1, L1, w1, h1, h2, h3, h4, h5⟩ := h
 exact ⟨S1, L1, w1, h1, Mem.le_trans h2 hS, Nat.le_trans h3 hl, fun i hi hlt => by rw [hf i hi (by omega), h4 i hi hlt], h5⟩
theorem ykF {i : Nat} : ∀ {pn : List (Nat × List Nat)}, yvF i pn = true → ∀ p ∈ pn, p.1 ≠ i
 | [], _, p, hp => by cases hp
 | q :: l, h, p, hp => by
  unfold yvF at h
  rcases List.mem_cons.1 hp with rfl | hp
  ·intro e; have := zbD h; rw [e, Nat.beq_refl] at this; cases this
  ·exact ykF (zcN h) p hp
theorem ypW {ops : Array Oper} {i : Nat} {W : List Nat} : ∀ {pn : List (Nat × List Nat)}, pnOk ops i W pn = true → ∀ p ∈ pn, ancB ops i p.1 = false → allN p.2 W = true
 | [], _, p, hp, _ => by cases hp
 | q :: l, h, p, hp, ha => by
  unfold pnOk at h
  rcases List.mem_cons.1 hp with rfl | hp
  ·have := zbD h; rw [ha] at this; exact this
  ·exact ypW (zcN h) p hp ha
theorem ycY {ops : Array Oper} {i : Nat} : ∀ (pn : List (Nat × List Nat)), yiC ops i (pn.map (·.1)) = (zyQ ops i pn).map (·.1)
 | [] => rfl
 | q :: l => by
  have ih := ycY (ops := ops) (i := i) l
  unfold yiC zyQ at ih ⊢
  simp only [List.map_cons, List.filter_cons]
  cases ancB ops i q.1 <;> simp [ih]
theorem yuO {W V : List Nat} {i : Nat} (h : allN V W = true) (hi : hasN V i = false) : hasN W i = false := yjG hi h
theorem HS.kp {w1 : World} (H : HS B S w1 L) : ∀ k, (k ∈ zcX L ∨ S k ≠ none ∨ k < B.w0.heap.size) → k < w1.heap.size := fun k h => by
 rcases h with h | h | h
 ·obtain ⟨i, r, h1, h2⟩ := zeP.1 h
  exact H.res_lt h1 h2
 ·exact Nat.lt_of_not_le fun hle => h (H.sub.none hle)
 ·exact Nat.lt_of_lt_of_le h H.fr.size
theorem ELe.len {E E' : List EI} (h : ELe E E') {b : Nat} (hb : b ≤ E.length) : b ≤ E'.length := by
 cases b with
 | zero => exact Nat.zero_le _
 | succ b =>
  obtain ⟨a, h1, _⟩ := h b _ (List.getElem?_eq_getElem hb)
  exact (List.getElem?_eq_some_iff.1 h1).1
theorem ytL {Jp : Nat → World → Prop} {i : Nat} {J : World → Prop} : updJ Jp i J i = J := by unfold updJ; rw [if_pos rfl]
theorem yzD {Jp : Nat → World → Prop} {i j : Nat} {J : World → Prop} (h : j ≠ i) : updJ Jp i J j = Jp j := by unfold updJ; rw [if_neg h]
theorem PnI.upd {Jp : Nat → World → Prop} {p : Nat × List Nat} {i : Nat} {J : World → Prop} (h : PnI B S L Jp p) (hi : p.1 ≠ i) : PnI B S L (updJ Jp i J) p := by
 obtain ⟨S1, L1, w1, h1, h2, h3, h4, h5⟩ := h
 exact ⟨S1, L1, w1, h1, h2, h3, h4, by rw [yzD hi]; exact h5⟩
theorem zxA {all : List Oper} {S0 : Mem} {E0 : List EI} {m0 : FM} {D : List Nat} {k : St → Option β} {r : β} {Q : Exit → Act → World → Prop} (hτ : TEok P τ) (hΓ : CTok P Γ B) (hD : ∀ t, hasN (ztJ all) t = true → hasN D t = true)
  (hQ : ∀ σ' S' E' L' m' w', k σ' = some r → Mem.le S0 S' → ELe E0 E' → Agr D m0 m' → Rel n B S' E' L' σ' m' w' → Q .normal (fr n m') w') :
  ∀ (s : SchW) (pd : List (Nat × AO)) (pn : List (Nat × List Nat)) {σ : St} {S : Mem} {E : List EI} {L : List Res} {m : FM} {w : World} {Dsc : Nat → Value → Nat → Obj → Prop} {Jp : Nat → World → Prop}, Mem.le S0 S → ELe E0 E → Agr D m0 m → (∀ p ∈ pn, PnI B S L Jp p) → Rel n B S E L σ m w → (∀ i ao, lkP pd i = some ao → ∃ S1 E1, Mem.le S1 S ∧ ELe E1 E ∧ Dsc i = LateD S1 E1 ao) → schS n τ Γ all.toArray all s pd pn σ k = some r →
  wpS P all.toArray Q (ypB s) Dsc Jp (pn.map (·.1)) (fun w => HS B S w L) (fun b => b ∈ zcX L ∨ S b ≠ none ∨ b < B.w0.heap.size) (fr n m)
 | [], pd, pn, σ, S, E, L, m, w, Dsc, Jp, hS, hE, hA, hpn, R, hp, h => fun w1 hw => hQ _ _ _ _ _ _ h hS hE hA (R.to hw)
 | (.pu, i, W) :: s, pd, pn, σ, S, E, L, m, w, Dsc, Jp, hS, hE, hA, hpn, R, hp, h => by
  simp only [schS] at h
  split at h
  ·rename_i o ho
   obtain ⟨hnew, h⟩ := zaD h
   have hoi : all.toArray[i]? = some o := by rw [List.getElem?_toArray, ← zfM]; exact ho
   have hdd : ∀ t, o.dst = some t → hasN D t = true := fun t ht => hD t (zxU.2 ⟨o, List.mem_of_getElem? (by rw [← zfM]; exact ho), ht⟩)
   have hpn' : ∀ p ∈ (i, W) :: pn, PnI B S L (updJ Jp i fun w => HS B S w (zuZ W 0 L)) p := fun p hp => by
    rcases List.mem_cons.1 hp with rfl | hp
    ·exact ⟨S, L, w, R.hs, Mem.le_refl _, Nat.le_refl _, fun _ _ _ => rfl, ytL⟩
    ·exact (hpn p hp).upd (ykF hnew p hp)
   have hG : ∀ u, HS B S u L → HS B S u (zuZ W 0 L) := fun u hu => HS.toJ (fun _ _ _ => rfl) hu
   rcases ygK R h with ⟨σ', R', hw, h⟩ | ⟨σ', R', hw, h⟩
   ·obtain ⟨dst, op, ty, pos, aft, g⟩ := o
    obtain ⟨z, u, h1, h2, h3⟩ := yzO (dst := dst) (ty := ty) (pos := pos) (aft := aft) (g := g) hτ R' h
    obtain ⟨σ2, m2, h5, R2, h6, h7⟩ := zwY R' h2 h1
    refine ⟨_, u, fun w => HS B S w (zuZ W 0 L), hoi, .inl ⟨hw, fun w1 hw1 => by rw [zmZ]; exact h3 w1 hw1⟩, hG, ?_⟩
    show wpS P all.toArray Q (ypB s) Dsc _ _ _ _ ((fr n m).put dst u)
    rw [h6]
    exact zxA hτ hΓ hD hQ s pd ((i, W) :: pn) hS hE (hA.trans (h7 D hdd)) hpn' R2 hp h5
   ·obtain ⟨σ2, m2, h5, R2, h6, h7⟩ := zwY R' (v := undef) (x := .skp) rfl h
    refine ⟨o, undef, fun w => HS B S w (zuZ W 0 L), hoi, .inr ⟨hw, rfl⟩, hG, ?_⟩
    rw [h6]
    exact zxA hτ hΓ hD hQ s pd ((i, W) :: pn) hS hE (hA.trans (h7 D hdd)) hpn' R2 hp h5
  ·cases h
 | (.la, i, W) :: s, pd, pn, σ, S, E, L, m, w, Dsc, Jp, hS, hE, hA, hpn, R, hp, h => by
  simp only [schS] at h
  split at h
  ·rename_i o ho
   have hoi : all.toArray[i]? = some o := by rw [List.getElem?_toArray, ← zfM]; exact ho
   split at h
   ·rename_i ao hg hl
    refine ⟨o, LateD S E ao, hoi, ztI hg, fun w1 => ?_, ?_⟩
    ·obtain ⟨dst, op, ty, pos, aft, g⟩ := o
     rw [zmZ]
     exact ywC hτ R hl w1
    ·refine zxA hτ hΓ hD hQ s ((i, ao) :: pd) pn hS hE hA hpn R (fun j bo hj => ?_) h
     unfold lkP at hj
     unfold updD
     cases hij : Nat.beq i j with
     | true =>
      rw [hij] at hj; cases hj
      rw [if_pos (Nat.eq_of_beq_eq_true hij).symm]
      exact ⟨S, E, Mem.le_refl _, ELe.refl _, rfl⟩
     | false =>
      rw [hij] at hj
      rw [if_neg fun e => by rw [e, Nat.beq_refl] at hij; cases hij]
      exact hp j bo hj
   ·cases h
  ·cases h
 | (.rv, i, W) :: s, pd, pn, σ, S, E, L, m, w, Dsc, Jp, hS, hE, hA, hpn, R, hp, h => by
  simp only [schS] at h
  split at h
  ·rename_i o ao ho hpi
   have hoi : all.toArray[i]? = some o := by rw [List.getElem?_toArray, ← zfM]; exact ho
   have hdd : ∀ t, o.dst = some t → hasN D t = true := fun t ht => hD t (zxU.2 ⟨o, List.mem_of_getElem? (by rw [← zfM]; exact ho), ht⟩)
   obtain ⟨S1, E1, g1, g2, g3⟩ := hp i ao hpi
   refine ⟨o, hoi, fun v kk x hD1 hK ⟨w2, hw2, hx2⟩ => ?_⟩
   rw [g3] at hD1
   have hD1 := hD1.mono g1 g2
   have hk1 : kk ∉ zcX L := fun h => hK (.inl h)
   have hk2 : S kk = none := Classical.byContradiction fun h => hK (.inr (.inl h))
   have hk3 : B.w0.heap.size ≤ kk := Nat.le_of_not_lt fun h => hK (.inr (.inr h))
   obtain ⟨q, e, a1, a2, a3, a4⟩ := hD1.adopt R hk1 hk2 hk3
   have R2 := a3 w2 hw2 hx2
   obtain ⟨σ3, m3, h5, R3, h6, h7⟩ := zwY R2 a4 h
   have hpn' : ∀ p ∈ pn, PnI B S (L ++ [q]) Jp p := fun p hp => (hpn p hp).next (Mem.le_refl _) (by rw [List.length_append]; omega) fun j _ hj => zzO hj
   refine ⟨fun w => HS B S w (L ++ [q]), fun b => b ∈ zcX (L ++ [q]) ∨ S b ≠ none ∨ b < B.w0.heap.size, fun w1 h1 h2 => (a3 w1 h1 h2).hs, fun j hj w1 h1 => ?_, fun u u' h1 h2 => h1.ext h2, fun u h1 => HS.kp h1, fun b h1 => ?_, ?_⟩
   ·obtain ⟨p, hp1, rfl⟩ := List.mem_map.1 hj
    exact (hpn' p hp1).j h1
   ·rcases h1 with h1 | h1
    ·obtain ⟨t, q', t1, t2⟩ := zeP.1 h1
     rw [zbF] at t1
     by_cases ht : t < L.length
     ·rw [List.getElem?_append_left ht] at t1
      exact .inl (.inl (zeP.2 ⟨t, q', by rw [zbF]; exact t1, t2⟩))
     ·have : t = L.length := by
       have := (List.getElem?_eq_some_iff.1 t1).1
       simp at this; omega
      subst this
      simp at t1
      subst t1
      rw [a1] at t2; cases t2
      exact .inr rfl
    ·exact .inl (.inr h1)
   ·rw [h6]
    exact zxA hτ hΓ hD hQ s pd pn hS (hE.trans (ELe.push E _)) (hA.trans (h7 D hdd)) hpn' R3 (fun j bo hj => by
     obtain ⟨S2, E2, t1, t2, t3⟩ := hp j bo hj
     exact ⟨S2, E2, t1, t2.trans (ELe.push E _), t3⟩) h5
  ·cases h
 | (.mn, i, W) :: s, pd, pn, σ, S, E, L, m, w, Dsc, Jp, hS, hE, hA, hpn, R, hp, h => by
  simp only [schS] at h
  split at h
  ·rename_i o ho
   obtain ⟨hok, h⟩ := zaD h
   have hoi : all.toArray[i]? = some o := by rw [List.getElem?_toArray, ← zfM]; exact ho
   have hdd : ∀ t, o.dst = some t → hasN D t = true := fun t ht => hD t (zxU.2 ⟨o, List.mem_of_getElem? (by rw [← zfM]; exact ho), ht⟩)
   have hrest : ∀ p ∈ zyQ all.toArray i pn, p ∈ pn ∧ ancB all.toArray i p.1 = false := fun p hp => by
    have := List.mem_filter.1 hp
    exact ⟨this.1, by simpa using this.2⟩
   refine ⟨o, hoi, fun w1 hw1 => ?_⟩
   rw [ycY]
   rcases ygK (R.to hw1) h with ⟨σ', R', hw, h⟩ | ⟨σ', R', hw, h⟩
   ·left
    refine ⟨hw, ?_⟩
    obtain ⟨dst, op, ty, pos, aft, g⟩ := o
    rw [zmZ]
    have RL : Rel n ⟨S, zcX L, w1⟩ S E L σ' m w1 := ⟨HS.lend hw1, R'.lL, R'.lE, R'.obj, R'.sl⟩
    refine zhJ (xbM hτ (hΓ.lend hw1) RL h) ?_
    rintro v w' ⟨x, σ2, S', E', L', h1, h2, h3, R2, h4, h5⟩
    have Hh := HS.home hw1 R2.hs
    have RB : Rel n B S' E' L' σ2 m w' := ⟨Hh, R2.lL, R2.lE, R2.obj, R2.sl⟩
    obtain ⟨σ3, m3, h6, R3, h7, h8⟩ := zwY RB h4 h1
    have hlen : L.length ≤ L'.length := by
     rw [R2.lL, ← R2.lE, R.lL, ← R.lE]; exact ELe.len h3 (Nat.le_refl _)
    have hpn' : ∀ p ∈ zyQ all.toArray i pn, PnI B S' L' Jp p := fun p hp => by
     obtain ⟨t1, t2⟩ := hrest p hp
     exact (hpn p t1).next h2 hlen fun j hj hlt => h5 j (yuO (ypW hok p t1 t2) hj) hlt
    refine ⟨fun u => HS B S' u L', fun b => b ∈ zcX L' ∨ S' b ≠ none ∨ b < B.w0.heap.size, fun j hj u hu => ?_, fun u u' t1 t2 => t1.ext t2, fun u t1 => HS.kp t1, Hh, fun b t1 => ?_, fun b t1 t2 => R2.hs.fr.block b t1 fun t3 => t2 (.inl t3), ?_⟩
    ·obtain ⟨p, hp1, rfl⟩ := List.mem_map.1 hj
     exact (hpn' p hp1).j hu
    ·rcases t1 with t1 | t1 | t1
     ·obtain ⟨t, q', t2, t3⟩ := zeP.1 t1
      rcases (R2.hs.old t q' b t2 t3).1 with t4 | t4
      ·exact .inr t4
      ·exact .inl (.inl t4)
     ·by_cases hlt : b < w1.heap.size
      ·by_cases hX : b ∈ zcX L
       ·exact .inl (.inl hX)
       ·have := R2.hs.keep b hlt hX
        rw [this] at t1
        exact .inl (.inr (.inl t1))
      ·exact .inr (Nat.le_of_not_lt hlt)
     ·exact .inl (.inr (.inr t1))
    ·show wpS P all.toArray Q (ypB s) Dsc _ _ _ _ ((fr n m).put dst v)
     rw [h7]
     exact zxA hτ hΓ hD hQ s pd (zyQ all.toArray i pn) (Mem.le_trans hS h2) (hE.trans h3) (hA.trans (h8 D hdd)) hpn' R3 (fun j bo hj => by
      obtain ⟨S2, E2, t1, t2, t3⟩ := hp j bo hj
      exact ⟨S2, E2, Mem.le_trans t1 h2, t2.trans h3, t3⟩) h6
   ·right
    refine ⟨hw, ?_⟩
    obtain ⟨σ2, m2, h5, R2, h6, h7⟩ := zwY R' (v := undef) (x := .skp) rfl h
    rw [h6]
    exact zxA hτ hΓ hD hQ s pd (zyQ all.toArray i pn) hS hE (hA.trans (h7 D hdd)) (fun p hp => hpn p (hrest p hp).1) R2 hp h5
  ·cases h
theorem ytP {l : List Oper} {k : St → Option β} {r : β} {Q : Exit → Act → World → Prop} {s : SchW} (hτ : TEok P τ) (hΓ : CTok P Γ B) (R : Rel n B S E L σ m w) (h : yoR n τ Γ s l.toArray σ k = some r)
  (hQ : ∀ σ' S' E' L' m' w', k σ' = some r → Mem.le S S' → ELe E E' → Agr (ztJ l) m m' → Rel n B S' E' L' σ' m' w' → Q .normal (fr n m') w') : RegAny P l Q (fr n m) w := by
 unfold yoR at h
 obtain ⟨hb, h⟩ := zaD h
 have hw := zxA (Q := OnlyNormal Q) (S0 := S) (E0 := E) (m0 := m) (D := ztJ l) (Dsc := fun _ _ _ _ => False) (Jp := fun _ _ => True) hτ hΓ (fun _ h => h) (fun σ' S' E' L' m' w' k1 k2 k3 k4 R1 => yeX (hQ σ' S' E' L' m' w' k1 k2 k3 k4 R1)) s [] [] (Mem.le_refl _) (ELe.refl _) (Agr.refl _ _) (fun p hp => by cases hp) R (fun i ao hi => by cases hi) h
 exact ytC (zbD hb) (zcN hb) hw R.hs.drew (fun u u' h1 h2 => h1.ext h2) (fun u hu => HS.kp hu)
theorem ytR {id : Nat} {l : List Oper} {w : World} {k : St → Option β} {r : β} {Q : Exit → Act → World → Prop} (hm : P.follows .mixedOrders = true) (hτ : TEok P τ) (hΓ : CTok P Γ B) (R : Rel n B S E L σ m w) {η : HT} (h : yrC n τ Γ η id l.toArray σ k = some r)
  (hQ : ∀ σ' S' E' L' m' w', k σ' = some r → Mem.le S S' → ELe E E' → Agr (ztJ l) m m' → Rel n B S' E' L' σ' m' w' → Q .normal (fr n m') w') : (Code.region id l.toArray true).wp P Q (fr n m) w := by
 refine RegAny.wp hm ?_
 unfold yrC at h
 split at h
 ·exact ytP hτ hΓ R h hQ
 ·cases h
end
section
variable {β : Type} {τ : TE} {Γ : CT} {η : HT} {N0 n : Nat} {P : Program} {B : Bas} {S : Mem} {E : List EI} {L : List Res} {σ : St} {m : FM} {w : World} {ops : Array Oper} {Q : Exit → Act → World → Prop} {rest : List Oper} {o : Oper}
def exQ : Ex → Exit
 | .normal => .normal
 | .exit i => .exit i
 | .ret => .ret
theorem zvP {α γ : Type} {f : α → γ} {o : Option α} {y : γ} (h : mapO f o = some y) : ∃ x, o = some x ∧ f x = y := by
 cases o with
 | none => cases h
 | some x => cases h; exact ⟨x, rfl, rfl⟩
theorem yqD {a : Option Nat} {e : Ex} (h : isEx a e = true) : exOf a = e := by
 cases a with
 | none => cases e <;> first | rfl | cases h
 | some n =>
  cases e with
  | normal => cases h
  | exit i =>
   have h1 := Nat.eq_of_beq_eq_true (zbD h); subst h1
   have h2 := zcN h
   cases hb : Nat.beq n 1000000 with
   | true => rw [hb] at h2; cases h2
   | false => simp only [exOf, hb, cond_false]
  | ret => simp only [exOf, show Nat.beq n 1000000 = true from h, cond_true]
theorem Agr.ev {D : List Nat} {m m' : FM} (h : Agr D m m') {t : Nat} (ht : hasN D t = false) : evO n m' (.tmp t) = evO n m (.tmp t) := by
 show (bif Nat.blt t n then look m' t else undef) = (bif Nat.blt t n then look m t else undef)
 rw [h t ht]
theorem zvL {S' : Mem} {E' : List EI} {m' : FM} {D : List Nat} (R : Rel n B S E L σ m w) (hS : Mem.le S S') (hA : Agr D m m') : ∀ (kp : List Nat) (t : Nat), VR S' E' (lkS (zvY D σ kp) t) (evO n m' (.tmp t))
 | [], _ => trivial
 | d :: kp, t => by
  unfold zvY
  cases hb : !(hasN D d) && ylY (lkS σ.sl d) with
  | false => exact zvL R hS hA kp t
  | true =>
   simp only [cond_true, lkS]
   cases hd : Nat.beq d t with
   | false => exact zvL R hS hA kp t
   | true =>
    have := Nat.eq_of_beq_eq_true hd; subst this
    have h1 := zbD hb
    have h2 : hasN D d = false := by cases hh : hasN D d with
     | true => rw [hh] at h1; cases h1
     | false => rfl
    rw [hA.ev h2]
    exact ykG (zcN hb) (R.sl d) hS
theorem ypZ : ∀ (a b : List (Nat × SV)) (t : Nat), lkS (a ++ b) t = lkS a t ∨ lkS (a ++ b) t = lkS b t
 | [], _, _ => .inr rfl
 | (d, x) :: a, b, t => by
  simp only [List.cons_append, lkS]
  cases Nat.beq d t with
  | true => exact .inl rfl
  | false => exact ypZ a b t
theorem RelV.app {V : Nat → Value} (R : RelV B S E L σ V w) {l : List (Nat × SV)} (h : ∀ t, VR S E (lkS l t) (V t)) : RelV B S E L (σ.app l) V w :=
 ⟨R.hs, R.lL, R.lE, R.obj, fun t => by
  show VR S E (lkS (σ.sl ++ l) t) _
  rcases ypZ σ.sl l t with e | e
  ·rw [e]; exact R.sl t
  ·rw [e]; exact h t⟩
theorem ycV (o : OSh) (os : List OSh) (l : List SV) : ∃ a l', ziT (o :: os) l = a :: ziT os l' ∧ ∀ ver e T (xs : List (den e)), a = .osl ver e T xs → ver = 0 := by
 cases o with
 | blk T s => exact ⟨_, _, rfl, fun _ _ _ _ h => by cases h⟩
 | dead => exact ⟨_, l, rfl, fun _ _ _ _ h => by cases h⟩
 | osl e T =>
  cases l with
  | nil => exact ⟨_, [], rfl, fun _ _ _ _ h => by cases h⟩
  | cons x l =>
   cases x with
   | v t y =>
    cases t with
    | sl e' => exact ⟨_, l, rfl, fun ver e T xs h => by split at h <;> first | (cases h; done) | (cases h; rfl)⟩
    | _ => exact ⟨_, _, rfl, fun _ _ _ _ h => by cases h⟩
   | _ => exact ⟨_, _, rfl, fun _ _ _ _ h => by cases h⟩
 | mp kp K V =>
  cases l with
  | nil => exact ⟨_, [], rfl, fun _ _ _ _ h => by cases h⟩
  | cons x l =>
   cases x with
   | v t y =>
    cases t with
    | mp a c => exact ⟨_, l, rfl, fun ver e T xs h => by split at h <;> cases h⟩
    | _ => exact ⟨_, _, rfl, fun _ _ _ _ h => by cases h⟩
   | _ => exact ⟨_, _, rfl, fun _ _ _ _ h => by cases h⟩
 | is =>
  cases l with
  | nil => exact ⟨_, [], rfl, fun _ _ _ _ h => by cases h⟩
  | cons x l =>
   cases x with
   | v t y =>
    cases t with
    | s =>
     cases l with
     | nil => exact ⟨_, _, rfl, fun _ _ _ _ h => by cases h⟩
     | cons x2 l =>
      cases x2 with
      | v t2 y2 =>
       cases t2 with
       | i k => cases k <;> exact ⟨_, _, rfl, fun _ _ _ _ h => by cases h⟩
       | _ => exact ⟨_, _, rfl, fun _ _ _ _ h => by cases h⟩
      | _ => exact ⟨_, _, rfl, fun _ _ _ _ h => by cases h⟩
    | _ => exact ⟨_, _, rfl, fun _ _ _ _ h => by cases h⟩
   | _ => exact ⟨_, _, rfl, fun _ _ _ _ h => by cases h⟩
 | it j kp K =>
  cases l with
  | nil => exact ⟨_, [], rfl, fun _ _ _ _ h => by cases h⟩
  | cons x l =>
   cases x with
   | v t y =>
    cases t with
    | sl a => exact ⟨_, l, rfl, fun ver e T xs h => by split at h <;> cases h⟩
    | _ => exact ⟨_, _, rfl, fun _ _ _ _ h => by cases h⟩
   | _ => exact ⟨_, _, rfl, fun _ _ _ _ h => by cases h⟩
theorem ygT : ∀ (os : List OSh) (l : List SV), (ziT os l).length = os.length
 | [], l => by cases l <;> rfl
 | o :: os, l => by
  obtain ⟨a, l', h, _⟩ := ycV o os l
  rw [h, List.length_cons, List.length_cons, ygT os]
theorem yhQ : ∀ (os : List OSh) (l : List SV), Ver0 (ziT os l)
 | [], l => fun i ver e T xs h => by cases l <;> (simp [ziT] at h)
 | o :: os, l => by
  obtain ⟨a, l', h, ha⟩ := ycV o os l
  rw [h]
  intro i ver e T xs h
  cases i with
  | zero => simp at h; exact ha _ _ _ _ h
  | succ i => exact yhQ os l' i ver e T xs (by simpa using h)
theorem get_put {s : Shp} {x : zfQ s.tys} (h : s.get N0 σ = some x) : Ver0 (s.put x).hp ∧ N0 ≤ (s.put x).hp.length := by
 refine ⟨yhQ _ _, ?_⟩
 unfold Shp.get at h
 obtain ⟨h1, _⟩ := zaD h
 show N0 ≤ (ziT s.hp _).length
 rw [ygT]
 exact Nat.le_of_ble_eq_true (zbD h1)
theorem zyC {V : Nat → Value} (R : RelV B S E L σ V w) {e : Ex} {kp : List (Nat × SV)} (hk : ∀ S' E', Mem.le S S' → ∀ t, VR S' E' (lkS kp t) (V t)) : ∀ {outs : List (Option Nat × Shp)} {d : DS outs}, inj N0 outs e σ = some d → ∃ S' E' L' σ', Mem.le S S' ∧ Pin N0 E E' ∧ RelV B S' E' L' σ' V w ∧ Ver0 σ'.hp ∧ N0 ≤ σ'.hp.length ∧ ∀ {γ : Type} (k : Ex → St → Option γ), out kp outs d k = k e σ'
 | [], _, h => by cases h
 | [a], d, h => by
  obtain ⟨h1, h2⟩ := zaD h
  obtain ⟨S', E', L', hS, hP, R'⟩ := ydL R (fun l => zpU l R) h2
  obtain ⟨h3, h4⟩ := get_put h2
  refine ⟨S', E', L', _, hS, hP, R'.app (hk S' E' hS), h3, h4, fun k => ?_⟩
  show k (exOf a.1) _ = _; rw [yqD h1]
 | a :: b :: l, d, h => by
  have next : mapO Sum.inr (inj N0 (b :: l) e σ) = some d → ∃ S' E' L' σ', Mem.le S S' ∧ Pin N0 E E' ∧ RelV B S' E' L' σ' V w ∧ Ver0 σ'.hp ∧ N0 ≤ σ'.hp.length ∧ ∀ {γ : Type} (k : Ex → St → Option γ), out kp (a :: b :: l) d k = k e σ' := fun h => by
   obtain ⟨x, h1, rfl⟩ := zvP h
   exact zyC R hk (outs := b :: l) h1
  simp only [inj] at h
  cases hb : isEx a.1 e with
  | true =>
   rw [hb] at h
   simp only [cond_true] at h
   split at h
   ·rename_i x h1
    cases h
    obtain ⟨S', E', L', hS, hP, R'⟩ := ydL R (fun l => zpU l R) h1
    obtain ⟨h3, h4⟩ := get_put h1
    refine ⟨S', E', L', _, hS, hP, R'.app (hk S' E' hS), h3, h4, fun k => ?_⟩
    show k (exOf a.1) _ = _; rw [yqD hb]
   ·exact next h
  | false =>
   rw [hb] at h
   exact next h
theorem HS.nil (H : HS B S w L) (sz : Nat) (T : TypeId) : HS B S w (.osl (.slice none 0 0) 0 sz [] [] T :: L) := by
 refine ⟨H.fr, H.sub, H.keep, fun i q h => ?_, fun i q b h hb => ?_, fun i j q s b hi hj hq hs => ?_⟩
 ·cases i with
  | zero => cases h; exact .inl ⟨rfl, rfl, rfl, rfl⟩
  | succ i => exact H.own _ q h
 ·cases i with
  | zero => cases h; cases hb
  | succ i => exact H.old _ q b h hb
 ·cases i with
  | zero => cases hi; cases hq
  | succ i =>
   cases j with
   | zero => cases hj; cases hs
   | succ j => rw [H.inj i j q s b hi hj hq hs]
theorem nl_ok {c : SV} {u : Value} (hc : isNl c = true) (hx : VR S E c u) : Same S (.slice none 0 0) u 0 ∧ u.oneCell' = true := by
 cases c with
 | nils => have hx : u = .slice none 0 0 := hx; subst hx; exact ⟨.inl rfl, rfl⟩
 | emp => have hx : VB S E .emp u := hx; obtain ⟨h1, a, rfl⟩ := hx; exact ⟨.inr ⟨rfl, rfl, h1, a, rfl⟩, rfl⟩
 | _ => cases hc
theorem yxA (R : Rel n B S E L σ m w) {c : SV} {u : Value} (hc : isNl c = true) (hx : VR S E c u) (e : Ty) (T : TypeId) : Rel n B S (E ++ [.osl 0 u (tsz e)]) (L ++ [.osl (.slice none 0 0) 0 (tsz e) [] [] T]) ⟨σ.sl, σ.hp ++ [.osl 0 e T []]⟩ m w ∧ VC S (E ++ [.osl 0 u (tsz e)]) (.own σ.hp.length 0) u := by
 obtain ⟨h1, h2⟩ := nl_ok hc hx
 refine ⟨R.snoc (HS.nil R.hs _ _) ⟨.slice none 0 0, u, [], [], rfl, rfl, rfl, h1⟩, h2, .osl 0 u (tsz e), by rw [← R.lE]; simp, fun r v s he => ?_⟩
 cases he; exact ⟨Nat.le_refl 0, fun _ => rfl⟩
theorem mk1_ok (R : Rel n B S E L σ m w) (x : Mk) : ∃ S' E' L', Mem.le S S' ∧ ELe E E' ∧ Rel n B S' E' L' (mk1 σ x) m w := by
 have same : ∃ S' E' L', Mem.le S S' ∧ ELe E E' ∧ Rel n B S' E' L' σ m w := ⟨S, E, L, Mem.le_refl _, ELe.refl _, R⟩
 cases x with
 | sl d e T =>
  simp only [mk1]
  cases hn : isNl (lkS σ.sl d) with
  | false => exact same
  | true =>
   obtain ⟨R1, h1⟩ := yxA R hn (R.sl d) e T
   exact ⟨S, _, _, Mem.le_refl _, ELe.push E _, R1.re (d := d) (VR.ofC h1)⟩
 | cell d i e T =>
  simp only [mk1]
  split
  ·split
   ·rename_i id off hp _ T' cs hc
    split
    ·rename_i c hi
     cases hn : isNl c with
     | false => exact same
     | true =>
      obtain ⟨r0, e0, h1, h2, b, us, rfl, rfl, h3⟩ := R.objN hc
      obtain ⟨u, h4, h5⟩ := h3.at hi
      obtain ⟨R1, h6⟩ := yxA R hn (VR.ofC h5) e T
      have hlt : id < σ.hp.length := by rw [← R.lE]; exact (List.getElem?_eq_some_iff.1 h2).1
      have h2' : (E ++ [EI.osl 0 u (tsz e)])[id]? = some (.blk b) := by rw [List.getElem?_append_left (by rw [R.lE]; exact hlt)]; exact h2
      have h1' : lkR (L ++ [Res.osl (.slice none 0 0) 0 (tsz e) [] [] T]) id = some (.blk b us T') := by
       rw [zbF, List.getElem?_append_left (by rw [R.lL]; exact hlt), ← zbF]; exact h1
      have hst : stR (L ++ [Res.osl (.slice none 0 0) 0 (tsz e) [] [] T]) id (.blk b us T') = L ++ [Res.osl (.slice none 0 0) 0 (tsz e) [] [] T] := by
       rw [zuG]
       apply List.ext_getElem?
       intro j
       by_cases hj : id = j
       ·subst hj
        rw [zbF] at h1'
        rw [List.getElem?_set_self (List.getElem?_eq_some_iff.1 h1').1, h1']
       ·rw [List.getElem?_set_ne hj]
      have h7 : A2 (VC S (E ++ [EI.osl 0 u (tsz e)])) (setN cs i (.own σ.hp.length 0)) us := by
       have h8 : A2 (VC S (E ++ [EI.osl 0 u (tsz e)])) cs us := h3.imp fun _ _ h => h.mono (Mem.le_refl S) (ELe.push E _)
       have h9 := A2.set (a := SV.own σ.hp.length 0) h6 i h8
       have h10 : us.set i u = us := by
        apply List.ext_getElem?
        intro j
        by_cases hj : i = j
        ·subst hj; rw [List.getElem?_set_self (List.getElem?_eq_some_iff.1 h4).1, h4]
        ·rw [List.getElem?_set_ne hj]
       rw [zsB]
       rw [h10] at h9; exact h9
      exact ⟨S, _, _, Mem.le_refl _, ELe.push E _, R1.upd1 (r' := .blk b us T') h2' (by rw [hst]; exact R1.hs) ⟨b, us, rfl, rfl, h7⟩⟩
    ·exact same
   ·exact same
  ·exact same
theorem zxV : ∀ (l : List Mk) {σ : St} {S : Mem} {E : List EI} {L : List Res} (_ : Rel n B S E L σ m w), ∃ S' E' L', Mem.le S S' ∧ ELe E E' ∧ Rel n B S' E' L' (zwC σ l) m w
 | [], _, S, E, L, R => ⟨S, E, L, Mem.le_refl _, ELe.refl _, R⟩
 | x :: l, _, _, _, _, R => by
  obtain ⟨S1, E1, L1, h1, h2, R1⟩ := mk1_ok R x
  obtain ⟨S2, E2, L2, h3, h4, R2⟩ := zxV l R1
  exact ⟨S2, E2, L2, Mem.le_trans h1 h3, h2.trans h4, R2⟩
theorem ytF {a b : Bs} (h : str a = str b) : a = b := by
 have h : Value.string ⟨a.toArray⟩ = .string ⟨b.toArray⟩ := h
 injection h with h; injection h with h; injection h
theorem yrU : ∀ {K : Ty}, kOk K = true → ∀ {a b : den K}, kv K a = kv K b → a = b
 | .i k, _, a, b, h => by
  have h : Value.int k (toI k a) = .int k (toI k b) := h
  injection h with _ h; exact yiT h
 | .s, _, a, b, h => by
  have h : str a = str b := h
  exact ytF h
theorem A2.at_r {α γ : Type} {R : α → γ → Prop} : ∀ {l : List α} {m : List γ} {i : Nat} {b : γ}, A2 R l m → m[i]? = some b → ∃ a, l[i]? = some a ∧ R a b
 | _, _, _, _, .nil, h => by simp at h
 | _, _, 0, _, .cons a _, h => by simp at h; subst h; exact ⟨_, rfl, a⟩
 | _, _, i + 1, _, .cons _ t, h => by obtain ⟨a, h1, h2⟩ := A2.at_r (i := i) t (by simpa using h); exact ⟨a, by simpa using h1, h2⟩
theorem ypT {K V : Ty} (hK : kOk K = true) {es : List (den K × den V)} {ents : List MapEntry} (hM : MR S K V es ents) {a c : MapEntry} (ha : a ∈ ents) (hc : c ∈ ents) : a.key = c.key ↔ a.born = c.born := by
 obtain ⟨l, hl, hA⟩ := hM.perm
 have hne : l.Pairwise fun p q => keq K p.1 q.1 = false := (hl.pairwise_iff fun h => zyF hK h).2 hM.ne
 obtain ⟨i, hi, rfl⟩ := List.mem_iff_getElem.1 ha
 obtain ⟨j, hj, rfl⟩ := List.mem_iff_getElem.1 hc
 have hlen := hA.len
 constructor
 ·intro h
  by_cases hij : i = j
  ·subst hij; rfl
  ·exfalso
   obtain ⟨p, hp, hp2⟩ := A2.at_r hA (List.getElem?_eq_getElem hi)
   obtain ⟨q, hq, hq2⟩ := A2.at_r hA (List.getElem?_eq_getElem hj)
   have h2 : p.1 = q.1 := yrU hK (by rw [← zzE hK hp2.1, ← zzE hK hq2.1, h])
   have h3 : ∀ {i j : Nat} {p q : den K × den V}, i < j → l[i]? = some p → l[j]? = some q → p.1 = q.1 → False := fun {i j p q} hij hp hq h2 => by
    obtain ⟨h4, rfl⟩ := List.getElem?_eq_some_iff.1 hp
    obtain ⟨h5, rfl⟩ := List.getElem?_eq_some_iff.1 hq
    have := List.pairwise_iff_getElem.1 hne i j h4 h5 hij
    rw [h2] at this
    rw [(zmP hK).2 rfl] at this; cases this
   rcases Nat.lt_or_gt_of_ne hij with h4 | h4
   ·exact h3 h4 hp hq h2
   ·exact h3 h4 hq hp h2.symm
 ·intro h
  by_cases hij : i = j
  ·subst hij; rfl
  ·exfalso
   have h4 : ∀ {i j : Nat} (hi : i < ents.length) (hj : j < ents.length), i < j → ents[i].born = ents[j].born → False := fun {i j} hi hj hij h => by
    have := List.pairwise_iff_getElem.1 hM.nd i j (by simpa using hi) (by simpa using hj) hij
    simp only [List.getElem_map] at this
    exact this h
   rcases Nat.lt_or_gt_of_ne hij with h5 | h5
   ·exact h4 hi hj h5 h
   ·exact h4 hj hi h5 h.symm
theorem ypR {S R : Type} {f : S → List (Option (S ⊕ R))} {s : S} {r : R} (h : rngA f s = some r) : ∃ n, Rng f n s r := by
 unfold rngA at h
 split at h
 ·rename_i hh; cases h; exact hh.choose_spec
 ·cases h
theorem yuQ {α γ : Type} {l : List α} {d : γ} {f : α → γ} {p : α} (h : p ∈ l) : f p ∈ rngL l d f := by
 cases l with
 | nil => cases h
 | cons x l => exact List.mem_map.2 ⟨p, h, rfl⟩
theorem xaA {γ : Type} {d t : Nat} {g0 : St → Option γ} {Z : Option γ → Prop} (R : Rel n B S E L σ m w) (hZ : ¬ Z none) (hz : ∀ o ∈ ywG n σ d t g0, Z o) {ty : TypeId} {pos : String} {aft : Array Edge} :
  outcome P (fun v w' => ∃ σ' L', Z (g0 σ') ∧ Rel n B S E L' σ' ((d, v) :: m) w') ((execOp (evO n m) ⟨some d, .next (.tmp t) false, ty, pos, aft, none⟩).run P w) := by
 have bad : ∀ {X : Prop}, (∀ o, o ∈ [(none : Option γ)] → Z o) → X := fun h => absurd (h none List.mem_cons_self) hZ
 unfold ywG at hz
 split at hz
 ·rename_i i ht
  split at hz
  ·rename_i mid gn K cur left hi
   split at hz
   ·rename_i g' K' V es hm
    split at hz
    ·rename_i hK _
     subst hK
     cases hb : Nat.beq gn g' && Nat.blt d n with
     | false => rw [hb] at hz; exact bad hz
     | true =>
      rw [hb] at hz
      simp only [cond_true, zmG] at hz
      have hd : Nat.blt d n = true := zcN hb
      have hg := Nat.eq_of_beq_eq_true (zbD hb); subst hg
      obtain ⟨r0, e0, k1, k2, b, mb, ck, seen, rfl, rfl, hK, e1, k3, k4⟩ := R.objN hi
      obtain ⟨r1, e2, k5, k6, b2, ents, ck2, rfl, rfl, hM, hlt⟩ := R.objN hm
      rw [k6] at k3; cases k3
      obtain ⟨_, k7⟩ := k4 _ _ _ _ rfl
      obtain ⟨rfl, rfl, k8⟩ := k7 rfl
      obtain ⟨l, hl, hA⟩ := hM.perm
      have hv := R.sl t
      rw [ht] at hv
      obtain ⟨b3, hv, e3, q1, q2⟩ := hv
      rw [k2] at q1; cases q1
      have := q2 _ rfl; subst this
      have hh : w.heap[b]? = some (.mapIter (some b2) ck2 seen ck2) := R.hs.own i _ k1
      have hh2 : w.heap[b2]? = some (.map ents.toArray ck2) := R.hs.own mid _ k5
      have exec : ∀ {u w'}, (Instr.next (.pointer (some ⟨b, 0, none⟩)) false ty).run P w = .ok u w' → (execOp (evO n m) ⟨some d, .next (.tmp t) false, ty, pos, aft, none⟩).run P w = .ok (.value u) w' := fun {u w'} h => by
       have hv : evO n m (.tmp t) = .pointer (some ⟨b, 0, none⟩) := hv
       simp [execOp, hv, h, Result.andThen]
      rcases run_next_at (P := P) w ty b b2 ck2 ck2 seen ents.toArray ck2 hh hh2 (by simpa using hlt) (Nat.le_refl _) with ⟨h0, hrun⟩ | ⟨en, hen, w1, hw1, hrun⟩
      ·rw [exec hrun]
       have hnil : rngC (keq K) es left = [] := by
        rw [rngC, List.filter_eq_nil_iff]
        intro p hp hany
        obtain ⟨k, hk, hke⟩ := List.any_eq_true.1 hany
        obtain ⟨en, hen, h1⟩ := A2.mem_l hA p (hl.mem_iff.2 hp)
        have h2 : en.born ∉ seen := fun h => ((k8 en hen).1.1 h) k hk (by rw [zzE hK h1.1, (zmP hK).1 hke])
        have : en ∈ (leftOf ents.toArray seen) := by simp [leftOf, hen, h2]
        have h3 := Array.size_pos_of_mem this
        omega
       rw [hnil] at hz
       exact ⟨_, _, hz _ List.mem_cons_self, R.put (x := .tup [.v .b false]) ⟨[.bool false], rfl, .cons (show rep .b S [.bool false] false from rfl) .nil⟩ hd⟩
      ·rw [exec hrun]
       have hen' : en ∈ ents ∧ en.born ∉ seen := by simpa [leftOf] using hen
       obtain ⟨p, hp, hpe⟩ := A2.mem_r hA en hen'.1
       have hkey := zzE hK hpe.1
       have hex : ∃ k ∈ left, en.key = kv K k := by
        refine Classical.byContradiction fun hno => hen'.2 ((k8 en hen'.1).1.2 fun k hk h => hno ⟨k, hk, h⟩)
       obtain ⟨k, hk, hkk⟩ := hex
       have hpk : p.1 = k := yrU hK (hkey.symm.trans hkk)
       have hpm : p ∈ rngC (keq K) es left := by
        rw [rngC, List.mem_filter]
        exact ⟨hl.mem_iff.1 hp, List.any_eq_true.2 ⟨k, hk, (zmP hK).2 hpk⟩⟩
       have h1 := hz _ (yuQ (d := g0 (σ.put d (.tup [.v .b false]))) (f := fun p => g0 ⟨(d, .tup [.v .b true, svOf K p.1, svOf V p.2]) :: σ.sl, setN σ.hp i (.it mid gn K (some p.1) (rngD (keq K) left p.1))⟩) hpm)
       have H1 : HS B S w1 L := by
        rcases hw1 with rfl | rfl
        ·exact R.hs
        ·exact R.hs.drew
       have hh1 : w1.heap = w.heap := by rcases hw1 with rfl | rfl <;> rfl
       have hlt1 : b < w1.heap.size := by rw [hh1]; exact lt_of_heap hh
       have H2 : HS B S (Go.ChangeMaps.setBlock w1 b (.mapIter (some b2) ck2 (seen.push en.born) ck2)) (stR L i (.obj b (.mapIter (some b2) ck2 (seen.push en.born) ck2))) := by
        refine H1.upd k1 (by simp [Go.ChangeMaps.setBlock]) rfl rfl rfl (fun j hj hne => ?_) ?_ fun b' hb' => .inl hb'
        ·have : j ≠ b := fun e => hne (by rw [e]; rfl)
         simp [Go.ChangeMaps.setBlock, Array.getElem?_setIfInBounds, Ne.symm this]
        ·show ((Go.ChangeMaps.setBlock w1 b _).heap)[b]? = _
         simp [Go.ChangeMaps.setBlock, Array.getElem?_setIfInBounds, hlt1]
       have hA1 := hA
       have R1 := R.upd1 (o' := .it mid gn K (some p.1) (rngD (keq K) left p.1)) k2 H2 ⟨b, b2, ck2, seen.push en.born, rfl, rfl, hK, _, k6, fun g2 b4 c2 es2 he => by
        cases he
        refine ⟨Nat.le_refl _, fun _ => ⟨rfl, rfl, fun e4 he4 => ⟨?_, fun c hc => ?_⟩⟩⟩
        ·have hkb : e4.key = en.key ↔ e4.born = en.born := ypT hK hM he4 hen'.1
         rw [Array.mem_push, (k8 e4 he4).1]
         constructor
         ·rintro (h | h) k' hk'
          ·exact h k' (List.mem_filter.1 hk').1
          ·rw [hkb.2 h, hkey]
           intro h5
           have := (List.mem_filter.1 hk').2
           rw [(zmP hK).2 (yrU hK h5).symm] at this; cases this
         ·intro h
          by_cases h5 : e4.born = en.born
          ·exact .inr h5
          ·refine .inl fun k' hk' h6 => h k' (List.mem_filter.2 ⟨hk', ?_⟩) h6
           rw [Bool.not_eq_true', zsV hK]
           intro h7
           exact h5 (hkb.1 (by rw [h6, h7, hkey]))
        ·cases hc
         rw [← hkey, Array.back?_push]
         exact (ypT hK hM he4 hen'.1).trans ⟨fun h => by rw [h], fun h => (osi h).symm⟩⟩
       refine ⟨_, _, h1, R1.put (x := .tup [.v .b true, svOf K p.1, svOf V p.2]) ⟨[.bool true, en.key, en.val], rfl, .cons (show rep .b S [.bool true] true from rfl) (.cons (zsI hpe.1) (.cons (zsI hpe.2) .nil))⟩ hd⟩
    ·exact bad hz
   ·exact bad hz
  ·exact bad hz
 ·exact bad hz
def Good (P : Program) (N0 n : Nat) (B : Bas) (c : Code) {β : Type} (rn : (Ex → St → Option β) → Option β) (S : Mem) (E : List EI) (m : FM) (w : World) : Prop :=
 ∀ (k : Ex → St → Option β) (r : β) (Q : Exit → Act → World → Prop), rn k = some r → (∀ e σ' S' E' L' m' w', k e σ' = some r → Mem.le S S' → Pin N0 E E' → Agr (znO c) m m' → Rel n B S' E' L' σ' m' w' → Q (exQ e) (fr n m') w') → c.wp P Q (fr n m) w
theorem zrQ {α γ : Type} {o : Option α} {f : α → Option γ} {r : γ} (h : Option.bind o f = some r) : ∃ x, o = some x ∧ f x = some r := bnd h
theorem zuH (hm : P.follows .mixedOrders = true) (hτ : TEok P τ) (hΓ : CTok P Γ B) : ∀ (c : Code) {β : Type} {σ : St} {S : Mem} {E : List EI} {L : List Res} {m : FM} {w : World}, Rel n B S E L σ m w → Good P N0 n B c (β := β) (run N0 n τ Γ η c σ) S E m w
 | .skip, _, σ, S, E, L, m, w, R, k, r, Q, h, hQ => wp_skip (hQ .normal _ _ _ _ _ _ h (Mem.le_refl _) (Pin.refl _ _) (Agr.refl _ _) R)
 | .exit id, _, σ, S, E, L, m, w, R, k, r, Q, h, hQ => wp_exit (hQ (.exit id) _ _ _ _ _ _ h (Mem.le_refl _) (Pin.refl _ _) (Agr.refl _ _) R)
 | .ret, _, σ, S, E, L, m, w, R, k, r, Q, h, hQ => wp_ret (hQ .ret _ _ _ _ _ _ h (Mem.le_refl _) (Pin.refl _ _) (Agr.refl _ _) R)
 | .region id ops d, _, σ, S, E, L, m, w, R, k, r, Q, h, hQ => by
  obtain ⟨ops⟩ := ops
  cases d with
  | true => exact ytR hm hτ hΓ R h (fun σ' S' E' L' m' w' h1 h2 h3 h4 R1 => hQ .normal _ _ _ _ _ _ h1 h2 (Pin.of h3) h4 R1)
  | false => exact wp_region_lit (zzQ hτ hΓ (fun σ' S' E' L' m' w' h1 h2 h3 h4 R1 => hQ .normal _ _ _ _ _ _ h1 h2 (Pin.of h3) h4 R1) ops (fun _ h => h) (Mem.le_refl _) (ELe.refl _) (Agr.refl _ _) R h)
 | .cond c a b, _, σ, S, E, L, m, w, R, k, r, Q, h, hQ => by
  simp only [run] at h
  split at h
  ·rename_i t hc
   have hv : evO n m c = .bool t := vB (zbR R hc)
   refine yoE hv (fun ht => ?_) (fun ht => ?_)
   ·subst ht; exact zuH hm hτ hΓ a R k r Q h (fun e σ' S' E' L' m' w' h1 h2 hP h3 R1 => hQ e σ' S' E' L' m' w' h1 h2 hP h3.l R1)
   ·subst ht; exact zuH hm hτ hΓ b R k r Q h (fun e σ' S' E' L' m' w' h1 h2 hP h3 R1 => hQ e σ' S' E' L' m' w' h1 h2 hP h3.r R1)
  ·cases h
 | .seq a b, _, σ, S, E, L, m, w, R, k, r, Q, h, hQ => by
  have next : ∀ e σ' S' E' L' m' w', nx k (fun σ => run N0 n τ Γ η b σ k) e σ' = some r → Mem.le S S' → Pin N0 E E' → Agr (znO a) m m' → Rel n B S' E' L' σ' m' w' → Exit.then (b.wp P Q) Q (exQ e) (fr n m') w' := fun e σ' S' E' L' m' w' h1 hS hP hA R1 => by
   cases e with
   | normal => exact zuH hm hτ hΓ b R1 k r Q h1 (fun e σ' S' E' L' m' w' h1 h2 hP2 h3 R1 => hQ e σ' S' E' L' m' w' h1 (Mem.le_trans hS h2) (hP.trans hP2) ((Agr.l hA).trans (Agr.r h3)) R1)
   | exit i => exact hQ (.exit i) _ _ _ _ _ _ h1 hS hP hA.l R1
   | ret => exact hQ .ret _ _ _ _ _ _ h1 hS hP hA.l R1
  simp only [run] at h
  refine wp_seq ?_
  split at h
  ·rename_i mk kp outs hj
   obtain ⟨d, h1, h2⟩ := zrQ h
   obtain ⟨S0, E0, L0, hS0, hE0, R0⟩ := zxV mk R
   refine zuH hm hτ hΓ a R0 (inj N0 outs) d _ h1 fun e σ' S' E' L' m' w' h3 hS hP hA R1 => ?_
   obtain ⟨S2, E2, L2, σ2, hS2, hP2, R2, _, _, h4⟩ := zyC R1 (kp := zvY (znO a) (zwC σ mk) kp) (fun S'' E'' hS'' t => zvL R0 (Mem.le_trans hS hS'') hA kp t) h3
   rw [h4] at h2
   exact next e σ2 _ _ _ _ _ h2 (Mem.le_trans hS0 (Mem.le_trans hS hS2)) ((Pin.of hE0).trans (hP.trans hP2)) hA R2
  ·exact zuH hm hτ hΓ a R _ r _ h next
 | .block id b, _, σ, S, E, L, m, w, R, k, r, Q, h, hQ => by
  have next : ∀ e σ' S' E' L' m' w', blk id k e σ' = some r → Mem.le S S' → Pin N0 E E' → Agr (znO b) m m' → Rel n B S' E' L' σ' m' w' → Exit.inBlock id Q (exQ e) (fr n m') w' := fun e σ' S' E' L' m' w' h1 hS hP hA R1 => by
   cases e with
   | normal => exact hQ .normal _ _ _ _ _ _ h1 hS hP hA R1
   | ret => exact hQ .ret _ _ _ _ _ _ h1 hS hP hA R1
   | exit i =>
    simp only [blk] at h1
    cases hb : Nat.beq i id with
    | true =>
     rw [hb] at h1
     have := Nat.eq_of_beq_eq_true hb; subst this
     exact yyN (hQ .normal _ _ _ _ _ _ h1 hS hP hA R1)
    | false => rw [hb] at h1; exact yyJ hb (hQ (.exit i) _ _ _ _ _ _ h1 hS hP hA R1)
  simp only [run] at h
  refine wp_block ?_
  split at h
  ·rename_i mk kp outs hj
   obtain ⟨d, h1, h2⟩ := zrQ h
   obtain ⟨S0, E0, L0, hS0, hE0, R0⟩ := zxV mk R
   refine zuH hm hτ hΓ b R0 _ d _ h1 fun e σ' S' E' L' m' w' h3 hS hP hA R1 => ?_
   have fin : ∀ e', inj N0 outs e' σ' = some d → Q (exQ e') (fr n m') w' := fun e' h3 => by
    obtain ⟨S2, E2, L2, σ2, hS2, hP2, R2, _, _, h4⟩ := zyC R1 (kp := zvY (znO b) (zwC σ mk) kp) (fun S'' E'' hS'' t => zvL R0 (Mem.le_trans hS hS'') hA kp t) h3
    rw [h4] at h2
    exact hQ e' σ2 _ _ _ _ _ h2 (Mem.le_trans hS0 (Mem.le_trans hS hS2)) ((Pin.of hE0).trans (hP.trans hP2)) hA R2
   cases e with
   | normal => exact fin .normal h3
   | ret => exact fin .ret h3
   | exit i =>
    simp only [blk] at h3
    cases hb : Nat.beq i id with
    | true =>
     rw [hb] at h3
     have := Nat.eq_of_beq_eq_true hb; subst this
     exact yyN (fin .normal h3)
    | false => rw [hb] at h3; exact yyJ hb (fin (.exit i) h3)
  ·exact zuH hm hτ hΓ b R _ r _ h next
 | .loop b, _, σ, S, E, L, m, w, R, k, r, Q, h, hQ => by
  simp only [run] at h
  split at h
  ·rename_i mk s kp outs hj
   split at h
   ·rename_i s0 hs0
    obtain ⟨d, h1, h2⟩ := zrQ h
    obtain ⟨S0, E0, L0, hS0, hE0, R0⟩ := zxV mk R
    obtain ⟨S1, E1, L1, hS1, hP1, R1⟩ := ydL R0 (fun l => zpU l R0) hs0
    have hQ : ∀ e σ' S' E' L' m' w', k e σ' = some r → Mem.le S0 S' → Pin N0 E0 E' → Agr (znO b) m m' → Rel n B S' E' L' σ' m' w' → Q (exQ e) (fr n m') w' := fun e σ' S' E' L' m' w' h1 h2 h3 h4 h5 => hQ e σ' S' E' L' m' w' h1 (Mem.le_trans hS0 h2) ((Pin.of hE0).trans h3) h4 h5
    clear hS0 hE0 R
    generalize zwC σ mk = σ at *
    refine xaF (fun g a w => ∃ m' x S' E' L', a = fr n m' ∧ Mem.le S0 S' ∧ Pin N0 E0 E' ∧ Agr (znO b) m m' ∧ Rel n B S' E' L' (s.put x) m' w ∧ ztZ (fun x => run N0 n τ Γ η b ((s.put x).app (zvY (znO b) σ kp)) (nx (fun e σ => mapO Sum.inr (inj N0 outs e σ)) fun σ => mapO Sum.inl (s.get N0 σ))) g x = some d) FU ⟨m, s0, S1, E1, L1, rfl, hS1, hP1, Agr.refl _ _, R1, h1⟩ ?_
    rintro g a w ⟨m2, x, S2, E2, L2, rfl, hS2, hP2, hA2, R2, hit⟩
    cases g with
    | zero => cases hit
    | succ g =>
     obtain ⟨o, h3, h4⟩ := yrT hit
     refine zuH hm hτ hΓ b (R2.app (zvL R0 hS2 hA2 kp)) _ o _ h3 fun e σ' S' E' L' m' w' h5 hS3 hP3 hA3 R3 => ?_
     have hSS := Mem.le_trans hS2 hS3
     have hAA := hA2.trans hA3
     have fin : ∀ e', mapO Sum.inr (inj N0 outs e' σ') = some o → Q (exQ e') (fr n m') w' := fun e' h5 => by
      obtain ⟨d', h6, rfl⟩ := zvP h5
      have h7 : d' = d := by cases h4; rfl
      subst h7
      obtain ⟨S4, E4, L4, σ4, hS4, hP4, R4, _, _, h8⟩ := zyC R3 (kp := zvY (znO b) σ kp) (fun S'' E'' hS'' t => zvL R0 (Mem.le_trans hSS hS'') hAA kp t) h6
      rw [h8] at h2
      exact hQ e' σ4 _ _ _ _ _ h2 (Mem.le_trans hSS hS4) ((hP2.trans hP3).trans hP4) hAA R4
     cases e with
     | normal =>
      obtain ⟨x', h6, rfl⟩ := zvP h5
      obtain ⟨S4, E4, L4, hS4, hP4, R4⟩ := ydL R3 (fun l => zpU l R3) h6
      exact ⟨g, Nat.lt_succ_self g, m', x', S4, E4, L4, rfl, Mem.le_trans hSS hS4, (hP2.trans hP3).trans hP4, hAA, R4, h4⟩
     | exit i => exact fin (.exit i) h5
     | ret => exact fin .ret h5
   ·cases h
  ·rename_i mk s kp outs hj
   split at h
   ·rename_i id ops c
    split at h
    ·rename_i d t ty pos aft l hops
     split at h
     ·rename_i s0 hs0
      obtain ⟨dd, h1, h2⟩ := zrQ h
      obtain ⟨fuel, hrng⟩ := ypR h1
      obtain ⟨S0, E0, L0, hS0, hE0, R0⟩ := zxV mk R
      obtain ⟨S1, E1, L1, hS1, hP1, R1⟩ := ydL R0 (fun l => zpU l R0) hs0
      have hQ : ∀ e σ' S' E' L' m' w', k e σ' = some r → Mem.le S0 S' → Pin N0 E0 E' → Agr (znO (.seq (.region id ops false) c)) m m' → Rel n B S' E' L' σ' m' w' → Q (exQ e) (fr n m') w' := fun e σ' S' E' L' m' w' h1 h2 h3 h4 h5 => hQ e σ' S' E' L' m' w' h1 (Mem.le_trans hS0 h2) ((Pin.of hE0).trans h3) h4 h5
      clear hS0 hE0 R
      generalize zwC σ mk = σ at *
      refine xaF (fun g a w => ∃ m' x S' E' L', a = fr n m' ∧ Mem.le S0 S' ∧ Pin N0 E0 E' ∧ Agr (znO (.seq (.region id ops false) c)) m m' ∧ Rel n B S' E' L' (s.put x) m' w ∧ Rng (fun x => ywG n ((s.put x).app (zvY (znO (.seq (.region id ops false) c)) σ kp)) d t fun σ => steps n τ Γ ops.toList l σ fun σ => run N0 n τ Γ η c σ (nx (fun e σ => mapO Sum.inr (inj N0 outs e σ)) fun σ => mapO Sum.inl (s.get N0 σ))) g x dd) fuel ⟨m, s0, S1, E1, L1, rfl, hS1, hP1, Agr.refl _ _, R1, hrng⟩ ?_
      rintro g a w ⟨m2, x, S2, E2, L2, rfl, hS2, hP2, hA2, R2, hit⟩
      cases g with
      | zero => exact hit.elim
      | succ g =>
       have hD : ∀ t', hasN (ztJ (⟨some d, .next (.tmp t) false, ty, pos, aft, none⟩ :: l)) t' = true → hasN (znO (.seq (.region id ops false) c)) t' = true := fun t' ht' => by
        show hasN (ztJ ops.toList ++ znO c) t' = true
        rw [yeD, hops, ht']; rfl
       obtain ⟨ops⟩ := ops
       have hops : ops = _ := hops
       subst hops
       refine wp_seq (wp_region_lit (xdH (ztI rfl) (xaA (R2.app (zvL R0 hS2 hA2 kp)) (Z := rngO (fun s' => Rng _ g s' dd) dd) (fun h => h) hit) ?_))
       rintro v w' ⟨σ1, L3, hy, R3⟩
       generalize hyo : (steps n τ Γ _ l σ1 fun σ => run N0 n τ Γ η c σ (nx (fun e σ => mapO Sum.inr (inj N0 outs e σ)) fun σ => mapO Sum.inl (s.get N0 σ))) = o at hy
       match o, hy with
       | some y, hy2 =>
        rw [ybV]
        refine zzQ hτ hΓ (D := znO (.seq (.region id _ false) c)) (S0 := S2) (E0 := E2) (m0 := m2) (fun σ' S' E' L' m' w' h5 hS3 hE3 hA3 R4 => ?_) l (fun t' ht' => hD t' (ydH ht')) (Mem.le_refl _) (ELe.refl _) (Agr.put (hD d (ydO rfl))) R3 hyo
        refine zuH hm hτ hΓ c R4 _ y _ h5 fun e σ' S' E' L' m' w' h5 hS4 hP4 hA4 R4 => ?_
        have hSS := Mem.le_trans hS2 (Mem.le_trans hS3 hS4)
        have hAA := hA2.trans (hA3.trans hA4.r)
        have hPP := (hP2.trans (Pin.of hE3)).trans hP4
        have fin : ∀ e', mapO Sum.inr (inj N0 outs e' σ') = some y → Q (exQ e') (fr n m') w' := fun e' h5 => by
         obtain ⟨d', h6, rfl⟩ := zvP h5
         have h7 : d' = dd := hy2
         subst h7
         obtain ⟨S4, E4, L4, σ4, hS4, hP4, R4, _, _, h8⟩ := zyC R4 (kp := zvY (znO (.seq (.region id _ false) c)) σ kp) (fun S'' E'' hS'' t => zvL R0 (Mem.le_trans hSS hS'') hAA kp t) h6
         rw [h8] at h2
         exact hQ e' σ4 _ _ _ _ _ h2 (Mem.le_trans hSS hS4) (hPP.trans hP4) hAA R4
        cases e with
        | normal =>
         obtain ⟨x', h6, rfl⟩ := zvP h5
         obtain ⟨S4, E4, L4, hS4, hP4, R4⟩ := ydL R4 (fun l => zpU l R4) h6
         exact ⟨g, Nat.lt_succ_self g, m', x', S4, E4, L4, rfl, Mem.le_trans hSS hS4, hPP.trans hP4, hAA, R4, hy2⟩
        | exit i => exact fin (.exit i) h5
        | ret => exact fin .ret h5
     ·cases h
    ·cases h
   ·cases h
  ·cases h
theorem yiZ {s : Sem Value} {u : Value} (h : (do pure (Next.value (← s)) : Sem Next).run P w = .ok (.value u) w) : s.run P w = .ok u w := by
 rw [Sem.run_bind] at h
 cases hs : s.run P w with
 | ok v w' =>
  rw [hs] at h
  simp only [Result.andThen_ok, Sem.run_pure] at h
  injection h with h1 h2
  injection h1 with h1
  rw [h1, h2]
 | halt x w' => rw [hs] at h; cases h
theorem xcT (hτ : TEok P τ) (R : Rel n B S E L σ m w) {v : ResultVar} {x : SV} (h : resV τ σ v = some x) : ∃ u, VR S E x u ∧ (resS (fr n m).tmps v).run P w = .ok u w := by
 cases v with
 | tmp t =>
  cases h
  exact ⟨_, R.sl t, yjC rfl⟩
 | cell t T =>
  simp only [resV] at h
  split at h
  ·rename_i f hT
   have h' : deref σ.hp (lkS σ.sl t) f.sz (fun l => bindS (svAt f l) some) = some x := by
    have e1 : (fun l => bindS (svAt f l) some) = fun l => svAt f l := by funext l; cases svAt f l <;> rfl
    rw [e1]; exact h
   obtain ⟨z, u, h1, h2, h3⟩ := ytO (dst := none) (g := none) (ty := 0) (pos := "") (aft := #[]) (a := .tmp t) (k := some) R (hτ _ _ hT) (R.sl t) h'
   cases h1
   refine ⟨u, h2, ?_⟩
   have h4 := yiZ (h3 w R.hs)
   show (do loadVar T (← asAddr ((fr n m).tmps.getD t undef)) : Sem Value).run P w = _
   rw [yoL]
   have h5 : (do loadVar T (← Instr.sureAddr (evO n m (.tmp t))) : Sem Value).run P w = .ok u w := h4
   cases hp : evO n m (.tmp t) with
   | pointer a =>
    rw [hp] at h5
    cases a with
    | none => simp [Instr.sureAddr] at h5
    | some a => simpa [Instr.sureAddr, asAddr] using h5
   | _ => rw [hp] at h5; simp [Instr.sureAddr] at h5
  ·cases h
theorem zzS (hτ : TEok P τ) (R : Rel n B S E L σ m w) : ∀ {l : List ResultVar} {xs : List SV}, zyB τ σ l = some xs → ∃ us, A2 (VR S E) xs us ∧ (l.mapM (resS (fr n m).tmps)).run P w = .ok us w
 | [], xs, h => by cases h; exact ⟨[], .nil, by simp⟩
 | v :: l, xs, h => by
  unfold zyB at h
  split at h
  ·rename_i x y h1 h2
   cases h
   obtain ⟨u, h3, h4⟩ := xcT hτ R h1
   obtain ⟨us, h5, h6⟩ := zzS hτ R h2
   exact ⟨u :: us, .cons h3 h5, by simp only [List.mapM_cons, Sem.run_bind, h4, Result.andThen_ok, h6, Sem.run_pure]⟩
  ·cases h
theorem ykV : ∀ {l : List Ty} {us : LV} {x : zfQ l}, repA S l us x → us.length = l.length
 | [], us, _, h => by have : us = [] := h; subst this; rfl
 | [_], _, _, ⟨_, e, _⟩ => by rw [e]; rfl
 | _ :: t' :: l, _, _, ⟨_, _, e, _, h⟩ => by rw [e]; simp [ykV h]
theorem xcK {l : List Ty} {us : LV} {x : zfQ l} (h : repA S l us x) : repR S l (if h : us.toArray.size = 1 then us.toArray[0] else .tuple us.toArray) x := by
 match l, x, h with
 | [], x, h => have : us = [] := h; subst this; exact ⟨[], rfl, rfl⟩
 | [t], x, ⟨u, e, h1⟩ => subst e; exact h1
 | t :: t' :: l, x, h =>
  have hl := ykV h
  rw [dif_neg (by simp at hl ⊢; omega)]
  exact ⟨us, rfl, h⟩
theorem ypE : ∀ {xs : List SV} {us : LV} (i t : Nat), A2 (VR S E) xs us → VR S E (lkS (argS i xs) t) (look (argm us i) t)
 | _, _, i, t, .nil => trivial
 | _, _, i, t, .cons a r => by
  unfold argS lkS argm look
  cases Nat.beq i t with
  | true => exact a
  | false => exact ypE (i + 1) t r
theorem yhG : ∀ (us : LV) (i t : Nat), look (argm us i) t = if i ≤ t then us.getD (t - i) undef else undef
 | [], i, t => by simp [argm, look]
 | u :: us, i, t => by
  unfold argm look
  rw [yhG us (i + 1) t]
  cases hb : Nat.beq i t with
  | true =>
   have := Nat.eq_of_beq_eq_true hb; subst this
   simp
  | false =>
   have hne : i ≠ t := fun e => by subst e; rw [Nat.beq_refl] at hb; cases hb
   simp only [cond_false]
   by_cases h : i ≤ t
   ·rw [if_pos h, if_pos (by omega), show t - i = (t - (i + 1)) + 1 by omega, List.getD_cons_succ]
   ·rw [if_neg h, if_neg (by omega)]
theorem yeF : ∀ (ash : List Sh) (l : List SV), (putL ash l).1.length = ash.length
 | [], _ => rfl
 | a :: ash, l => by simp only [putL, List.length_cons, yeF ash]
theorem ybL : ∀ {xs : List SV} {i t : Nat}, i + xs.length ≤ t → lkS (argS i xs) t = .undef
 | [], _, _, _ => rfl
 | x :: xs, i, t, h => by
  simp only [List.length_cons] at h
  unfold argS lkS
  have : Nat.beq i t = false := by rw [zrM]; simp; omega
  rw [this]
  exact ybL (by omega)
theorem yvX {G : List (Nat × Obj)} {S0 : Mem} {w0 : World} (hG : GS G S0) (hS : Sub S0 w0) : GB G ⟨S0, [], w0⟩ := fun p hp => ⟨(Array.getElem?_eq_some_iff.1 (hS _ _ (hG p hp))).1, by simp, hG p hp⟩
theorem gb_in {G : List (Nat × Obj)} {B : Bas} {S0 : Mem} {w0 : World} {L0 : List Res} (hG : GS G S0) (H : HS B S0 w0 L0) : GB G ⟨S0, zcX L0, w0⟩ := fun p hp => by
 refine ⟨(Array.getElem?_eq_some_iff.1 (H.sub _ _ (hG p hp))).1, fun h => ?_, hG p hp⟩
 obtain ⟨k, r, h1, h2⟩ := zeP.1 h
 have := (H.old k r _ h1 h2).2
 rw [hG p hp] at this; cases this
theorem fn_ok {G : List (Nat × Obj)} {f : FuncId} {fn : Func} {ats : List Sh} {rts : List Ty} (hm : P.follows .mixedOrders = true) (hτ : TEok P τ) (hΓ : ∀ B, GB G B → CTok P Γ B) (hf : P.funcs[f]? = some fn) (hfn : IsFn P f) (hl : Nat.ble ats.length fn.ntmps = true) : PCok P G f ⟨ats, rts, fnP τ Γ η fn ats rts, false⟩ := by
 refine ⟨hfn, fun S0 w0 us a y hG hS ha hy => ?_⟩
 have hy : fnP τ Γ η fn ats rts a = some y := hy
 have ha : A2 (VR S0 []) (putL ats (zuP _ a)).1 us := ha
 have hul : us.length = ats.length := by rw [← ha.len, yeF]
 unfold fnP at hy
 split at hy
 ·cases hy
 ·rename_i c hb
  refine enter hf hb rfl (by rw [hul]; exact hl) ?_
  have R0 : Rel fn.ntmps ⟨S0, [], w0⟩ S0 [] [] ⟨argS 0 (putL ats (zuP _ a)).1, []⟩ (argm us 0) w0 := by
   refine ⟨HS.start hS, rfl, rfl, fun i o h => by simp at h, fun t => ?_⟩
   show VR S0 [] (lkS (argS 0 (putL ats (zuP _ a)).1) t) (bif Nat.blt t fn.ntmps then look (argm us 0) t else undef)
   cases ht : Nat.blt t fn.ntmps with
   | true => exact ypE 0 t ha
   | false =>
    rw [znI] at ht
    have h1 := of_decide_eq_false ht
    have h2 := Nat.le_of_ble_eq_true hl
    rw [ybL (by rw [yeF]; omega)]
    trivial
  refine zuH hm hτ (hΓ _ (yvX hG hS)) c R0 (fin τ fn rts) y _ hy fun e σ' S' E' L' m' w' h1 _ _ _ R1 => ?_
  have key : ∀ (_ : (match zyB τ σ' fn.results.toList with
    | some l => match zyB τ (frzL σ' (l.flatMap owns)) fn.results.toList with
     | some l => yfO [] rts l
     | none => none
    | none => none) = some y), (fr fn.ntmps m').defers = [] ∧ ∃ v, (results fn (fr fn.ntmps m').tmps).run P w' = .ok v w' ∧ ∃ v', Ending.returned v = .returned v' ∧ Ext w0 w' ∧ repR (gr S0 w0 w') rts v' y := fun h1 => by
   split at h1
   ·rename_i l hl1
    split at h1
    ·rename_i l2 hl2
     obtain ⟨S2, E2, L2, _, _, R2⟩ := zpU (l.flatMap owns) R1
     obtain ⟨vs, h3, h4⟩ := zzS (P := P) hτ R2 hl2
     have h5 := ylC (S2 := gr S0 w0 w') R2.hs.gr zgG rts h1 h3
     refine ⟨rfl, _, ?_, _, rfl, R2.hs.toExt, xcK h5⟩
     rw [zsJ, Array.mapM_eq_mapM_toList]
     simp only [Sem.run_bind, Sem.run_map, h4, Result.andThen_ok, Sem.run_pure]
    ·cases h1
   ·cases h1
  cases e with
  | normal =>
   obtain ⟨h2, v, h3, v', h4, h5, h6⟩ := key h1
   cases h4
   exact ⟨h2, v, h3, h5, v, rfl, h6, fun h => by cases h⟩
  | ret =>
   obtain ⟨h2, v, h3, v', h4, h5, h6⟩ := key h1
   cases h4
   exact ⟨h2, v, h3, h5, v, rfl, h6, fun h => by cases h⟩
  | exit i => cases h1
theorem ykK : ∀ (us : LV) (pre : LV), ybM (fun t => (pre ++ us).getD t undef) pre.length us.length = us
 | [], _ => rfl
 | u :: us, pre => by
  have h1 := ykK us (pre ++ [u])
  simp only [List.length_append, List.length_singleton, List.append_assoc, List.singleton_append] at h1
  simp only [List.length_cons, ybM, h1]
  congr 1
  simp
theorem ysA (us : LV) : ybM (fun t => us.getD t undef) 0 us.length = us := ykK us []
theorem ywI (us : LV) : (if h : us.toArray.size = 1 then us.toArray[0] else .tuple us.toArray) = ycR us := by
 match us with
 | [] => rfl
 | [u] => rfl
 | u :: u' :: us => rw [dif_neg (by simp)]; rfl
theorem ygY : ∀ {l : List ResultVar} {xs : List SV}, zyB τ σ l = some xs → xs.length = l.length
 | [], _, h => by cases h; rfl
 | v :: l, _, h => by
  unfold zyB at h
  split at h
  ·rename_i h2; cases h; simp [ygY h2]
  ·cases h
theorem yiX {f : FuncId} {fn : Func} {c : Code} {N0 nr : Nat} {outs : List (Option Nat × Shp)} {S0 : Mem} {w0 : World} {us : LV} {E0 : List EI} {L0 : List Res} {σ0 : St} {d : DS outs} (hm : P.follows .mixedOrders = true) (hτ : TEok P τ) (hΓ : CTok P Γ ⟨S0, zcX L0, w0⟩) (hf : P.funcs[f]? = some fn) (hb : fn.body = some c) (hl : us.length ≤ fn.ntmps) (hr : Nat.beq fn.results.toList.length nr = true)
  (R : RelV ⟨S0, zcX L0, w0⟩ S0 E0 L0 σ0 (fun t => us.getD t undef) w0) (hy : run N0 fn.ntmps τ Γ η c σ0 (finS τ fn N0 outs) = some d) :
  Calls P f us.toArray w0 fun e w' => ∃ v, e = .returned v ∧ ∃ S' E' L' σo V', (∀ {γ : Type} (k : Ex → St → Option γ), out [] outs d k = k .normal σo) ∧ Mem.le S0 S' ∧ Pin N0 E0 E' ∧ RelV ⟨S0, zcX L0, w0⟩ S' E' L' σo V' w' ∧ Ver0 σo.hp ∧ N0 ≤ σo.hp.length ∧ v = ycR (ybM V' 0 nr) := by
 refine enter hf hb rfl (Nat.ble_eq_true_of_le hl) ?_
 have R0 : Rel fn.ntmps ⟨S0, zcX L0, w0⟩ S0 E0 L0 σ0 (argm us 0) w0 := by
  refine ⟨R.hs, R.lL, R.lE, R.obj, fun t => ?_⟩
  have h1 := R.sl t
  show VR S0 E0 (lkS σ0.sl t) (bif Nat.blt t fn.ntmps then look (argm us 0) t else undef)
  cases ht : Nat.blt t fn.ntmps with
  | true =>
   have := yhG us 0 t
   rw [if_pos (Nat.zero_le t)] at this
   rw [cond_true, this]; exact h1
  | false =>
   rw [znI] at ht
   have h2 := of_decide_eq_false ht
   rw [cond_false]
   have h3 : us.getD t undef = undef := by rw [List.getD_eq_getElem?_getD, List.getElem?_eq_none (by omega)]; rfl
   rw [← h3]; exact h1
 refine zuH hm hτ hΓ c R0 (finS τ fn N0 outs) d _ hy fun e σ' S' E' L' m' w' h1 hS hP _ R1 => ?_
 have key : ∀ (_ : (match zyB τ σ' fn.results.toList with
   | some l => inj N0 outs .normal ⟨argS 0 l, σ'.hp⟩
   | none => none) = some d), (fr fn.ntmps m').defers = [] ∧ ∃ v, (results fn (fr fn.ntmps m').tmps).run P w' = .ok v w' ∧ ∃ v', Ending.returned v = .returned v' ∧ ∃ S' E' L' σo V', (∀ {γ : Type} (k : Ex → St → Option γ), out [] outs d k = k .normal σo) ∧ Mem.le S0 S' ∧ Pin N0 E0 E' ∧ RelV ⟨S0, zcX L0, w0⟩ S' E' L' σo V' w' ∧ Ver0 σo.hp ∧ N0 ≤ σo.hp.length ∧ v' = ycR (ybM V' 0 nr) := fun h1 => by
  split at h1
  ·rename_i l hl1
   obtain ⟨vs, h3, h4⟩ := zzS (P := P) hτ R1 hl1
   have R2 : RelV ⟨S0, zcX L0, w0⟩ S' E' L' ⟨argS 0 l, σ'.hp⟩ (fun t => vs.getD t undef) w' := ⟨R1.hs, R1.lL, R1.lE, R1.obj, fun t => by
    have := yfI 0 t h3
    rw [if_pos (Nat.zero_le t)] at this
    exact this⟩
   obtain ⟨S2, E2, L2, σ2, hS2, hP2, R3, hv, hn, h5⟩ := zyC R2 (kp := []) (fun _ _ _ _ => trivial) h1
   refine ⟨rfl, ycR vs, ?_, ycR vs, rfl, S2, E2, L2, σ2, _, h5, Mem.le_trans hS hS2, hP.trans hP2, R3, hv, hn, ?_⟩
   ·rw [zsJ, Array.mapM_eq_mapM_toList]
    simp only [Sem.run_bind, Sem.run_map, h4, Result.andThen_ok, Sem.run_pure, ← ywI]
   ·have h6 : vs.length = nr := by rw [← h3.len, ygY hl1]; exact Nat.eq_of_beq_eq_true hr
    rw [← h6, ysA]
  ·cases h1
 cases e with
 | normal =>
  obtain ⟨h2, v, h3, v', h4, h5⟩ := key h1
  cases h4
  exact ⟨h2, v, h3, v, rfl, h5⟩
 | ret =>
  obtain ⟨h2, v, h3, v', h4, h5⟩ := key h1
  cases h4
  exact ⟨h2, v, h3, v, rfl, h5⟩
 | exit i => cases h1
theorem xdJ {G : List (Nat × Obj)} {f : FuncId} {fn : Func} {I : Shp} {nr : Nat} {outs : List (Option Nat × Shp)} (hm : P.follows .mixedOrders = true) (hτ : TEok P τ) (hΓ : ∀ B, GB G B → CTok P Γ B) (hf : P.funcs[f]? = some fn) (hfn : IsFn P f) (hl : Nat.ble I.sl.length fn.ntmps = true) (hr : Nat.beq fn.results.toList.length nr = true) : SCok P G f ⟨I, nr, outs, fnS τ Γ η fn I outs⟩ := by
 refine ⟨hfn, fun S0 w0 us E0 L0 a d hG hul R hy => ?_⟩
 have hy : fnS τ Γ η fn I outs a = some d := hy
 have hul : us.length = I.sl.length := hul
 unfold fnS at hy
 split at hy
 ·cases hy
 ·rename_i c hb
  exact yiX hm hτ (hΓ _ (gb_in hG R.hs)) hf hb (by rw [hul]; exact Nat.le_of_ble_eq_true hl) hr R hy
end
def PL (P : Program) (G : List (Nat × Obj)) : List (Nat × PC) → Prop
 | [] => True
 | x :: l => PCok P G x.1 x.2 ∧ PL P G l
def SL (P : Program) (G : List (Nat × Obj)) : List (Nat × SC) → Prop
 | [] => True
 | x :: l => SCok P G x.1 x.2 ∧ SL P G l
theorem PL.at {P : Program} {G : List (Nat × Obj)} : ∀ {l : List (Nat × PC)}, PL P G l → ∀ f c, pcAt l f = some c → PCok P G f c
 | [], _, f, c, h => by cases h
 | (d, x) :: l, ⟨h1, h2⟩, f, c, h => by
  unfold pcAt at h
  cases hb : Nat.beq d f with
  | true => rw [hb] at h; cases h; rw [← Nat.eq_of_beq_eq_true hb]; exact h1
  | false => rw [hb] at h; exact PL.at h2 f c h
theorem SL.at {P : Program} {G : List (Nat × Obj)} : ∀ {l : List (Nat × SC)}, SL P G l → ∀ f c, c ∈ scAt l f → SCok P G f c
 | [], _, f, c, h => by cases h
 | (d, x) :: l, ⟨h1, h2⟩, f, c, h => by
  unfold scAt at h
  cases hb : Nat.beq d f with
  | true =>
   rw [hb] at h
   rcases List.mem_cons.1 h with rfl | h
   ·rw [← Nat.eq_of_beq_eq_true hb]; exact h1
   ·exact SL.at h2 f c h
  | false => rw [hb] at h; exact SL.at h2 f c h
theorem ctok {P : Program} {G : List (Nat × Obj)} {pc : List (Nat × PC)} {sc : List (Nat × SC)} {k : Bool} (h1 : PL P G pc) (h2 : SL P G sc) : ∀ B, GB G B → CTok P ⟨pc, sc, k⟩ B := fun B hG =>
 ⟨fun f c h => ⟨(h1.at f c h).fn, fun S w us a y hA => (h1.at f c h).ok S w us a y (hA.gs hG)⟩, fun f c h => ⟨(h2.at f c h).fn, fun S w us E L a d hA => (h2.at f c h).ok S w us E L a d (hA.gs hG)⟩⟩
theorem xcW {P : Program} {G : List (Nat × Obj)} {τ : TE} {Γ : CT} {η : HT} {f : FuncId} {fn : Func} {c : PC} (hm : P.follows .mixedOrders = true) (hτ : TEok P τ) (hΓ : ∀ B, GB G B → CTok P Γ B) (hf : P.funcs[f]? = some fn) (hfn : IsFn P f) (hl : Nat.ble c.ash.length fn.ntmps = true) (hc : c.cl = false) (he : fnP τ Γ η fn c.ash c.rts = c.p) : PCok P G f c := by
 have h := fn_ok (η := η) (rts := c.rts) hm hτ hΓ hf hfn hl
 rw [he, ← hc] at h
 exact h
theorem yzH {P : Program} {G : List (Nat × Obj)} {τ : TE} {Γ : CT} {η : HT} {f : FuncId} {fn : Func} {c : SC} (hm : P.follows .mixedOrders = true) (hτ : TEok P τ) (hΓ : ∀ B, GB G B → CTok P Γ B) (hf : P.funcs[f]? = some fn) (hfn : IsFn P f) (hl : Nat.ble c.I.sl.length fn.ntmps = true) (hr : Nat.beq fn.results.toList.length c.nr = true) (he : fnS τ Γ η fn c.I c.outs = c.p) : SCok P G f c := by
 have h := xdJ (η := η) (outs := c.outs) hm hτ hΓ hf hfn hl hr
 rw [he] at h
 exact h
def keqI (x y : Int) : Bool := decide (x = y)
def kltI (x y : Int) : Bool := decide (x < y)
abbrev hS : Sh := .h .s
abbrev hI : Sh := .h (.i .i64)
abbrev hB : Sh := .h .b
def scal : Ty → Bool
 | .i _ => true
 | .b => true
 | .s => true
 | _ => false
def encV : (t : Ty) → den t → Value
 | .i k, x => .int k (toI k x)
 | .b, x => .bool x
 | .s, x => str x
 | _, _ => undef
def encL : (l : List Ty) → zfQ l → LV
 | [], _ => []
 | [t], x => [encV t x]
 | t :: t' :: l, x => encV t x.1 :: encL (t' :: l) x.2
def encR (l : List Ty) (x : zfQ l) : Value := match l, x with
 | [t], x => encV t x
 | l, x => .tuple (encL l x).toArray
section
variable {S : Mem} {E : List EI} {P : Program} {G : List (Nat × Obj)} {f : FuncId}
theorem yfN : ∀ {t : Ty} {x : den t} {u : Value}, scal t = true → VR S E (svOf t x) u → u = encV t x
 | .i k, x, u, _, h => by
  have h : [u] = [Value.int k (toI k x)] := h
  exact (List.cons.inj h).1
 | .b, x, u, _, h => by
  have h : [u] = [Value.bool x] := h
  exact (List.cons.inj h).1
 | .s, x, u, _, h => by
  have h : [u] = [str x] := h
  exact (List.cons.inj h).1
theorem yeH : ∀ {t : Ty} {x : den t}, scal t = true → rep1 t S (encV t x) x
 | .i _, _, _ => rfl
 | .b, _, _ => rfl
 | .s, _, _ => rfl
theorem ykR : ∀ {l : List Ty} {x : zfQ l}, l.all scal = true → repA S l (encL l x) x
 | [], _, _ => rfl
 | [t], x, h => ⟨_, rfl, yeH (by simpa using h)⟩
 | t :: t' :: l, x, h => ⟨_, _, rfl, yeH (by simp at h; exact h.1), ykR (by simp at h ⊢; exact h.2)⟩
theorem yfD {l : List Ty} {x : zfQ l} (h : l.all scal = true) : repR S l (encR l x) x := match l, x, h with
 | [t], x, h => show rep1 t S (encV t x) x from yeH (by simpa using h)
 | [], _, _ => ⟨[], rfl, rfl⟩
 | t :: t' :: l, x, h => ⟨_, rfl, ykR h⟩
theorem pc1 {t1 : Ty} {rts : List Ty} {p : den t1 → Option (zfQ rts)} (h1 : scal t1 = true) (hr : rts.all scal = true) (hfn : IsFn P f)
  (h : ∀ S w x y, GS G S → Sub S w → p x = some y → Calls P f #[encV t1 x] w fun e w' => e = .returned (encR rts y) ∧ Ext w w') :
  PCok P G f ⟨[.h t1], rts, p, false⟩ := by
 refine ⟨hfn, fun S0 w0 us x y hG hS ha hy => ?_⟩
 have ha : A2 (VR S0 []) [svOf t1 x] us := ha
 cases ha with
 | cons q1 q2 =>
  cases q2
  rw [yfN h1 q1]
  exact (h S0 w0 x y hG hS hy).mono fun e w' ⟨he, hx⟩ => ⟨hx, _, he, yfD hr, fun h => by cases h⟩
theorem pc2 {t1 t2 : Ty} {rts : List Ty} {p : den t1 → den t2 → Option (zfQ rts)} (h1 : scal t1 = true) (h2 : scal t2 = true) (hr : rts.all scal = true) (hfn : IsFn P f)
  (h : ∀ S w x1 x2 y, GS G S → Sub S w → p x1 x2 = some y → Calls P f #[encV t1 x1, encV t2 x2] w fun e w' => e = .returned (encR rts y) ∧ Ext w w') :
  PCok P G f ⟨[.h t1, .h t2], rts, fun (x : den t1 × den t2) => p x.1 x.2, false⟩ := by
 refine ⟨hfn, fun S0 w0 us (x : den t1 × den t2) y hG hS ha hy => ?_⟩
 have ha : A2 (VR S0 []) [svOf t1 x.1, svOf t2 x.2] us := ha
 cases ha with
 | cons q1 q2 =>
  cases q2 with
  | cons q3 q4 =>
   cases q4
   rw [yfN h1 q1, yfN h2 q3]
   exact (h S0 w0 x.1 x.2 y hG hS hy).mono fun e w' ⟨he, hx⟩ => ⟨hx, _, he, yfD hr, fun h => by cases h⟩
end
end Go.Proofs.YtebbcofojchkpaaGreatDoor.Am
namespace Go.Proofs.YtebbcofojchkpaaGreatDoor
open Go Go.RowKit
def decF : Nat → Nat → Bs
 | 0, _ => []
 | f + 1, u => bif Nat.blt u 10 then [UInt8.ofNat (48 + u)] else decF f (u / 10) ++ [UInt8.ofNat (48 + u % 10)]
theorem yeK : ∀ (f u : Nat), u < 10 ^ f → 0 < f → decF f u = Lib.decDigits u
 | 0, _, _, h => absurd h (Nat.lt_irrefl 0)
 | f + 1, u, h, _ => by
  rw [Lib.decDigits]
  unfold decF
  by_cases hu : u < 10
  ·rw [show Nat.blt u 10 = true by rw [znI]; simpa using hu, dif_pos hu]; rfl
  ·rw [show Nat.blt u 10 = false by rw [znI]; simpa using hu, dif_neg hu]
   have hf : 0 < f := by
    rcases Nat.eq_zero_or_pos f with rfl | hf
    ·rw [Nat.zero_add, Nat.pow_one] at h; omega
    ·exact hf
   rw [yeK f (u / 10) (by rw [Nat.pow_succ] at h; omega) hf]; rfl
def ywB (n : Int) : Bs := bif decide (n < 0) then 45 :: decF 20 n.natAbs else decF 20 n.toNat
def yiJ (n : Int) : Option Bs := bif decide (-9223372036854775808 ≤ n) && decide (n ≤ 9223372036854775807) then some (ywB n) else none
theorem ywM {n : Int} (h0 : -9223372036854775808 ≤ n) (h1 : n ≤ 9223372036854775807) : ywB n = Lib.itoa n := by
 unfold ywB Lib.itoa
 by_cases hn : n < 0
 ·rw [if_pos hn, decide_eq_true hn, cond_true, yeK _ _ (by omega) (by omega)]
 ·rw [if_neg hn, decide_eq_false hn, cond_false, yeK _ _ (by omega) (by omega)]
theorem GV.tab {S : Mem} {w : World} (h : GV S) (hS : Sub S w) : Lib.TabIs Tryz.prog w "internal/strconv.uint64pow10" .u64 Lib.pow10Tab := by
 obtain ⟨t, fz, h⟩ := h.tb
 have hg : Tryz.prog.globalNamed "internal/strconv.uint64pow10" = some 3 := by kernel_rfl
 unfold Lib.TabIs World.var?
 rw [hg, Option.bind_some, hS _ _ h]
 rfl
theorem yyF {S : Mem} {w : World} (hS : Sub S w) (hG : GV S) {x0 : Int} {r : Bs} (hF : yiJ x0 = some r) :
  Calls Tryz.prog 46 #[.int .i64 x0] w fun e w' => e = .returned (str r) ∧ Ext w w' := by
 unfold yiJ at hF
 obtain ⟨h, hF⟩ := Am.zaD hF
 simp only [Bool.and_eq_true, decide_eq_true_eq] at h
 cases hF
 refine (Tryz.strconv_Itoa x0 h.1 h.2 w (hG.tab hS)).mono ?_
 rintro _ w' ⟨rfl, k, os, rfl⟩
 rw [ywM h.1 h.2]
 exact ⟨rfl, ⟨rfl, rfl, rfl, by show w.heap.size ≤ (w.heap ++ os).size; rw [Array.size_append]; omega, fun j hj => by show (w.heap ++ os)[j]? = _; rw [Array.getElem?_append_left hj]⟩⟩
def ycS (s cs : Bs) : Option Bs := bif decide (s.length ≤ 9223372036854775807) && decide (cs.length < 4294967281) && cs.all (fun b => decide (b.toNat < 128)) then some (Lib.trimS s cs) else none
theorem xfO {S : Mem} {w : World} (_ : Sub S w) {x0 x1 r : Bs} (hF : ycS x0 x1 = some r) :
  Calls Tryz.prog 82 #[str x0, str x1] w fun e w' => e = .returned (str r) ∧ Ext w w' := by
 unfold ycS at hF
 obtain ⟨h, hF⟩ := Am.zaD hF
 simp only [Bool.and_eq_true, decide_eq_true_eq] at h
 cases hF
 exact Any.strings_Trim_laid Tryz.lays160 (by kernel_rfl) ⟨x0.toArray⟩ ⟨x1.toArray⟩ w (by rw [zgU]; exact h.1.1) (by rw [zgU]; exact h.1.2) (fun j b hj => by
  have := List.all_eq_true.1 h.2 b (List.mem_of_getElem? hj)
  simpa using this)
def cutP (s sep : Bs) : Option (Bs × Bs × Bool) := bif decide (s.length < 4294967281) then some (Lib.cut s sep) else none
theorem Cut_c {S : Mem} {w : World} (hS : Sub S w) (hG : GV S) {x0 x1 : Bs} {r : Bs × Bs × Bool} (hF : cutP x0 x1 = some r) :
  Calls Tryz.prog 79 #[str x0, str x1] w fun e w' => e = .returned (.tuple #[str (r.1), str (r.2.1), .bool (r.2.2)]) ∧ Ext w w' := by
 unfold cutP at hF
 obtain ⟨h, hF⟩ := Am.zaD hF
 simp only [decide_eq_true_eq] at h
 cases hF
 obtain ⟨m, hm⟩ := hG.cell hS
 refine (Tryz.strings_Cut ⟨x0.toArray⟩ ⟨x1.toArray⟩ m w (by rw [zgU]; exact h) hm).mono ?_
 rintro _ w' ⟨rfl, n, rfl⟩
 exact ⟨rfl, rfl, rfl, rfl, Nat.le_refl _, fun _ _ => rfl⟩
def ygU (s : Bs) : Option (Int × Bool) := bif decide (s.length ≤ 9223372036854775806) then (match Lib.atoiAll s with
 | .ok v => some (v, false)
 | _ => none) else none
theorem xeX {S : Mem} {w : World} (_ : Sub S w) {x0 : Bs} {r : Int × Bool} (hF : ygU x0 = some r) :
  r.2 = false ∧ Calls Tryz.prog 83 #[str x0] w fun e w' => e = .returned (.tuple #[.int .i64 r.1, .nilIface]) ∧ Ext w w' := by
 unfold ygU at hF
 obtain ⟨h, hF⟩ := Am.zaD hF
 simp only [decide_eq_true_eq] at h
 split at hF
 ·rename_i v hv
  cases hF
  refine ⟨rfl, (Tryz.strconv_Atoi_ok ⟨x0.toArray⟩ (by rw [zgU]; exact h) v hv w).mono ?_⟩
  rintro _ w' ⟨rfl, rfl | ⟨t, rfl⟩⟩
  ·exact ⟨rfl, Ext.refl _⟩
  ·exact ⟨rfl, ⟨rfl, rfl, rfl, by rw [Lib.bytesWorld_size]; omega, fun j hj => Lib.bytesWorld_at_old w _ _ j hj⟩⟩
 ·cases hF
section
variable {α β γ σ : Type}
theorem zaA (x : α) (f : α → Option β) : (some x).bind f = f x := rfl
theorem bind_ok {o : Option α} {a : α} {f : α → Option β} (h : o = some a) : o.bind f = f a := by rw [h]; rfl
theorem zlK {x : Int} (h : -9223372036854775808 ≤ x) (h2 : x ≤ 9223372036854775807) : w64 x = x := wr64 h (by omega)
theorem zlL {l : List α} {i : Nat} {j : Int} (hj : j = (i : Int)) (h : i < l.length) : idx l j = some l[i] := by
 subst hj; rw [xaX]; exact List.getElem?_eq_getElem h
theorem xfR {n : Nat} {z : α} (h : n ≤ 68719476736) : mkL (n : Int) z = some (List.replicate n z) := by
 unfold mkL
 have h' : (n : Int) ≤ (LIM : Int) := by unfold LIM; omega
 have h0 : (0 : Int) ≤ (n : Int) := by omega
 simp only [h', h0, decide_true, Bool.and_self, cond_true, Int.toNat_natCast]
theorem zrH {c : Bool} (h : c = true) : chk c = some () := by subst h; rfl
theorem zmD {p : Prop} [Decidable p] {a b : α} (h : p) : (bif decide p then a else b) = a := by simp [h]
theorem zkB {p : Prop} [Decidable p] {a b : α} (h : ¬ p) : (bif decide p then a else b) = b := by simp [h]
theorem zrZ {body : σ → Option (σ ⊕ β)} (st : Nat → σ) (n : Nat) (hn : n < 1099511627776) (b : β) (h : ∀ k, k < n → body (st k) = some (.inl (st (k + 1)))) (he : body (st n) = some (.inr b)) : iter body (st 0) = some b := by
 have key : ∀ j k, k ≤ n → n - k < j → ztZ body j (st k) = some b := by
  intro j
  induction j with
  | zero => intro k _ h; omega
  | succ j ih =>
   intro k hk hj
   by_cases e : k = n
   ·subst e; exact zeS he
   ·rw [zfP (h k (by omega))]; exact ih (k + 1) (by omega) (by omega)
 exact key FU 0 (by omega) (by unfold FU; omega)
end
theorem ztW (u : Nat) : Lib.decDigits u = if u < 10 then [UInt8.ofNat (48 + u)] else Lib.decDigits (u / 10) ++ [UInt8.ofNat (48 + u % 10)] := by
 rw [Lib.decDigits]
 by_cases h : u < 10
 ·rw [dif_pos h, if_pos h]
 ·rw [dif_neg h, if_neg h]
theorem yhL {d : Nat} (h : d < 10) : (UInt8.ofNat (48 + d)).toNat = 48 + d := by
 simp [UInt8.toNat_ofNat]; omega
theorem zzJ : ∀ (u : Nat), ∀ b ∈ Lib.decDigits u, 48 ≤ b.toNat ∧ b.toNat ≤ 57 := by
 intro u
 induction u using Nat.strongRecOn with
 | _ u ih =>
  intro b hb
  rw [ztW] at hb
  by_cases h : u < 10
  ·rw [if_pos h] at hb
   simp only [List.mem_singleton] at hb
   rw [hb, yhL h]; omega
  ·rw [if_neg h] at hb
   rcases List.mem_append.1 hb with hb | hb
   ·exact ih (u / 10) (by omega) b hb
   ·simp only [List.mem_singleton] at hb
    rw [hb, yhL (by omega)]; omega
theorem yqY (u : Nat) : Lib.decDigits u ≠ [] := by
 rw [ztW]
 by_cases h : u < 10 <;> simp [h]
theorem yhD : ∀ (u : Nat), u ≠ 0 → ∃ b l, Lib.decDigits u = b :: l ∧ b ≠ 48 := by
 intro u
 induction u using Nat.strongRecOn with
 | _ u ih =>
  intro hu
  rw [ztW]
  by_cases h : u < 10
  ·rw [if_pos h]
   refine ⟨_, _, rfl, fun e => ?_⟩
   have := congrArg UInt8.toNat e
   rw [yhL h] at this
   have : 48 + u = 48 := this
   omega
  ·rw [if_neg h]
   obtain ⟨b, l, h1, h2⟩ := ih (u / 10) (by omega) (by omega)
   exact ⟨b, l ++ _, by rw [h1]; rfl, h2⟩
theorem zkV : ∀ (k u : Nat), 0 < k → u < 10 ^ k → (Lib.decDigits u).length ≤ k
 | 0, _, h, _ => absurd h (Nat.lt_irrefl 0)
 | k + 1, u, _, h => by
  rw [ztW]
  by_cases hu : u < 10
  ·rw [if_pos hu]; simp
  ·rw [if_neg hu]
   have hk : 0 < k := by
    rcases Nat.eq_zero_or_pos k with rfl | hk
    ·rw [Nat.zero_add, Nat.pow_one] at h; omega
    ·exact hk
   have := zkV k (u / 10) hk (by rw [Nat.pow_succ] at h; omega)
   simp; omega
theorem ydW {b : UInt8} (hb : 48 ≤ b.toNat ∧ b.toNat ≤ 57) : ∀ (l : Bs) (acc v : Nat), Lib.parseUint10 acc l = .ok v → v < 1844674407370955161 → Lib.parseUint10 acc (l ++ [b]) = .ok (v * 10 + (b.toNat - 48))
 | [], acc, v, h, hv => by
  simp only [Lib.parseUint10] at h
  cases h
  simp only [List.nil_append, Lib.parseUint10]
  rw [if_pos hb, if_neg (by omega), if_neg (by omega)]
 | c :: l, acc, v, h, hv => by
  simp only [List.cons_append, Lib.parseUint10] at h ⊢
  split at h
  ·rename_i h1
   split at h
   ·cases h
   ·rename_i h2
    split at h
    ·cases h
    ·rename_i h3
     rw [if_pos h1, if_neg h2, if_neg h3]
     exact ydW hb l _ v h hv
  ·cases h
theorem yhM : ∀ (u : Nat), u < 9223372036854775808 → Lib.parseUint10 0 (Lib.decDigits u) = .ok u := by
 intro u
 induction u using Nat.strongRecOn with
 | _ u ih =>
  intro hu
  rw [ztW]
  by_cases h : u < 10
  ·rw [if_pos h]
   have e := yhL h
   simp only [Lib.parseUint10]
   rw [if_pos (by rw [e]; omega), if_neg (by omega), if_neg (by rw [e]; omega), e]
   congr 1; omega
  ·rw [if_neg h]
   have e := yhL (show u % 10 < 10 by omega)
   rw [ydW (by rw [e]; omega) _ _ _ (ih (u / 10) (by omega) (by omega)) (by omega), e]
   congr 1; omega
theorem yvI (u : Nat) (hu : u < 9223372036854775808) : Lib.atoiAll (Lib.decDigits u) = .ok (u : Int) := by
 have hne := yqY u
 cases hl : Lib.decDigits u with
 | nil => exact absurd hl hne
 | cons c r =>
  have hc := zzJ u c (by rw [hl]; exact List.mem_cons_self)
  have hp := yhM u hu
  rw [hl] at hp
  unfold Lib.atoiAll
  simp only
  rw [if_neg (by omega)]
  unfold Lib.parseMag
  rw [if_neg (by simp), hp]
  simp only
  rw [if_neg (by omega), if_neg (by omega), if_neg (by omega)]
theorem yhJ (u : Nat) (hu : u < 1000000000000000) : ygU (Lib.decDigits u) = some ((u : Int), false) := by
 have hl := zkV 15 u (by decide) hu
 unfold ygU
 rw [decide_eq_true (show (Lib.decDigits u).length ≤ 9223372036854775806 by omega), yvI u (by omega)]
 rfl
theorem ybB (u : Nat) (hu : u < 9223372036854775808) : yiJ (u : Int) = some (Lib.decDigits u) := by
 unfold yiJ ywB
 rw [decide_eq_true (show (-9223372036854775808 : Int) ≤ (u : Int) by omega), decide_eq_true (show (u : Int) ≤ 9223372036854775807 by omega)]
 simp only [Bool.and_self, cond_true]
 rw [decide_eq_false (show ¬ (u : Int) < 0 by omega)]
 simp only [cond_false, Int.toNat_natCast]
 rw [yeK 20 u (by omega) (by decide)]
abbrev tenL : Bs := [48, 49, 50, 51, 52, 53, 54, 55, 56, 57]
theorem yzQ {b : UInt8} (h : 48 ≤ b.toNat ∧ b.toNat ≤ 57) : tenL.contains b = true := by
 have e : b = UInt8.ofNat b.toNat := by simp
 rw [e]
 rcases (by omega : b.toNat = 48 ∨ b.toNat = 49 ∨ b.toNat = 50 ∨ b.toNat = 51 ∨ b.toNat = 52 ∨ b.toNat = 53 ∨ b.toNat = 54 ∨ b.toNat = 55 ∨ b.toNat = 56 ∨ b.toNat = 57) with h | h | h | h | h | h | h | h | h | h <;> rw [h] <;> decide
theorem ygH {p : UInt8 → Bool} : ∀ {l : Bs}, (∀ b ∈ l, p b = true) → l.dropWhile p = []
 | [], _ => rfl
 | b :: l, h => by
  rw [List.dropWhile_cons, if_pos (h b List.mem_cons_self)]
  exact ygH fun b hb => h b (List.mem_cons_of_mem _ hb)
theorem ykH {l : Bs} (h : ∀ b ∈ l, 48 ≤ b.toNat ∧ b.toNat ≤ 57) : Lib.trimS l tenL = [] := by
 have h2 : l.reverse.dropWhile (tenL.contains ·) = [] := ygH fun b hb => yzQ (h b (List.mem_reverse.1 hb))
 unfold Lib.trimS Lib.trimRightS
 rw [h2]; rfl
theorem yhT (u : Nat) (hu : u < 1000000000000000) : ycS (Lib.decDigits u) tenL = some [] := by
 have hl := zkV 15 u (by decide) hu
 unfold ycS
 rw [decide_eq_true (show (Lib.decDigits u).length ≤ 9223372036854775807 by omega), decide_eq_true (show tenL.length < 4294967281 by decide), show tenL.all (fun b => decide (b.toNat < 128)) = true by decide]
 simp only [Bool.and_self, cond_true]
 rw [ykH (zzJ u)]
theorem ydA (b : UInt8) (l sub : Bs) : Lib.index (b :: l) sub = if sub.isPrefixOf (b :: l) = true then 0 else (if Lib.index l sub = -1 then -1 else Lib.index l sub + 1) := by
 rw [Lib.index]
 split <;> simp_all
theorem yeB {m : UInt8} {r : Bs} : ∀ {d : Bs}, m ∉ d → Lib.index (d ++ m :: r) [m] = (d.length : Int)
 | [], _ => by
  rw [List.nil_append, ydA, if_pos (by simp [List.isPrefixOf])]; rfl
 | b :: d, h => by
  have hb : b ≠ m := fun e => h (by rw [e]; exact List.mem_cons_self)
  have ih := yeB (r := r) (d := d) fun hm => h (List.mem_cons_of_mem _ hm)
  rw [List.cons_append, ydA, if_neg (by simp [List.isPrefixOf]; exact fun e => hb e.symm), ih, if_neg (by omega)]
  simp
theorem ywQ {m : UInt8} {d r : Bs} (h : m ∉ d) : Lib.cut (d ++ m :: r) [m] = (d, r, true) := by
 unfold Lib.cut
 rw [yeB h, if_pos (by omega)]
 simp [List.take_append, List.drop_append]
theorem ynX (u : Nat) : (58 : UInt8) ∉ Lib.decDigits u := fun h => by
 have := zzJ u _ h
 have e : (58 : UInt8).toNat = 58 := rfl
 omega
theorem yuH (u : Nat) (r : Bs) (h : (Lib.decDigits u ++ 58 :: r).length < 4294967281) : cutP (Lib.decDigits u ++ 58 :: r) [58] = some (Lib.decDigits u, r, true) := by
 unfold cutP
 rw [decide_eq_true h, ywQ (ynX u)]; rfl
def zeZ : List Bs → Bs
 | [] => []
 | t :: ts => Lib.decDigits t.length ++ 58 :: (t ++ zeZ ts)
end Go.Proofs.YtebbcofojchkpaaGreatDoor
