/- A machine over plain values: regions whose order is open. A machine over plain values: what it computes of a function's code, the call answers. A machine over plain values: contracts of functions whose arguments and results are numbers, bools and texts. Some functions of Go's library: what they compute, and that they do. Conditions: as each theorem says. -/
import Derived.Shelf.Strings.SlTrimAscii
import Derived.Test.YtmkomlbiaebddaaGreatDoorQlI
namespace Go.Proofs.YtmkomlbiaebddaaGreatDoor
open Go Go.RowKit
end Go.Proofs.YtmkomlbiaebddaaGreatDoor
namespace Go.Proofs.YtmkomlbiaebddaaGreatDoor.Am
open Go Go.RowKit
theorem hasN_eq : ∀ (l : List Nat) (t : Nat), hasN l t = l.contains t
 | [], _ => rfl
 | x :: l, t => by
  rw [hasN, hasN_eq l t, List.contains_cons, nat_beq]
  congr 1
  by_cases h : x = t
  ·subst h; simp
  ·have h2 : ¬ t = x := fun e => h e.symm
   simp [h, h2]
def Agr (D : List Nat) (m m' : FM) : Prop := ∀ t, hasN D t = false → look m' t = look m t
theorem Agr.refl (D : List Nat) (m : FM) : Agr D m m := fun _ _ => rfl
theorem Agr.trans {D : List Nat} {a b c : FM} (h : Agr D a b) (k : Agr D b c) : Agr D a c := fun t ht => (k t ht).trans (h t ht)
theorem Agr.put {D : List Nat} {m : FM} {d : Nat} {v : Value} (h : hasN D d = true) : Agr D m ((d, v) :: m) := fun t ht => by
 show (bif Nat.beq d t then v else look m t) = _
 cases hb : Nat.beq d t with
 | true => rw [Nat.eq_of_beq_eq_true hb] at h; rw [h] at ht; cases ht
 | false => rfl
theorem hasN_app (a b : List Nat) (t : Nat) : hasN (a ++ b) t = (hasN a t || hasN b t) := by
 induction a with
 | nil => rfl
 | cons x a ih => simp only [List.cons_append, hasN, ih, Bool.or_assoc]
theorem Agr.l {a b : List Nat} {m m' : FM} (h : Agr a m m') : Agr (a ++ b) m m' := fun t ht => h t (by rw [hasN_app, Bool.or_eq_false_iff] at ht; exact ht.1)
theorem Agr.r {a b : List Nat} {m m' : FM} (h : Agr b m m') : Agr (a ++ b) m m' := fun t ht => h t (by rw [hasN_app, Bool.or_eq_false_iff] at ht; exact ht.2)
theorem dstsL_cons {o : Oper} {l : List Oper} {t : Nat} (h : hasN (dstsL l) t = true) : hasN (dstsL (o :: l)) t = true := by
 unfold dstsL
 cases o.dst with
 | none => exact h
 | some d => simp [hasN, h]
theorem dstsL_head {o : Oper} {l : List Oper} {d : Nat} (h : o.dst = some d) : hasN (dstsL (o :: l)) d = true := by
 unfold dstsL; rw [h]; simp [hasN]
theorem dstsL_drop : ∀ (k : Nat) (l : List Oper) {t : Nat}, hasN (dstsL (l.drop k)) t = true → hasN (dstsL l) t = true
 | 0, _, _, h => h
 | _ + 1, [], _, h => h
 | k + 1, o :: l, _, h => dstsL_cons (dstsL_drop k l h)
theorem dstsL_take : ∀ (k : Nat) (l : List Oper) {t : Nat}, hasN (dstsL (l.take k)) t = true → hasN (dstsL l) t = true
 | 0, _, _, h => by simp [dstsL, hasN] at h
 | _ + 1, [], _, h => h
 | k + 1, o :: l, t, h => by
  simp only [List.take_succ_cons, dstsL] at h ⊢
  cases hd : o.dst with
  | none => rw [hd] at h; exact dstsL_take k l h
  | some d =>
   rw [hd] at h
   simp only [hasN, Bool.or_eq_true] at h ⊢
   exact h.imp id (dstsL_take k l)
theorem Agr.mono {D D' : List Nat} {m m' : FM} (h : Agr D m m') (hd : ∀ t, hasN D t = true → hasN D' t = true) : Agr D' m m' := fun t ht => h t (by
 cases hb : hasN D t with
 | true => rw [hd t hb] at ht; cases ht
 | false => rfl)
section
variable {n : Nat} {m : FM} {o : Oper}
theorem wanted_none (hg : o.guard = none) {y : Nat → Option Bool} : Region.wanted o y = true := by simp only [Region.wanted, hg]
theorem gslot_ok {all : List Oper} {j d : Nat} {t : Bool} (h : gslot all j = some d) (hv : Go.Proofs.YtmkomlbiaebddaaGreatDoor.ev n m (.tmp d) = .bool t) : yielded all.toArray (fr n m).tmps j = some t := by
 rw [yielded_fr, gvl_eq]
 unfold gslot at h
 split at h
 ·rename_i o ho
  refine gvl_at ?_ h hv
  rw [lko_eq, ← atN_eq]; exact ho
 ·cases h
theorem gslot_no {all : List Oper} {j d : Nat} (h : gslot all j = some d) (hv : Go.Proofs.YtmkomlbiaebddaaGreatDoor.ev n m (.tmp d) = undef) : yielded all.toArray (fr n m).tmps j = none := by
 rw [yielded_fr, gvl_eq]
 unfold gslot at h
 split at h
 ·rename_i o ho
  have ho2 : lko all j = some o := by rw [lko_eq, ← atN_eq]; exact ho
  unfold gvl; rw [ho2]
  obtain ⟨dst, _, _, _, _, _⟩ := o
  simp only at h
  subst h
  simp only [gvo, hv]
  rfl
 ·cases h
theorem wanted_no {j : Nat} {b : Bool} {y : Nat → Option Bool} (hg : o.guard = some (j, b)) (hy : y j = none) : Region.wanted o y = false := by
 simp only [Region.wanted, hg, hy]
 cases b <;> rfl
theorem wanted_some {j : Nat} {b t : Bool} {y : Nat → Option Bool} (hg : o.guard = some (j, b)) (hy : y j = some t) : Region.wanted o y = (t == b) := by
 simp only [Region.wanted, hg, hy]
 cases t <;> cases b <;> rfl
end
section
variable {β : Type} {τ : TE} {Γ : CT} {n : Nat} {P : Program} {B : Bas} {S : Mem} {E : List EI} {L : List Res} {σ : St} {m : FM} {w : World} {ops : Array Oper} {Q : Exit → Act → World → Prop} {rest : List Oper} {o : Oper}
theorem wl_do {Rv : Value → World → Prop} (hg : Region.wanted o (yielded ops (fr n m).tmps) = true) (h : outcome P Rv ((execOp (Go.Proofs.YtmkomlbiaebddaaGreatDoor.ev n m) o).run P w)) (hK : ∀ v w', Rv v w' → wpList P ops Q rest ((fr n m).put o.dst v) w') :
  wpList P ops Q (o :: rest) (fr n m) w := by
 unfold wpList; rw [if_pos hg]; exact .inl (outcome_wp (by rw [eval_fr]; exact h) hK)
theorem wl_skip (hg : Region.wanted o (yielded ops (fr n m).tmps) = false) (h : wpList P ops Q rest ((fr n m).put o.dst undef) w) : wpList P ops Q (o :: rest) (fr n m) w := by
 unfold wpList; rw [if_neg (by rw [hg]; simp)]; exact h
theorem putD_ok (R : Rel n B S E L σ m w) {d : Option Nat} {x : SV} {v : Value} {k : St → Option β} {r : β} (hx : VR S E x v) (h : putD n d x σ k = some r) : ∃ σ' m', k σ' = some r ∧ Rel n B S E L σ' m' w ∧ (fr n m).put d v = fr n m' ∧ ∀ D, (∀ t, d = some t → hasN D t = true) → Agr D m m' := by
 cases d with
 | none => exact ⟨σ, m, h, R, put_fr_none _ _ _, fun D _ => Agr.refl D m⟩
 | some d =>
  obtain ⟨hd, h⟩ := bif_none h
  exact ⟨_, _, h, R.put hx hd, put_fr _ _ _ _, fun D hD => Agr.put (hD d rfl)⟩
theorem steps_ok (hτ : TEok P τ) (hΓ : CTok P Γ B) {all : List Oper} {k : St → Option β} {r : β} {S0 : Mem} {E0 : List EI} {m0 : FM} {D : List Nat} (hQ : ∀ σ' S' E' L' m' w', k σ' = some r → Mem.le S0 S' → ELe E0 E' → Agr D m0 m' → Rel n B S' E' L' σ' m' w' → Q .normal (fr n m') w') :
  ∀ (l : List Oper) {σ : St} {S : Mem} {E : List EI} {L : List Res} {m : FM} {w : World}, (∀ t, hasN (dstsL l) t = true → hasN D t = true) → Mem.le S0 S → ELe E0 E → Agr D m0 m → Rel n B S E L σ m w → steps n τ Γ all l σ k = some r → wpList P all.toArray Q l (fr n m) w
 | [], σ, S, E, L, m, w, _, hS, hE, hA, R, h => hQ _ _ _ _ _ _ h hS hE hA R
 | o :: l, σ, S, E, L, m, w, hD, hS, hE, hA, R, h => by
  have hD' : ∀ t, hasN (dstsL l) t = true → hasN D t = true := fun t h => hD t (dstsL_cons h)
  have hd' : ∀ t, o.dst = some t → hasN D t = true := fun t h => hD t (dstsL_head h)
  have doIt : ∀ {σ : St}, Rel n B S E L σ m w → Region.wanted o (yielded all.toArray (fr n m).tmps) = true → (op2 τ Γ σ o.op o.type fun x σ => putD n o.dst x σ fun σ => steps n τ Γ all l σ k) = some r → wpList P all.toArray Q (o :: l) (fr n m) w := fun {σ} R hw h => by
   obtain ⟨dst, op, ty, pos, aft, g⟩ := o
   refine wl_do hw (op2_ok hτ hΓ R h) ?_
   rintro v w' ⟨x, σ', S', E', L', h1, h2, h3, R', h4⟩
   obtain ⟨σ2, m2, h5, R2, h6, h7⟩ := putD_ok R' h4 h1
   show wpList P all.toArray Q l ((fr n m).put dst v) w'
   rw [h6]
   exact steps_ok hτ hΓ hQ l hD' (Mem.le_trans hS h2) (hE.trans h3) (hA.trans (h7 D hd')) R2 h5
  have skip : ∀ {σ : St}, Rel n B S E L σ m w → Region.wanted o (yielded all.toArray (fr n m).tmps) = false → (putD n o.dst .skp σ fun σ => steps n τ Γ all l σ k) = some r → wpList P all.toArray Q (o :: l) (fr n m) w := fun {σ} R hw h => by
   obtain ⟨σ2, m2, h5, R2, h6, h7⟩ := putD_ok R (v := undef) (x := .skp) rfl h
   refine wl_skip hw ?_
   rw [h6]
   exact steps_ok hτ hΓ hQ l hD' hS hE (hA.trans (h7 D hd')) R2 h5
  unfold steps at h
  split at h
  ·rename_i hg
   exact doIt R (wanted_none hg) h
  ·rename_i j b hg
   split at h
   ·rename_i d hd
    split at h
    ·rename_i t ht
     have hv : Go.Proofs.YtmkomlbiaebddaaGreatDoor.ev n m (.tmp d) = .bool t := vB (by have := R.sl d; rw [ht] at this; exact this)
     have hw := wanted_some (o := o) hg (gslot_ok (m := m) (n := n) hd hv)
     have Rt : ∀ q : Bool, t = q → Rel n B S E L (σ.put d (.v .b q)) m w := fun q hq => R.re (by rw [hv, hq]; exact bV q)
     cases t with
     | true =>
      cases b with
      | true => exact doIt (Rt true rfl) hw h
      | false => exact skip (Rt true rfl) hw h
     | false =>
      cases b with
      | true => exact skip (Rt false rfl) hw h
      | false => exact doIt (Rt false rfl) hw h
    ·rename_i ht
     have hv : Go.Proofs.YtmkomlbiaebddaaGreatDoor.ev n m (.tmp d) = undef := by have := R.sl d; rw [ht] at this; exact this
     exact skip R (wanted_no hg (gslot_no (m := m) (n := n) hd hv)) h
    ·cases h
   ·cases h
theorem wpT_fin {Φ : Kinds} {nh : Nat} {W : World} {vs : Nat → Gv} {F G : Act → Prop} (hfg : ∀ a, F a → G a) : ∀ (l : List Oper) (i : Nat) (a : Act), wpT P ops nh Φ W vs F i l a → wpT P ops nh Φ W vs G i l a
 | [], _, a, h => hfg a h
 | o :: l, i, a, h => by
  unfold wpT at h ⊢
  cases hk : Φ i with
  | none => rw [hk] at h; obtain ⟨c, h1, h2⟩ := h; exact ⟨c, h1, wpT_fin hfg l _ _ h2⟩
  | some q =>
   rw [hk] at h
   cases q with
   | inl c => obtain ⟨h1, h2, h3⟩ := h; exact ⟨h1, h2, wpT_fin hfg l _ _ h3⟩
   | inr φ => obtain ⟨h1, h2, h3, h4, h5⟩ := h; exact ⟨h1, h2, h3, h4, wpT_fin hfg l _ _ h5⟩
end
section
variable {S : Mem} {E : List EI}
theorem sval_ok {x : SV} {c u : Value} (h : sval x = some c) (hx : VC S E x u) : u = c := by
 unfold sval at h
 split at h <;> cases h
 ·exact vI (VR.ofC hx)
 ·exact vB (VR.ofC hx)
 ·exact vS (VR.ofC hx)
 ·exact hx
 ·exact hx
theorem sval_is {x : SV} {c : Value} (h : sval x = some c) : VC S E x c := by
 unfold sval at h
 split at h <;> cases h
 ·exact (rfl : [_] = [_])
 ·exact (rfl : [_] = [_])
 ·exact (rfl : [_] = [_])
 ·rfl
 ·rfl
theorem sval_noag {x : SV} {c : Value} (h : sval x = some c) : noag x = true ∧ notu x = true := by
 unfold sval at h
 split at h <;> cases h <;> exact ⟨rfl, rfl⟩
theorem svals_ok : ∀ {l : List SV} {cs us : List Value}, svals l = some cs → A2 (VC S E) l us → us = cs
 | [], _, _, h, .nil => by cases h; rfl
 | x :: l, _, _, h, .cons a r => by
  unfold svals at h
  split at h
  ·rename_i h1 h2; cases h; rw [sval_ok h1 a, svals_ok h2 r]
  ·cases h
theorem svals_is : ∀ {l : List SV} {cs : List Value}, svals l = some cs → A2 (VC S E) l cs
 | [], _, h => by cases h; exact .nil
 | x :: l, _, h => by
  unfold svals at h
  split at h
  ·rename_i h1 h2; cases h; exact .cons (sval_is h1) (svals_is h2)
  ·cases h
theorem svalA_ok {x : SV} {c u : Value} (h : svalA x = some c) (hx : VA (VC S E) x u) : u = c := by
 unfold svalA at h
 split at h
 ·split at h
  ·rename_i us h1; cases h; obtain ⟨ws, hw, hx⟩ := hx; rw [hw, svals_ok h1 hx]
  ·cases h
 ·exact sval_ok h (hx.b (sval_noag h).1)
theorem svalA_is {x : SV} {c : Value} (h : svalA x = some c) : VA (VC S E) x c := by
 unfold svalA at h
 split at h
 ·split at h
  ·rename_i us h1; cases h; exact ⟨us, rfl, svals_is h1⟩
  ·cases h
 ·exact VA.of (sval_is h) (sval_noag h).1
theorem svalAs_ok : ∀ {l : List SV} {cs us : List Value}, svalAs l = some cs → A2 (VA (VC S E)) l us → us = cs
 | [], _, _, h, .nil => by cases h; rfl
 | x :: l, _, _, h, .cons a r => by
  unfold svalAs at h
  split at h
  ·rename_i h1 h2; cases h; rw [svalA_ok h1 a, svalAs_ok h2 r]
  ·cases h
theorem svalAs_is : ∀ {l : List SV} {cs : List Value}, svalAs l = some cs → A2 (VA (VC S E)) l cs
 | [], _, h => by cases h; exact .nil
 | x :: l, _, h => by
  unfold svalAs at h
  split at h
  ·rename_i h1 h2; cases h; exact .cons (svalA_is h1) (svalAs_is h2)
  ·cases h
theorem svalA_notu {x : SV} {c : Value} (h : svalA x = some c) : notu x = true := by
 unfold svalA at h
 split at h
 ·rfl
 ·exact (sval_noag h).2
theorem svalR_ok {x : SV} {c u : Value} (h : svalR x = some c) (hx : VR S E x u) : u = c := by
 unfold svalR at h
 split at h
 ·split at h
  ·rename_i us h1; cases h; obtain ⟨ws, hw, hx⟩ := hx; rw [hw, svalAs_ok h1 hx]
  ·cases h
 ·exact svalA_ok h (hx.b (svalA_notu h))
theorem svalR_is {x : SV} {c : Value} (h : svalR x = some c) : VR S E x c := by
 unfold svalR at h
 split at h
 ·split at h
  ·rename_i us h1; cases h; exact ⟨us, rfl, svalAs_is h1⟩
  ·cases h
 ·exact VR.of (svalA_is h)
end
section
variable {β : Type} {τ : TE} {Γ : CT} {n nh : Nat} {P : Program} {B : Bas} {S : Mem} {E : List EI} {L : List Res} {σ : St} {m : FM} {W : World} {ops : Array Oper} {all : List Oper} {Φ : Kinds} {vs : Nat → Gv} {D : List (Nat × Nat)}
def Inv (n : Nat) (S : Mem) (E : List EI) (W : World) (Φ : Kinds) (vs : Nat → Gv) (sl : List (Nat × SV)) (D : List (Nat × Nat)) (m : FM) : Prop := ∀ t, match lkD D t with
 | none => VR S E (lkS sl t) (Go.Proofs.YtmkomlbiaebddaaGreatDoor.ev n m (.tmp t))
 | some j => relK Φ j = true ∧ ∀ w', factAt Φ vs w' j → VR (gf S W (vs j).f w') E (lkS sl t) (Go.Proofs.YtmkomlbiaebddaaGreatDoor.ev n m (.tmp t))
theorem lkD_del : ∀ (D : List (Nat × Nat)) (d t : Nat), lkD (delD D d) t = if d = t then none else lkD D t
 | [], d, t => by simp [delD, lkD]
 | (x, j) :: D, d, t => by
  have ih := lkD_del D d t
  unfold delD
  cases hx : Nat.beq x d with
  | true =>
   have := Nat.eq_of_beq_eq_true hx; subst this
   simp only [cond_true, ih, lkD]
   by_cases h : x = t
   ·simp [h]
   ·rw [if_neg h, if_neg h]
    have : Nat.beq x t = false := by rw [nat_beq]; simp [h]
    rw [this]; rfl
  | false =>
   simp only [cond_false, lkD, ih]
   cases hy : Nat.beq x t with
   | true =>
    have h1 := Nat.eq_of_beq_eq_true hy; subst h1
    have h2 : d ≠ x := fun e => by subst e; rw [nat_beq] at hx; simp at hx
    simp [h2]
   | false => rfl
theorem mask_lk (deps : List Nat) : ∀ (D : List (Nat × Nat)) (sl : List (Nat × SV)) (t : Nat), lkS (mask deps D sl) t = .undef ∨ (lkS (mask deps D sl) t = lkS sl t ∧ ∀ j, lkD D t = some j → hasN deps j = true)
 | [], sl, t => .inr ⟨rfl, fun j h => by cases h⟩
 | (d, j) :: D, sl, t => by
  unfold mask
  cases hj : hasN deps j with
  | true =>
   rcases mask_lk deps D sl t with h | ⟨h1, h2⟩
   ·exact .inl h
   ·refine .inr ⟨h1, fun j' h => ?_⟩
    unfold lkD at h
    cases hd : Nat.beq d t with
    | true => rw [hd] at h; cases h; exact hj
    | false => rw [hd] at h; exact h2 j' h
  | false =>
   simp only [cond_false, lkS]
   cases hd : Nat.beq d t with
   | true => exact .inl rfl
   | false =>
    rcases mask_lk deps D sl t with h | ⟨h1, h2⟩
    ·exact .inl h
    ·refine .inr ⟨h1, fun j' h => ?_⟩
     unfold lkD at h; rw [hd] at h; exact h2 j' h
theorem Inv.rel {deps : List Nat} {w : World} (hH : HS B S W L) (hl : L.length = σ.hp.length) (hE : E.length = σ.hp.length) (ho : ∀ (i : Nat) o, σ.hp[i]? = some o → ∃ r e, L[i]? = some r ∧ E[i]? = some e ∧ OR S E o r e)
  (hI : Inv n S E W Φ vs σ.sl D m) (hx : Ext W w) (hF : factsL Φ vs w deps) : Rel n B (gf S W (depF Φ vs deps) w) E L ⟨mask deps D σ.sl, σ.hp⟩ m w := by
 have hle : Mem.le S (gf S W (depF Φ vs deps) w) := gf_le hH.sub
 refine ⟨hH.callF hx, hl, hE, fun i o h => ?_, fun t => ?_⟩
 ·obtain ⟨r, e, h1, h2, h3⟩ := ho i o h
  exact ⟨r, e, h1, h2, h3.mono hle (ELe.refl E)⟩
 ·show VR _ E (lkS (mask deps D σ.sl) t) _
  rcases mask_lk deps D σ.sl t with h | ⟨h1, h2⟩
  ·rw [h]; trivial
  ·rw [h1]
   have := hI t
   cases hd : lkD D t with
   | none => rw [hd] at this; exact this.mono hle (ELe.refl E)
   | some j =>
    rw [hd] at this
    obtain ⟨h3, h4⟩ := this
    have h5 := h2 j hd
    rw [hasN_eq] at h5
    exact (h4 w (factsL_get hF j h5)).mono (dep_le h5 h3) (ELe.refl E)
theorem Inv.put {d : Nat} {x : SV} {v : Value} (hI : Inv n S E W Φ vs σ.sl D m) (hd : Nat.blt d n = true) (hx : VR S E x v) : Inv n S E W Φ vs (σ.put d x).sl (delD D d) ((d, v) :: m) := fun t => by
 have := hI t
 rw [lkD_del]
 show match (if d = t then none else lkD D t) with
  | none => VR S E (bif Nat.beq d t then x else lkS σ.sl t) (bif Nat.blt t n then (bif Nat.beq d t then v else look m t) else undef)
  | some j => relK Φ j = true ∧ ∀ w', factAt Φ vs w' j → VR (gf S W (vs j).f w') E (bif Nat.beq d t then x else lkS σ.sl t) (bif Nat.blt t n then (bif Nat.beq d t then v else look m t) else undef)
 by_cases h : d = t
 ·subst h
  rw [if_pos rfl]
  simp only [Nat.beq_refl, cond_true, hd]
  exact hx
 ·rw [if_neg h]
  have hb : Nat.beq d t = false := by rw [nat_beq]; simp [h]
  simp only [hb, cond_false]
  exact this
theorem Inv.putR {d i : Nat} {x : SV} (hI : Inv n S E W Φ vs σ.sl D m) (hd : Nat.blt d n = true) (hk : relK Φ i = true) (hx : ∀ w', factAt Φ vs w' i → VR (gf S W (vs i).f w') E x (vs i).v) : Inv n S E W Φ vs (σ.put d x).sl ((d, i) :: delD D d) ((d, (vs i).v) :: m) := fun t => by
 have := hI t
 show match (bif Nat.beq d t then some i else lkD (delD D d) t) with
  | none => VR S E (bif Nat.beq d t then x else lkS σ.sl t) (bif Nat.blt t n then (bif Nat.beq d t then (vs i).v else look m t) else undef)
  | some j => relK Φ j = true ∧ ∀ w', factAt Φ vs w' j → VR (gf S W (vs j).f w') E (bif Nat.beq d t then x else lkS σ.sl t) (bif Nat.blt t n then (bif Nat.beq d t then (vs i).v else look m t) else undef)
 cases hb : Nat.beq d t with
 | true =>
  have := Nat.eq_of_beq_eq_true hb; subst this
  simp only [cond_true, hd]
  exact ⟨hk, hx⟩
 | false =>
  have h : d ≠ t := fun e => by subst e; rw [Nat.beq_refl] at hb; cases hb
  simp only [cond_false, lkD_del, if_neg h]
  exact this
theorem Inv.re {d : Nat} {x : SV} (hI : Inv n S E W Φ vs σ.sl D m) (hd : lkD D d = none) (hx : VR S E x (Go.Proofs.YtmkomlbiaebddaaGreatDoor.ev n m (.tmp d))) : Inv n S E W Φ vs (σ.put d x).sl D m := fun t => by
 have := hI t
 show match lkD D t with
  | none => VR S E (bif Nat.beq d t then x else lkS σ.sl t) _
  | some j => relK Φ j = true ∧ ∀ w', factAt Φ vs w' j → VR (gf S W (vs j).f w') E (bif Nat.beq d t then x else lkS σ.sl t) _
 cases hb : Nat.beq d t with
 | true =>
  have := Nat.eq_of_beq_eq_true hb; subst this
  rw [hd]; exact hx
 | false => exact this
def HGood (P : Program) (X : Kinds → Prop) (ops : Array Oper) (nh : Nat) (n : Nat) (S : Mem) (E : List EI) (W : World) (k : St → Option β) (r : β) (hp : List AO) (i : Nat) (l : List Oper) (σ : St) (D : List (Nat × Nat)) : Prop :=
 ∃ K : Nat → Option (Sum Value (Gv → World → Prop)), ∀ (Φ : Kinds), X Φ → (∀ j, i ≤ j → j < i + l.length → Φ j = K j) → ∀ (vs : Nat → Gv) (m : FM), Inv n S E W Φ vs σ.sl D m → (∀ t j, lkD D t = some j → j < i) →
  wpT P ops nh Φ W vs (fun a' => ∃ σ' D' m', a' = fr n m' ∧ k σ' = some r ∧ σ'.hp = hp ∧ Inv n S E W Φ vs σ'.sl D' m' ∧ (∀ t j, lkD D' t = some j → j < i + l.length) ∧ Agr (dstsL l) m m') i l (fr n m)
theorem lkD_del_some {D : List (Nat × Nat)} {d t j : Nat} (h : lkD (delD D d) t = some j) : lkD D t = some j := by
 rw [lkD_del] at h; split at h
 ·cases h
 ·exact h
def phi (S : Mem) (E : List EI) (W : World) (x : SV) : Gv → World → Prop := fun g w' => VR (gf S W g.f w') E x g.v
theorem phi_ext {x : SV} : ∀ g w w', phi S E W x g w → Ext w w' → phi S E W x g w' := fun _ _ _ h hx => h.mono (gf_mono hx) (ELe.refl E)
theorem hput_ok {X : Kinds → Prop} {o : Oper} {l : List Oper} {i : Nat} {dst : Option Nat} {x : SV} {abs : Bool} {k : St → Option β} {r : β} {f : St → List (Nat × Nat) → Option β} (hdd : o.dst = dst) (h : hput n dst x i abs σ D f = some r)
  (hf : ∀ σ' D', σ'.hp = σ.hp → f σ' D' = some r → HGood P X ops nh n S E W k r σ.hp (i + 1) l σ' D')
  (hK : ∃ c : Option (Sum Value (Gv → World → Prop)), ∀ (Φ : Kinds), X Φ → Φ i = c → ∀ (vs : Nat → Gv) (m : FM), Inv n S E W Φ vs σ.sl D m → (∀ t j, lkD D t = some j → j < i) →
   ∃ v, (∀ rest Fin, wpT P ops nh Φ W vs Fin (i + 1) rest ((fr n m).put dst v) → wpT P ops nh Φ W vs Fin i (o :: rest) (fr n m)) ∧
    ((VR S E x v ∧ (abs = true ∨ (svalR x).isSome = true)) ∨ (abs = false ∧ svalR x = none ∧ v = (vs i).v ∧ relK Φ i = true ∧ ∀ w', factAt Φ vs w' i → VR (gf S W (vs i).f w') E x (vs i).v))) :
  HGood P X ops nh n S E W k r σ.hp i (o :: l) σ D := by
 obtain ⟨c, hc⟩ := hK
 unfold hput at h
 split at h
 ·obtain ⟨K, hk⟩ := hf _ _ rfl h
  refine ⟨fun j => if j = i then c else K j, fun Φ hX hΦ vs m hI hD => ?_⟩
  have h1 : Φ i = c := by have := hΦ i (Nat.le_refl _) (by simp); rw [this]; simp
  obtain ⟨v, h2, h3⟩ := hc Φ hX h1 vs m hI hD
  refine h2 _ _ ?_
  rw [put_fr_none]
  have := hk Φ hX (fun j hj1 hj2 => by have := hΦ j (by omega) (by simp; omega); rw [this]; exact if_neg (by omega)) vs m hI (fun t j h => Nat.lt_succ_of_lt (hD t j h))
  have e : i + (o :: l).length = i + 1 + l.length := by simp; omega
  rw [e]
  refine wpT_fin ?_ _ _ _ this
  rintro a ⟨σ', D', m', g1, g2, g3, g4, g5, g6⟩
  exact ⟨σ', D', m', g1, g2, g3, g4, g5, g6.mono fun t => dstsL_cons⟩
 ·rename_i d
  have hdst : o.dst = some d := hdd
  obtain ⟨hd, h⟩ := bif_none h
  have main : ∀ σ' D', σ'.hp = σ.hp → f σ' D' = some r → (∀ (Φ : Kinds) (vs : Nat → Gv) (m : FM) (v : Value), Inv n S E W Φ vs σ.sl D m → ((VR S E x v ∧ (abs = true ∨ (svalR x).isSome = true)) ∨ (abs = false ∧ svalR x = none ∧ v = (vs i).v ∧ relK Φ i = true ∧ ∀ w', factAt Φ vs w' i → VR (gf S W (vs i).f w') E x (vs i).v)) → Inv n S E W Φ vs σ'.sl D' ((d, v) :: m)) →
    (∀ t j, lkD D' t = some j → lkD D t = some j ∨ j = i) → HGood P X ops nh n S E W k r σ.hp i (o :: l) σ D := fun σ' D' hhp h hInv hD' => by
   obtain ⟨K, hk⟩ := hf _ _ hhp h
   refine ⟨fun j => if j = i then c else K j, fun Φ hX hΦ vs m hI hD => ?_⟩
   have h1 : Φ i = c := by have := hΦ i (Nat.le_refl _) (by simp); rw [this]; simp
   obtain ⟨v, h2, h3⟩ := hc Φ hX h1 vs m hI hD
   refine h2 _ _ ?_
   rw [put_fr]
   have := hk Φ hX (fun j hj1 hj2 => by have := hΦ j (by omega) (by simp; omega); rw [this]; exact if_neg (by omega)) vs ((d, v) :: m) (hInv Φ vs m v hI h3) (fun t j h => by
    rcases hD' t j h with h | h
    ·exact Nat.lt_succ_of_lt (hD t j h)
    ·omega)
   have e : i + (o :: l).length = i + 1 + l.length := by simp; omega
   rw [e]
   refine wpT_fin ?_ _ _ _ this
   rintro a ⟨σ', D', m', g1, g2, g3, g4, g5, g6⟩
   exact ⟨σ', D', m', g1, g2, g3, g4, g5, (Agr.put (dstsL_head hdst)).trans (g6.mono fun t => dstsL_cons)⟩
  cases ha : abs with
  | true =>
   rw [ha] at h
   refine main (σ.put d x) _ rfl h (fun Φ vs m v hI hv => ?_) (fun t j h => .inl (lkD_del_some h))
   rcases hv with ⟨hv, _⟩ | ⟨hv, _⟩
   ·exact hI.put hd hv
   ·rw [ha] at hv; cases hv
  | false =>
   rw [ha] at h
   simp only [cond_false] at h
   cases hs : svalR x with
   | some c' =>
    rw [hs] at h
    refine main (σ.put d x) _ rfl h (fun Φ vs m v hI hv => ?_) (fun t j h => .inl (lkD_del_some h))
    rcases hv with ⟨hv, _⟩ | ⟨_, hv, _⟩
    ·exact hI.put hd hv
    ·rw [hs] at hv; cases hv
   | none =>
    rw [hs] at h
    refine main (σ.put d x) _ rfl h (fun Φ vs m v hI hv => ?_) (fun t j h => ?_)
    ·rcases hv with ⟨_, hv⟩ | ⟨_, _, hv, h4, h5⟩
     ·rw [ha, hs] at hv; rcases hv with hv | hv <;> cases hv
     ·subst hv; exact hI.putR hd h4 h5
    ·unfold lkD at h
     cases hb : Nat.beq d t with
     | true => rw [hb] at h; cases h; exact .inr rfl
     | false => rw [hb] at h; exact .inl (lkD_del_some h)
end
section
variable {β : Type} {τ : TE} {σ : St} {k : SV → Option β}
theorem ob_nat {α γ : Type} (o : Option α) (f : α → SV) : Option.bind o (fun x => k (f x)) = Option.bind (Option.bind o fun x => some (f x)) k := by cases o <;> rfl
theorem bindS_nat {f : SV → Option β} {g : SV → Option SV} (o : Option SV) (h : ∀ x, f x = (g x).bind k) : bindS o f = (bindS o g).bind k := by cases o with
 | none => rfl
 | some x => exact h x
theorem bif_nat (c : Bool) {a : Option β} {b : Option SV} (h : a = b.bind k) : (bif c then a else none) = (bif c then b else none).bind k := by cases c with
 | true => exact h
 | false => rfl
theorem eqK_nat (T : TypeId) (op : BinOp) (t : Bool) : eqK τ T op t k = (eqK τ T op t some).bind k := by
 unfold eqK
 split
 ·split <;> rfl
 ·rfl
theorem eqN_nat (T : TypeId) (op : BinOp) (t : Bool) : eqN τ T op t k = (eqN τ T op t some).bind k := by
 unfold eqN
 split
 ·split <;> rfl
 ·rfl
theorem eqM_nat (T : TypeId) (op : BinOp) (t : Bool) : eqM τ T op t k = (eqM τ T op t some).bind k := by
 unfold eqM
 split
 ·split <;> rfl
 ·rfl
theorem binAg_nat (T : TypeId) (op : BinOp) (l l' : List SV) : binAg τ T op l l' k = (binAg τ T op l l' some).bind k := by
 unfold binAg
 split
 ·refine bif_nat _ ?_
  split
  ·split <;> rfl
  ·rfl
 ·rfl
theorem bin_nat (T : TypeId) (op : BinOp) (x y : SV) : bin τ T op x y k = (bin τ T op x y some).bind k := by
 unfold bin
 split
 ·split
  ·cases isU16 _ with
   | true => rfl
   | false => exact ob_nat (γ := Unit) _ _
  ·cases isU16 _ with
   | true => rfl
   | false => exact ob_nat (γ := Unit) _ _
  ·split
   ·rfl
   ·split
    ·exact ob_nat (γ := Unit) _ _
    ·cases isU16 _ with
     | true => rfl
     | false => exact ob_nat (γ := Unit) _ _
    ·split
     ·rfl
     ·split
      ·rfl
      ·split <;> rfl
 ·split
  ·exact ob_nat (γ := Unit) _ _
  ·rfl
  ·rfl
  ·rfl
  ·rfl
  ·rfl
  ·rfl
  ·rfl
 ·split
  ·split <;> rfl
  ·rfl
 ·exact eqN_nat _ _ _
 ·exact eqN_nat _ _ _
 ·exact eqM_nat _ _ _
 ·exact eqK_nat _ _ _
 ·exact eqK_nat _ _ _
 ·exact eqK_nat _ _ _
 ·exact binAg_nat _ _ _ _
 ·rfl
theorem un_nat (op : UnOp) (x : SV) : un op x k = (un op x some).bind k := by unfold un; split <;> rfl
theorem pick_nat (t : Bool) (x y : SV) : pickSV t x y k = (pickSV t x y some).bind k := by
 unfold pickSV
 split
 ·split <;> rfl
 ·cases t <;> rfl
theorem len_nat (T : TypeId) (hp : List AO) (x : SV) (f : Int → SV) : (lenSV τ T hp x fun n => k (f n)) = (lenSV τ T hp x fun n => some (f n)).bind k := by
 unfold lenSV
 split
 ·split <;> rfl
 ·split
  ·rfl
  ·rfl
  ·rfl
  ·split
   ·exact bif_nat _ rfl
   ·rfl
  ·rfl
 ·split
  ·split <;> rfl
  ·rfl
 ·rfl
theorem deref_nat (hp : List AO) (p : SV) (sz : Nat) {f : List SV → Option β} {g : List SV → Option SV} (h : ∀ l, f l = (g l).bind k) : deref hp p sz f = (deref hp p sz g).bind k := by
 unfold deref
 split
 ·split
  ·exact h _
  ·rfl
 ·exact bif_nat _ (h _)
 ·split
  ·refine bif_nat _ ?_
   rename_i xs _
   cases idx xs _ with
   | none => rfl
   | some x => exact h _
  ·rfl
 ·rfl
theorem idxA_nat (hp : List AO) (f : TI) (x : SV) (i : Int) : idxA hp f x i k = (idxA hp f x i some).bind k := by
 unfold idxA
 split
 ·exact bif_nat _ (ob_nat (γ := Unit) _ _)
 ·split
  ·exact bif_nat _ (ob_nat (γ := Unit) _ _)
  ·rfl
 ·rfl
theorem op1b_nat (o : Op) : op1b τ σ o k = (op1b τ σ o some).bind k := by
 unfold op1b
 split
 ·split
  ·split
   ·split
    ·exact ob_nat (γ := Unit) _ _
    ·rfl
   ·split
    ·exact bif_nat _ (ob_nat (γ := Unit) _ _)
    ·exact bif_nat _ (ob_nat (γ := Unit) _ _)
    ·exact bif_nat _ (ob_nat (γ := Unit) _ _)
    ·rfl
   ·rfl
  ·rfl
 ·split
  ·refine bif_nat _ ?_
   cases isC0 _ && isC0 _ with
   | true => rfl
   | false =>
    simp only [cond_false]
    cases chk _ with
    | none => rfl
    | some u => exact ob_nat (γ := Unit) _ _
  ·exact bif_nat _ rfl
  ·rfl
 ·split
  ·split
   ·refine bindS_nat _ fun x => ?_
    split <;> rfl
   ·rfl
  ·rfl
 ·split
  ·split
   ·split
    ·split
     ·refine bif_nat _ ?_
      cases ‹Bool› <;> rfl
     ·rfl
    ·rfl
   ·rfl
  ·rfl
 ·split
  ·exact bif_nat _ rfl
  ·rfl
 ·split <;> rfl
 ·split <;> rfl
 ·rfl
theorem op1_nat (o : Op) : op1 τ σ o k = (op1 τ σ o some).bind k := by
 unfold op1
 split
 ·exact bindS_nat _ fun x => rfl
 ·exact bindS_nat _ fun x => rfl
 ·split
  ·exact bindS_nat _ fun x => bindS_nat _ fun y => pick_nat _ _ _
  ·rfl
 ·split
  ·split <;> rfl
  ·rfl
 ·exact bindS_nat _ fun x => bindS_nat _ fun y => bin_nat _ _ _ _
 ·exact bindS_nat _ fun x => un_nat _ _
 ·split
  ·rfl
  ·exact op1b_nat _
 ·exact bindS_nat _ fun x => len_nat _ _ _ _
 ·split
  ·exact bindS_nat _ fun x => deref_nat _ _ _ fun l => bindS_nat _ fun x => rfl
  ·rfl
 ·split
  ·refine bindS_nat _ fun x => ?_
   split
   ·exact bindS_nat _ fun x => rfl
   ·rfl
  ·rfl
 ·split
  ·exact bif_nat _ (bindS_nat _ fun x => bindS_nat _ fun x => rfl)
  ·rfl
 ·split
  ·refine bindS_nat _ fun x => bindS_nat _ fun i => ?_
   split
   ·exact idxA_nat _ _ _ _
   ·rfl
  ·rfl
 ·split
  ·refine bindS_nat _ fun x => bindS_nat _ fun i => ?_
   split
   ·exact ob_nat (γ := Unit) _ _
   ·rfl
  ·rfl
 ·refine bindS_nat _ fun x => ?_
  split
  ·exact bindS_nat _ fun x => rfl
  ·rfl
 ·split
  ·split
   ·split <;> rfl
   ·rfl
  ·rfl
 ·exact bindS_nat _ fun x => bindS_nat _ fun x => rfl
 ·exact op1b_nat _
theorem op1_get {o : Op} {r : β} (h : op1 τ σ o k = some r) : ∃ z, op1 τ σ o some = some z ∧ k z = some r := by
 rw [op1_nat] at h; exact bnd h
theorem op0_nat (o : Op) : op0 τ σ o k = (op0 τ σ o some).bind k := by
 unfold op0
 split
 all_goals first | exact op1_nat _ | rfl | (split <;> rfl)
theorem op0_get {o : Op} {r : β} (h : op0 τ σ o k = some r) : ∃ z, op0 τ σ o some = some z ∧ k z = some r := by
 rw [op0_nat] at h; exact bnd h
end
section
variable {β : Type} {τ : TE} {Γ : CT} {n nh : Nat} {P : Program} {B : Bas} {S : Mem} {E : List EI} {L : List Res} {σ : St} {m : FM} {W : World} {ops : Array Oper} {all : List Oper} {Φ : Kinds} {vs : Nat → Gv} {D : List (Nat × Nat)}
theorem isNew_op1 {o : Op} {k : SV → Option β} {r : β} {dst : Option Nat} {ty : TypeId} {pos : String} {aft : Array Edge} {g : Option (Nat × Bool)} (h : op1 τ σ o k = some r) : isNew ⟨dst, o, ty, pos, aft, g⟩ = false := by
 cases o <;> first | rfl | cases h
theorem hpure_ok {o : Oper} {x : SV} (hτ : TEok P τ) (hH : HS B S W L) (hl : L.length = σ.hp.length) (hE : E.length = σ.hp.length) (ho : ∀ (i : Nat) o, σ.hp[i]? = some o → ∃ r e, L[i]? = some r ∧ E[i]? = some e ∧ OR S E o r e) {i : Nat}
  (hf : floats ops nh i = false) (hw : ∀ m, Inv n S E W Φ vs σ.sl D m → Region.wanted o (yielded ops (fr n m).tmps) = true) (hx : op1 τ ⟨mask (depsOf o) D σ.sl, σ.hp⟩ o.op some = some x)
  (hΦ : Φ i = match svalR x with
   | some _ => none
   | none => some (.inr (phi S E W x))) (hI : Inv n S E W Φ vs σ.sl D m) :
  ∃ v, (∀ rest Fin, wpT P ops nh Φ W vs Fin (i + 1) rest ((fr n m).put o.dst v) → wpT P ops nh Φ W vs Fin i (o :: rest) (fr n m)) ∧
    ((VR S E x v ∧ ((false : Bool) = true ∨ (svalR x).isSome = true)) ∨ (svalR x = none ∧ v = (vs i).v ∧ relK Φ i = true ∧ ∀ w', factAt Φ vs w' i → VR (gf S W (vs i).f w') E x (vs i).v)) := by
 obtain ⟨dst, op, ty, pos, aft, g⟩ := o
 have atw : ∀ w, Ext W w → factsL Φ vs w (depsOf ⟨dst, op, ty, pos, aft, g⟩) → ∃ u, VR (gf S W (depF Φ vs (depsOf ⟨dst, op, ty, pos, aft, g⟩)) w) E x u ∧ (execOp (Go.Proofs.YtmkomlbiaebddaaGreatDoor.ev n m) ⟨dst, op, ty, pos, aft, g⟩).run P w = .ok (.value u) w := fun w hx' hF => by
  have R := Inv.rel hH hl hE ho hI hx' hF
  obtain ⟨z, u, h1, h2, h3⟩ := op1_ok (dst := dst) (ty := ty) (pos := pos) (aft := aft) (g := g) hτ R hx
  cases h1
  exact ⟨u, h2, h3 w R.hs⟩
 cases hs : svalR x with
 | some c =>
  rw [hs] at hΦ
  refine ⟨c, fun rest Fin hr => wpT_pure hΦ hf (hw m hI) (fun w hx' hF => ?_) hr, .inl ⟨svalR_is hs, .inr rfl⟩⟩
  obtain ⟨u, h1, h2⟩ := atw w hx' hF
  rw [eval_fr, h2, svalR_ok hs h1]
 | none =>
  rw [hs] at hΦ
  refine ⟨(vs i).v, fun rest Fin hr => wpT_rel hΦ hf phi_ext (hw m hI) (fun hn => by rw [isNew_op1 hx] at hn; cases hn) (fun w hx' hF R hR => ?_) hr, .inr ⟨rfl, rfl, by unfold relK; rw [hΦ], fun w' hF => ?_⟩⟩
  ·obtain ⟨u, h1, h2⟩ := atw w hx' hF
   rw [eval_fr, h2]
   refine hR ⟨u, newF (depF Φ vs (depsOf ⟨dst, op, ty, pos, aft, g⟩)) w w⟩ w (Ext.refl w) ?_ made_new (fun hn => by rw [isNew_op1 hx] at hn; cases hn)
   exact h1.mono (Mem.le_trans (gr_le (gf_sub hH.sub hx')) (gr_gf hx' (Ext.refl w))) (ELe.refl E)
  ·unfold factAt at hF; rw [hΦ] at hF; exact hF
theorem hfloat_ok {o : Oper} {x : SV} (hτ : TEok P τ) {i : Nat}
  (hf : floats ops nh i = true) (hw : ∀ m, Inv n S E W Φ vs σ.sl D m → Region.wanted o (yielded ops (fr n m).tmps) = true) (hx : op0 τ ⟨mask [] D σ.sl, σ.hp⟩ o.op some = some x) (hΦ : Φ i = none) (hI : Inv n S E W Φ vs σ.sl D m) :
  ∃ v, (∀ rest Fin, wpT P ops nh Φ W vs Fin (i + 1) rest ((fr n m).put o.dst v) → wpT P ops nh Φ W vs Fin i (o :: rest) (fr n m)) ∧ VR S E x v := by
 obtain ⟨dst, op, ty, pos, aft, g⟩ := o
 have R : ∀ y a, ev ⟨mask [] D σ.sl, σ.hp⟩ y = some a → VR S E a (Go.Proofs.YtmkomlbiaebddaaGreatDoor.ev n m y) := fun y a h => by
  cases y with
  | tmp t =>
   cases h
   show VR S E (lkS (mask [] D σ.sl) t) _
   rcases mask_lk [] D σ.sl t with h | ⟨h1, h2⟩
   ·rw [h]; trivial
   ·rw [h1]
    have := hI t
    cases hd : lkD D t with
    | none => rw [hd] at this; exact this
    | some j => have := h2 j hd; cases this
  | const c => exact ofConst_ok h
  | func f => cases h; exact ⟨[], [], rfl, .nil, .nil⟩
  | global g => cases h
 obtain ⟨z, u, h1, h2, h3⟩ := op0_ok (dst := dst) (ty := ty) (pos := pos) (aft := aft) (g := g) (C := fun _ => True) hτ R hx
 cases h1
 exact ⟨u, fun rest Fin hr => wpT_float hΦ hf (hw m hI) (fun w => by rw [eval_fr]; exact h3 w trivial) hr, h2⟩
theorem hcall_ok {y : Operand} {f : FuncId} {ash : List Operand} {at_ : Array TypeId} {dst : Option Nat} {ty : TypeId} {pos : String} {aft : Array Edge} {g : Option (Nat × Bool)} {c : PC} {xs : List SV} {a : prodD (c.ash.flatMap Sh.tys)} {z : prodD c.rts} (hc : PCB P B f c) (hH : HS B S W L) (hl : L.length = σ.hp.length) (hE : E.length = σ.hp.length) (ho : ∀ (i : Nat) o, σ.hp[i]? = some o → ∃ r e, L[i]? = some r ∧ E[i]? = some e ∧ OR S E o r e) {i : Nat}
  (hf : floats ops nh i = false) (hw : ∀ m, Inv n S E W Φ vs σ.sl D m → Region.wanted ⟨dst, .call ⟨.value y, ash.toArray, at_⟩, ty, pos, aft, g⟩ (yielded ops (fr n m).tmps) = true) (hxs : callee ⟨mask (depsOf ⟨dst, .call ⟨.value y, ash.toArray, at_⟩, ty, pos, aft, g⟩) D σ.sl, σ.hp⟩ y ash = some (f, xs))
  (ha : argPC c (bif c.rts.any hasSl then [] else σ.hp) xs = some a) (hy : c.p a = some z)
  (hΦ : Φ i = match svalR (resPC c z) with
   | some c => some (.inl c)
   | none => some (.inr (phi S E W (resPC c z)))) (hI : Inv n S E W Φ vs σ.sl D m) :
  ∃ v, (∀ rest Fin, wpT P ops nh Φ W vs Fin (i + 1) rest ((fr n m).put dst v) → wpT P ops nh Φ W vs Fin i (⟨dst, .call ⟨.value y, ash.toArray, at_⟩, ty, pos, aft, g⟩ :: rest) (fr n m)) ∧
    ((VR S E (resPC c z) v ∧ ((false : Bool) = true ∨ (svalR (resPC c z)).isSome = true)) ∨ (svalR (resPC c z) = none ∧ v = (vs i).v ∧ relK Φ i = true ∧ ∀ w', factAt Φ vs w' i → VR (gf S W (vs i).f w') E (resPC c z) (vs i).v)) := by
 generalize hO : (⟨dst, .call ⟨.value y, ash.toArray, at_⟩, ty, pos, aft, g⟩ : Oper) = O at *
 have atw : ∀ w, Ext W w → factsL Φ vs w (depsOf O) → outcome P (fun v w' => Ext w w' ∧ VR (gf S W (newF (depF Φ vs (depsOf O)) w w') w') E (resPC c z) v) ((execOp (fr n m).eval O).run P w) := fun w hx' hF => by
  have R := Inv.rel hH hl hE ho hI hx' hF
  obtain ⟨first, cap, us, hev, hus, hA⟩ := callee_ok R hxs
  have go : (Calls P f us.toArray w fun e w' => ∃ v, e = .returned v ∧ Ext w w' ∧ VR (gf S W (newF (depF Φ vs (depsOf O)) w w') w') E (resPC c z) v) → outcome P (fun v w' => Ext w w' ∧ VR (gf S W (newF (depF Φ vs (depsOf O)) w w') w') E (resPC c z) v) ((execOp (fr n m).eval O).run P w) := fun h => by
   have h2 := outcome_call (dst := dst) (g := g) (ty := ty) (pos := pos) (aft := aft) (args := ash.toArray) (at_ := at_) hc.fn hev (by simpa using hus) h
   rw [eval_fr]
   rw [hO] at h2
   exact h2
  cases hs : c.rts.any hasSl with
  | true =>
   rw [hs] at ha
   have hA2 := argPC_ok (Mem.le_refl _) ownOk_nil ha hA
   exact go ((hc.ok _ w us a z ⟨_, L, Mem.le_refl _, R.hs⟩ R.hs.sub hA2 hy).mono fun e w' ⟨hx2, v, he, hr⟩ => ⟨v, he, hx2, (resPC_ok hr.1 hr.2).mono (gr_gf hx' hx2) (ELe.refl E)⟩)
  | false =>
   rw [hs] at ha
   have hA2 := argPC_ok R.hs.sub R.own_ok ha hA
   exact go ((hc.ok (memOf w) w us a z ⟨_, L, R.hs.sub, R.hs⟩ (subMem w) hA2 hy).mono fun e w' ⟨hx2, v, he, hr⟩ => ⟨v, he, hx2, resPC_ok (repR_nosl hs hr.1) hr.2⟩)
 have hnn : isNew O = false := by subst hO; rfl
 have hd : O.dst = dst := by subst hO; rfl
 cases hs : svalR (resPC c z) with
 | some cv =>
  rw [hs] at hΦ
  refine ⟨cv, fun rest Fin hr => wpT_det hnn hΦ hf (hw m hI) (fun w hx' hF R hR => outcome_up (atw w hx' hF) fun v w' ⟨hx2, hv⟩ => by rw [svalR_ok hs hv]; exact hR w' hx2) (by rw [hd]; exact hr), .inl ⟨svalR_is hs, .inr rfl⟩⟩
 | none =>
  rw [hs] at hΦ
  refine ⟨(vs i).v, fun rest Fin hr => wpT_rel hΦ hf phi_ext (hw m hI) (fun hn => by rw [hnn] at hn; cases hn) (fun w hx' hF R hR => outcome_up (atw w hx' hF) fun v w' ⟨hx2, hv⟩ => hR ⟨v, _⟩ w' hx2 hv made_new (fun hn => by rw [hnn] at hn; cases hn)) (by rw [hd]; exact hr),
   .inr ⟨rfl, rfl, by unfold relK; rw [hΦ], fun w' hF => ?_⟩⟩
  unfold factAt at hF; rw [hΦ] at hF; exact hF
theorem hskip_ok {o : Oper} {i : Nat} (hw : ∀ m, Inv n S E W Φ vs σ.sl D m → Region.wanted o (yielded ops (fr n m).tmps) = false) (hΦ : Φ i = none) (hI : Inv n S E W Φ vs σ.sl D m) :
  ∃ v, (∀ rest Fin, wpT P ops nh Φ W vs Fin (i + 1) rest ((fr n m).put o.dst v) → wpT P ops nh Φ W vs Fin i (o :: rest) (fr n m)) ∧ VR S E .skp v :=
 ⟨undef, fun _ _ hr => wpT_skip hΦ (hw m hI) hr, rfl⟩
theorem VR_plain {S' : Mem} {E' : List EI} {x : SV} {u : Value} (hp : plainK x = true) (h : VR S E x u) (hS : Mem.le S S') : VR S' E' x u := by
 cases x with
 | v t x => exact (rpD t).mono h hS
 | nils => exact h
 | nilp => exact h
 | emp => have h : VB S E .emp u := h; exact (⟨h.1.mono hS, h.2⟩ : VB S' E' .emp u)
 | cl e xs => have h : VB S E (.cl e xs) u := h; exact (⟨h.1.mono hS, h.2⟩ : VB S' E' (.cl e xs) u)
 | rp t x off => obtain ⟨b, o, us, e, h1, h2⟩ := h; exact ⟨b, o, us, e, h1.mono hS, (rpD t).mono h2 hS⟩
 | _ => cases hp
def killR (I : List Nat) : Nat → List Res → List Res
 | _, [] => []
 | i, r :: l => (bif hasN I i then deadR else r) :: killR I (i + 1) l
def killE (I : List Nat) : Nat → List EI → List EI
 | _, [] => []
 | i, e :: l => (bif hasN I i then .dead else e) :: killE I (i + 1) l
theorem killR_at (I : List Nat) : ∀ (l : List Res) (i j : Nat), (killR I i l)[j]? = (l[j]?).map fun r => bif hasN I (i + j) then deadR else r
 | [], _, _ => by simp [killR]
 | r :: l, i, 0 => by simp [killR]
 | r :: l, i, j + 1 => by
  simp only [killR, List.getElem?_cons_succ, killR_at I l (i + 1) j]
  rw [show i + 1 + j = i + (j + 1) by omega]
theorem killE_at (I : List Nat) : ∀ (l : List EI) (i j : Nat), (killE I i l)[j]? = (l[j]?).map fun r => bif hasN I (i + j) then EI.dead else r
 | [], _, _ => by simp [killE]
 | r :: l, i, 0 => by simp [killE]
 | r :: l, i, j + 1 => by
  simp only [killE, List.getElem?_cons_succ, killE_at I l (i + 1) j]
  rw [show i + 1 + j = i + (j + 1) by omega]
theorem killL_at (I : List Nat) : ∀ (l : List AO) (i j : Nat), (killL I i l)[j]? = (l[j]?).map fun r => bif hasN I (i + j) then AO.dead else r
 | [], _, _ => by simp [killL]
 | r :: l, i, 0 => by simp [killL]
 | r :: l, i, j + 1 => by
  simp only [killL, List.getElem?_cons_succ, killL_at I l (i + 1) j]
  rw [show i + 1 + j = i + (j + 1) by omega]
theorem killR_len (I : List Nat) : ∀ (l : List Res) (i : Nat), (killR I i l).length = l.length
 | [], _ => rfl
 | _ :: l, i => by simp only [killR, List.length_cons, killR_len I l]
theorem killE_len (I : List Nat) : ∀ (l : List EI) (i : Nat), (killE I i l).length = l.length
 | [], _ => rfl
 | _ :: l, i => by simp only [killE, List.length_cons, killE_len I l]
theorem killL_len (I : List Nat) : ∀ (l : List AO) (i : Nat), (killL I i l).length = l.length
 | [], _ => rfl
 | _ :: l, i => by simp only [killL, List.length_cons, killL_len I l]
theorem killE_le (I : List Nat) (E : List EI) : ELe E (killE I 0 E) := fun i a h => by
 refine ⟨_, by rw [killE_at, h]; rfl, ?_⟩
 rw [Nat.zero_add]
 cases hasN I i with
 | false => exact a.le_refl
 | true =>
  show a.le .dead
  cases a with
  | blk => exact .inr rfl
  | osl => exact .inr (.inl rfl)
  | mp => exact .inl rfl
  | dead => rfl
theorem HS.frame {B : Bas} {S S' : Mem} {w w' : World} {L L' : List Res} (H : HS B S w L) (H' : HS B S' w' L') (hS : Mem.le S S') {I : List Nat} (hf : ∀ i, hasN I i = false → i < L.length → lkR L' i = lkR L i) : HS B S w' (killR I 0 L) := by
 have key : ∀ i q, lkR (killR I 0 L) i = some q → q = deadR ∨ (lkR L i = some q ∧ lkR L' i = some q) := fun i q h => by
  rw [lkR_eq, killR_at, Nat.zero_add] at h
  cases hl : L[i]? with
  | none => rw [hl] at h; cases h
  | some r =>
   rw [hl] at h
   simp only [Option.map_some, Option.some.injEq] at h
   cases hi : hasN I i with
   | true => rw [hi] at h; exact .inl h.symm
   | false =>
    rw [hi] at h
    have h : r = q := h
    subst h
    have h2 : lkR L i = some r := by rw [lkR_eq]; exact hl
    exact .inr ⟨h2, by rw [hf i hi (List.getElem?_eq_some_iff.1 hl).1]; exact h2⟩
 refine ⟨H'.fr, fun b o e => H'.sub b o (hS b o e), H.keep, fun i q h => ?_, fun i q b h hb => ?_, fun i j q s b hi hj hq hs => ?_⟩
 ·rcases key i q h with rfl | ⟨_, h⟩
  ·exact .inl ⟨rfl, rfl, rfl, rfl⟩
  ·exact H'.own i q h
 ·rcases key i q h with rfl | ⟨h, _⟩
  ·cases hb
  ·exact H.old i q b h hb
 ·rcases key i q hi with rfl | ⟨h1, _⟩
  ·cases hq
  ·rcases key j s hj with rfl | ⟨h2, _⟩
   ·cases hs
   ·exact H.inj i j q s b h1 h2 hq hs
theorem VR_okF {S : Mem} {E : List EI} {I : List Nat} {x : SV} {u : Value} (hx : okF I x = true) (h : VR S (killE I 0 E) x u) : VR S E x u := by
 unfold okF at hx
 split at hx
 ·rename_i id off
  obtain ⟨b, hu, e, h1, h2⟩ := (show VB S (killE I 0 E) (.ptr id off) u from h)
  have hi : hasN I id = false := by cases hh : hasN I id with
   | true => rw [hh] at hx; cases hx
   | false => rfl
  rw [killE_at, Nat.zero_add, hi] at h1
  cases hE : E[id]? with
  | none => rw [hE] at h1; cases h1
  | some e' =>
   rw [hE] at h1
   have h1 : e' = e := osi h1
   subst h1
   exact (⟨b, hu, e', hE, h2⟩ : VB S E (.ptr id off) u)
 ·exact VR_plain hx h (Mem.le_refl S)
theorem hfloatJ_ok {I : List Nat} {o : Oper} {x : SV} (hτ : TEok P τ) (hH : HS B S W L) (hl : L.length = σ.hp.length) (hE : E.length = σ.hp.length) (ho : ∀ (i : Nat) o, σ.hp[i]? = some o → ∃ r e, L[i]? = some r ∧ E[i]? = some e ∧ OR S E o r e) {i : Nat}
  (hf : floats ops nh i = true) (hX : Φ xm = some (.inr fun _ w => HS B S w (killR I 0 L))) (hw : ∀ m, Inv n S E W Φ vs σ.sl D m → Region.wanted o (yielded ops (fr n m).tmps) = true) (hx : op1 τ ⟨mask [] D σ.sl, killL I 0 σ.hp⟩ o.op some = some x) (hok : okF I x = true) (hΦ : Φ i = none) (hI : Inv n S E W Φ vs σ.sl D m) :
  ∃ v, (∀ rest Fin, wpT P ops nh Φ W vs Fin (i + 1) rest ((fr n m).put o.dst v) → wpT P ops nh Φ W vs Fin i (o :: rest) (fr n m)) ∧ VR S E x v := by
 obtain ⟨dst, op, ty, pos, aft, g⟩ := o
 have hHk : ∀ {w}, Ext W w → HS B S w (killR I 0 L) := fun hx => HS.frame hH (hH.ext hx) (Mem.le_refl S) fun _ _ _ => rfl
 have R : Rel n B S (killE I 0 E) (killR I 0 L) ⟨mask [] D σ.sl, killL I 0 σ.hp⟩ m W := by
  refine ⟨hHk (Ext.refl W), by rw [killR_len, killL_len]; exact hl, by rw [killE_len, killL_len]; exact hE, fun j q hq => ?_, fun t => ?_⟩
  ·rw [killL_at, Nat.zero_add] at hq
   cases hj : σ.hp[j]? with
   | none => rw [hj] at hq; cases hq
   | some q' =>
    obtain ⟨r, e, h1, h2, h3⟩ := ho j q' hj
    rw [hj] at hq
    refine ⟨_, _, by rw [killR_at, h1]; rfl, by rw [killE_at, h2]; rfl, ?_⟩
    rw [Nat.zero_add]
    simp only [Option.map_some, Option.some.injEq] at hq
    cases hi : hasN I j with
    | true => rw [hi] at hq; subst hq; exact ⟨rfl, rfl⟩
    | false => rw [hi] at hq; subst hq; exact h3.mono (Mem.le_refl S) (killE_le I E)
  ·show VR S _ (lkS (mask [] D σ.sl) t) _
   rcases mask_lk [] D σ.sl t with h | ⟨h1, h2⟩
   ·rw [h]; trivial
   ·rw [h1]
    have := hI t
    cases hd : lkD D t with
    | none => rw [hd] at this; exact this.mono (Mem.le_refl S) (killE_le I E)
    | some j => have := h2 j hd; cases this
 obtain ⟨z, u, h1, h2, h3⟩ := op1_ok (dst := dst) (ty := ty) (pos := pos) (aft := aft) (g := g) hτ R hx
 cases h1
 refine ⟨u, fun rest Fin hr => wpT_floatJ (by rw [hX]; rfl) hΦ hf (hw m hI) (fun w hw => ?_) hr, VR_okF hok h2⟩
 rw [eval_fr]
 refine h3 w ?_
 rcases hw with hw | hw
 ·exact hHk hw
 ·unfold jx at hw; rw [hX] at hw; exact hw
theorem hbsl_ok {T E' : TypeId} {f : TI} {N : Nat} {ps : List (Nat × Operand)} {ys : List (den f.ty)} {dst : Option Nat} {ty : TypeId} {pos : String} {aft : Array Edge} {g : Option (Nat × Bool)} (hT : P.underlying T = some (.slice E')) (hF : TIok P E' f) (hH : HS B S W L) (hl : L.length = σ.hp.length) (hE : E.length = σ.hp.length) (ho : ∀ (i : Nat) o, σ.hp[i]? = some o → ∃ r e, L[i]? = some r ∧ E[i]? = some e ∧ OR S E o r e) {i : Nat}
  (hf : floats ops nh i = false) (hw : ∀ m, Inv n S E W Φ vs σ.sl D m → Region.wanted ⟨dst, .buildSlice T N ps.toArray, ty, pos, aft, g⟩ (yielded ops (fr n m).tmps) = true)
  (hb : (slOk f && Nat.beq f.sz (tsz f.ty) && Nat.beq N ps.length && Nat.ble (N * f.sz) 65536) = true) (hy : bslL ⟨mask (depsOf ⟨dst, .buildSlice T N ps.toArray, ty, pos, aft, g⟩) D σ.sl, σ.hp⟩ f.ty 0 ps = some ys)
  (hΦ : Φ i = some (.inr (phi S E W (.v (.sl f.ty) ys)))) (hI : Inv n S E W Φ vs σ.sl D m) :
  ∃ v, (∀ rest Fin, wpT P ops nh Φ W vs Fin (i + 1) rest ((fr n m).put dst v) → wpT P ops nh Φ W vs Fin i (⟨dst, .buildSlice T N ps.toArray, ty, pos, aft, g⟩ :: rest) (fr n m)) ∧
    ((VR S E (.v (.sl f.ty) ys) v ∧ ((false : Bool) = true ∨ (svalR (.v (.sl f.ty) ys)).isSome = true)) ∨ ((false : Bool) = false ∧ svalR (.v (.sl f.ty) ys) = none ∧ v = (vs i).v ∧ relK Φ i = true ∧ ∀ w', factAt Φ vs w' i → VR (gf S W (vs i).f w') E (.v (.sl f.ty) ys) (vs i).v)) := by
 have hs := and_l (and_l (and_l hb)); have hz := Nat.eq_of_beq_eq_true (and_r (and_l (and_l hb))); have hN := Nat.eq_of_beq_eq_true (and_r (and_l hb)); have hB := Nat.le_of_ble_eq_true (and_r hb)
 subst hN
 have hTn := slOk_sz hT hF hs hz
 refine ⟨(vs i).v, fun rest Fin hr => wpT_rel hΦ hf phi_ext (hw m hI) (fun hn => by cases hn) (fun w hx' hfl R0 hR => ?_) hr, .inr ⟨rfl, rfl, rfl, by unfold relK; rw [hΦ], fun w' hF => by unfold factAt at hF; rw [hΦ] at hF; exact hF⟩⟩
 have R := Inv.rel hH hl hE ho hI hx' hfl
 obtain ⟨us, h1, h2, h3⟩ := bsl_ok R hz (pre := []) (i := 0) (zl := f.z.map zc) (N := ps.length) hy (by simp) (by rw [List.length_map, hF.zl]) (by simp)
 simp only [List.nil_append] at h1
 rw [hz] at h1
 obtain ⟨w', v, hrun, H⟩ := a_bslice (dst := dst) (ty := ty) (pos := pos) (aft := aft) (g := g) hTn (HS.start R.hs.sub) rfl h1 (by rw [Nat.ble_eq, ← hz]; omega) (by rw [h2.len, h3]; congr 1; exact sz_eq f.ty)
 rw [← h3] at H
 obtain ⟨S2, hle, hg, H2⟩ := H.fixX (k := 0) rfl h2 (sz_eq f.ty)
 rw [eval_fr, hrun]
 refine hR ⟨v, _⟩ w' H2.toExt ?_ made_new fun h => by cases h
 exact (⟨v, rfl, RdS.mono hg (Mem.le_trans H2.gr (gr_gf hx' H2.toExt))⟩ : rep (.sl f.ty) _ [v] ys)
theorem hdo_ok {X : Kinds → Prop} {J : Option (List Nat)} (hXJ : ∀ Φ, X Φ → ∀ I, J = some I → Φ xm = some (.inr fun _ w => HS B S w (killR I 0 L))) {o : Oper} {l : List Oper} {i : Nat} {k : St → Option β} {r : β} {f : St → List (Nat × Nat) → Option β} (hτ : TEok P τ) (hΓ : CTok P Γ B) (hH : HS B S W L) (hl : L.length = σ.hp.length) (hE : E.length = σ.hp.length) (ho : ∀ (i : Nat) o, σ.hp[i]? = some o → ∃ r e, L[i]? = some r ∧ E[i]? = some e ∧ OR S E o r e)
  (hw : ∀ (Φ : Kinds) (vs : Nat → Gv) m, Inv n S E W Φ vs σ.sl D m → Region.wanted o (yielded ops (fr n m).tmps) = true) (h : hdo n τ Γ J ops nh o i σ D f = some r) (hf : ∀ σ' D', σ'.hp = σ.hp → f σ' D' = some r → HGood P X ops nh n S E W k r σ.hp (i + 1) l σ' D') :
  HGood P X ops nh n S E W k r σ.hp i (o :: l) σ D := by
 unfold hdo at h
 cases hfl : floats ops nh i with
 | true =>
  rw [hfl] at h
  simp only [cond_true] at h
  have old : op0 τ ⟨mask [] D σ.sl, σ.hp⟩ o.op (fun x => hput n o.dst x i true σ D f) = some r → HGood P X ops nh n S E W k r σ.hp i (o :: l) σ D := fun h => by
   obtain ⟨x, hx, h⟩ := op0_get h
   refine hput_ok rfl h hf ⟨none, fun Φ hX hΦ vs m hI _ => ?_⟩
   obtain ⟨v, h1, h2⟩ := hfloat_ok hτ hfl (hw Φ vs) hx hΦ hI
   exact ⟨v, h1, .inl ⟨h2, .inl rfl⟩⟩
  unfold fop at h
  split at h
  ·exact old h
  ·rename_i I
   cases hmo : memOp o.op with
   | false => rw [hmo] at h; exact old h
   | true =>
    rw [hmo] at h
    simp only [cond_true] at h
    obtain ⟨x, hx, h⟩ := op1_get h
    obtain ⟨hok, h⟩ := bif_none h
    refine hput_ok rfl h hf ⟨none, fun Φ hX hΦ vs m hI _ => ?_⟩
    obtain ⟨v, h1, h2⟩ := hfloatJ_ok hτ hH hl hE ho hfl (hXJ Φ hX I rfl) (hw Φ vs) hx hok hΦ hI
    exact ⟨v, h1, .inl ⟨h2, .inl rfl⟩⟩
 | false =>
  rw [hfl] at h
  simp only [cond_false] at h
  split at h
  ·rename_i yf ash at_ hop
   unfold hcall at h
   split at h
   ·rename_i f xs hxs
    split at h
    ·rename_i c hc
     split at h
     ·rename_i a ha
      obtain ⟨y, hy, h⟩ := bnd h
      obtain ⟨dst, op, ty, pos, aft, g⟩ := o
      obtain ⟨ash⟩ := ash
      cases hop
      refine hput_ok rfl h hf ⟨match svalR (resPC c y) with
       | some c => some (.inl c)
       | none => some (.inr (phi S E W (resPC c y))), fun Φ hX hΦ vs m hI _ => ?_⟩
      obtain ⟨v, h1, h2⟩ := hcall_ok (hΓ.pc _ _ hc) hH hl hE ho hfl (hw Φ vs) hxs ha hy hΦ hI
      refine ⟨v, h1, ?_⟩
      rcases h2 with h2 | h2
      ·exact .inl h2
      ·exact .inr ⟨rfl, h2⟩
     ·cases h
    ·cases h
   ·cases h
  ·rename_i T N ps hop
   unfold hbsl at h
   split at h
   ·rename_i E' z1 z2 z3 z4 hT
    split at h
    ·rename_i f0 hE0
     obtain ⟨hb, h3⟩ := bif_none h
     clear h
     split at h3
     ·rename_i ys hy
      obtain ⟨dst, op, ty, pos, aft, g⟩ := o
      obtain ⟨ps⟩ := ps
      cases hop
      refine hput_ok rfl h3 hf ⟨some (.inr (phi S E W (.v (.sl f0.ty) ys))), fun Φ hX hΦ vs m hI _ => ?_⟩
      exact hbsl_ok ((hτ _ _ hT).sl rfl) (hτ _ _ hE0) hH hl hE ho hfl (hw Φ vs) hb hy hΦ hI
     ·cases h3
    ·cases h
   ·cases h
  ·obtain ⟨x, hx, h⟩ := op1_get h
   refine hput_ok rfl h hf ⟨match svalR x with
    | some _ => none
    | none => some (.inr (phi S E W x)), fun Φ hX hΦ vs m hI _ => ?_⟩
   obtain ⟨v, h1, h2⟩ := hpure_ok hτ hH hl hE ho hfl (hw Φ vs) hx hΦ hI
   refine ⟨v, h1, ?_⟩
   rcases h2 with h2 | h2
   ·exact .inl h2
   ·exact .inr ⟨rfl, h2⟩
theorem heads_ok {X : Kinds → Prop} {J : Option (List Nat)} (hXJ : ∀ Φ, X Φ → ∀ I, J = some I → Φ xm = some (.inr fun _ w => HS B S w (killR I 0 L))) (hτ : TEok P τ) (hΓ : CTok P Γ B) (hH : HS B S W L) {hp : List AO} (hl : L.length = hp.length) (hE : E.length = hp.length) (ho : ∀ (i : Nat) o, hp[i]? = some o → ∃ r e, L[i]? = some r ∧ E[i]? = some e ∧ OR S E o r e) {k : St → Option β} {r : β} :
  ∀ (l : List Oper) (i : Nat) (σ : St) (D : List (Nat × Nat)), σ.hp = hp → heads n τ Γ J all.toArray all nh l i σ D k = some r → HGood P X all.toArray nh n S E W k r hp i l σ D
 | [], i, σ, D, hσ, h => ⟨fun _ => none, fun Φ _ _ vs m hI hD => wpT_nil ⟨σ, D, m, rfl, h, hσ, hI, fun t j h => by have := hD t j h; simpa using this, Agr.refl _ _⟩⟩
 | o :: l, i, σ, D, hσ, h => by
  have next : ∀ σ' D', σ'.hp = hp → heads n τ Γ J all.toArray all nh l (i + 1) σ' D' k = some r → HGood P X all.toArray nh n S E W k r hp (i + 1) l σ' D' := fun σ' D' => heads_ok hXJ hτ hΓ hH hl hE ho l (i + 1) σ' D'
  have doIt : ∀ {σ : St}, σ.hp = hp → (∀ (Φ : Kinds) (vs : Nat → Gv) m, Inv n S E W Φ vs σ.sl D m → Region.wanted o (yielded all.toArray (fr n m).tmps) = true) → (hdo n τ Γ J all.toArray nh o i σ D fun σ D => heads n τ Γ J all.toArray all nh l (i + 1) σ D k) = some r →
    HGood P X all.toArray nh n S E W k r hp i (o :: l) σ D := fun {σ} hσ hw h => by
   have h2 := hdo_ok (l := l) (k := k) hXJ hτ hΓ hH (by rw [hσ]; exact hl) (by rw [hσ]; exact hE) (by rw [hσ]; exact ho) hw h (fun σ' D' h1 h2 => by rw [hσ]; exact next σ' D' (h1.trans hσ) h2)
   rw [hσ] at h2; exact h2
  have skip : ∀ {σ : St}, σ.hp = hp → (∀ (Φ : Kinds) (vs : Nat → Gv) m, Inv n S E W Φ vs σ.sl D m → Region.wanted o (yielded all.toArray (fr n m).tmps) = false) → (hput n o.dst .skp i true σ D fun σ D => heads n τ Γ J all.toArray all nh l (i + 1) σ D k) = some r →
    HGood P X all.toArray nh n S E W k r hp i (o :: l) σ D := fun {σ} hσ hw h => by
   have h2 := hput_ok (X := X) (P := P) (ops := all.toArray) (nh := nh) (S := S) (E := E) (W := W) (o := o) (l := l) (k := k) (r := r) rfl h (fun σ' D' h1 h2 => by rw [hσ]; exact next σ' D' (h1.trans hσ) h2) ⟨none, fun Φ hX hΦ vs m hI _ => by
    obtain ⟨v, h1, h2⟩ := hskip_ok (P := P) (ops := all.toArray) (nh := nh) (hw Φ vs) hΦ hI
    exact ⟨v, h1, .inl ⟨h2, .inl rfl⟩⟩⟩
   rw [hσ] at h2; exact h2
  unfold heads at h
  split at h
  ·rename_i hg
   exact doIt hσ (fun _ _ _ _ => wanted_none hg) h
  ·rename_i j b hg
   split at h
   ·rename_i d hd
    split at h
    ·rename_i t hD0 ht
     have hv : ∀ (Φ : Kinds) (vs : Nat → Gv) m, Inv n S E W Φ vs σ.sl D m → Go.Proofs.YtmkomlbiaebddaaGreatDoor.ev n m (.tmp d) = .bool t := fun Φ vs m hI => by
      have := hI d
      rw [hD0] at this
      simp only [ht] at this
      exact vB this
     have conv : ∀ (q : Bool) (G : HGood P X all.toArray nh n S E W k r hp i (o :: l) (σ.put d (.v .b q)) D), t = q → HGood P X all.toArray nh n S E W k r hp i (o :: l) σ D := fun q G hq => by
      obtain ⟨K, G⟩ := G
      exact ⟨K, fun Φ hX hΦ vs m hI hDD => G Φ hX hΦ vs m (hI.re hD0 (by rw [hv Φ vs m hI, hq]; exact bV q)) hDD⟩
     have hw2 : ∀ (q : Bool) (Φ : Kinds) (vs : Nat → Gv) m, Inv n S E W Φ vs (σ.put d (.v .b q)).sl D m → Region.wanted o (yielded all.toArray (fr n m).tmps) = (q == b) := fun q Φ vs m hI => by
      have := hI d
      rw [hD0] at this
      have h3 : lkS (σ.put d (.v .b q)).sl d = .v .b q := by simp [St.put, lkS]
      simp only [h3] at this
      exact wanted_some (o := o) hg (gslot_ok hd (vB this))
     cases t with
     | true =>
      refine conv true ?_ rfl
      cases b with
      | true => exact doIt hσ (hw2 true) h
      | false => exact skip hσ (hw2 true) h
     | false =>
      refine conv false ?_ rfl
      cases b with
      | true => exact skip hσ (hw2 false) h
      | false => exact doIt hσ (hw2 false) h
    ·rename_i hD0 ht
     exact skip hσ (fun Φ vs m hI => by
      have := hI d
      rw [hD0] at this
      simp only [ht] at this
      exact wanted_no hg (gslot_no (m := m) (n := n) hd this)) h
    ·cases h
   ·cases h
def Post2F (n : Nat) (B : Bas) (S : Mem) (E : List EI) (L : List Res) (I : List Nat) (m : FM) (k : SV → St → Option β) (r : β) (v : Value) (w' : World) : Prop :=
 ∃ x σ' S' E' L', k x σ' = some r ∧ Mem.le S S' ∧ ELe E E' ∧ Rel n B S' E' L' σ' m w' ∧ VR S' E' x v ∧ ∀ i, hasN I i = false → i < L.length → lkR L' i = lkR L i
theorem Ok1.twoF {o : Oper} {I : List Nat} {k : SV → St → Option β} {r : β} {w : World} (R : Rel n B S E L σ m w) (h : Ok1 P S E (Go.Proofs.YtmkomlbiaebddaaGreatDoor.ev n m) o (fun x => k x σ) r (fun w' => HS B S w' L)) : outcome P (Post2F n B S E L I m k r) ((execOp (Go.Proofs.YtmkomlbiaebddaaGreatDoor.ev n m) o).run P w) := by
 obtain ⟨z, u, h1, h2, h3⟩ := h
 rw [h3 w R.hs]
 exact ⟨z, σ, S, E, L, h1, Mem.le_refl _, ELe.refl _, R, h2, fun _ _ _ => rfl⟩
theorem op2_pure {o : Op} {T : TypeId} {k : SV → St → Option β} (h : (mvOp o || memOp o) = true) : op2 τ Γ σ o T k = op1 τ σ o fun x => k x σ := by
 cases o with
 | call c =>
  unfold mvOp memOp at h
  simp only [Bool.false_or] at h
  split at h
  all_goals first
   | (rename_i e; cases e; done)
   | cases h
   | skip
  all_goals (rename_i e; cases e; rfl)
 | _ => first | rfl | cases h
theorem storeF {T : TypeId} {f : TI} {a x : Operand} {I : List Nat} {id off : Nat} {B' : TypeId} {cs : List SV} {sv : SV} {k : SV → St → Option β} {r : β} {w : World} {dst : Option Tmp} {g : Option (Nat × Bool)} {ty : TypeId} {pos : String} {aft : Array Edge} (hi : hasN I id = true) (hT : TIok P T f) (R : Rel n B S E L σ m w) (ha : VR S E (.ptr id off) (Go.Proofs.YtmkomlbiaebddaaGreatDoor.ev n m a)) (hx : VR S E sv (Go.Proofs.YtmkomlbiaebddaaGreatDoor.ev n m x)) (hc : atN σ.hp id = some (.blk B' cs))
  (hb : (Nat.beq (cellL sv).length f.sz && Nat.ble (off + f.sz) cs.length && notu sv) = true) (h : k .undef ⟨σ.sl, setN σ.hp id (.blk B' (layS cs off (cellL sv)))⟩ = some r) :
  outcome P (Post2F n B S E L I m k r) ((execOp (Go.Proofs.YtmkomlbiaebddaaGreatDoor.ev n m) ⟨dst, .store T a x, ty, pos, aft, g⟩).run P w) := by
 obtain ⟨r0, e0, h1, h2, b, us, rfl, rfl, h3⟩ := R.objN hc
 obtain ⟨b1, hu, e1, h4, h5⟩ := ha
 rw [h2] at h4; cases h4
 cases h5 _ rfl
 obtain ⟨h6, h7⟩ := cellL_ok (hx.b (and_r hb))
 have h8 := Nat.eq_of_beq_eq_true (and_l (and_l hb)); have h9 := Nat.le_of_ble_eq_true (and_r (and_l hb))
 obtain ⟨w', h10, h11⟩ := a_store (g := g) (ty := ty) (pos := pos) (aft := aft) (P := P) hT.tsz R.hs hu h1 rfl h7 (by rw [← h6.len, h8]) (VC.ones h6) (by rw [← h3.len, Nat.ble_eq]; exact h9)
 have h10' : (execOp (Go.Proofs.YtmkomlbiaebddaaGreatDoor.ev n m) ⟨dst, .store T a x, ty, pos, aft, g⟩).run P w = .ok .skip w' := h10
 rw [h10']
 refine ⟨_, _, S, E, _, h, Mem.le_refl _, ELe.refl _, R.upd1 h2 h11 ⟨b, _, rfl, rfl, layS_ok off h3 h6⟩, trivial, fun j hj _ => lkR_st_other fun e => ?_⟩
 subst e
 rw [hi] at hj; cases hj
theorem op2P_ok {o : Op} {T : TypeId} {I : List Nat} {k : SV → St → Option β} {r : β} {w : World} {dst : Option Tmp} {g : Option (Nat × Bool)} {pos : String} {aft : Array Edge} (hτ : TEok P τ) (R : Rel n B S E L σ m w) (ho : okP I σ o = true) (h : op2 τ Γ σ o T k = some r) :
  outcome P (Post2F n B S E L I m k r) ((execOp (Go.Proofs.YtmkomlbiaebddaaGreatDoor.ev n m) ⟨dst, o, T, pos, aft, g⟩).run P w) := by
 have pure : (mvOp o || memOp o) = true → outcome P (Post2F n B S E L I m k r) ((execOp (Go.Proofs.YtmkomlbiaebddaaGreatDoor.ev n m) ⟨dst, o, T, pos, aft, g⟩).run P w) := fun hp => by
  rw [op2_pure hp] at h
  exact Ok1.twoF R (op1_ok hτ R h)
 cases o with
 | store T' a x =>
  simp only [op2] at h
  simp only [okP] at ho
  cases hea : ev σ a with
  | none => rw [hea] at ho; cases ho
  | some sa =>
   rw [hea] at ho h
   cases sa with
   | ptr id off =>
    split at h
    ·rename_i f id' off' sv hT ha' hx
     cases ha'
     split at h
     ·rename_i B' cs hc
      obtain ⟨hb, h⟩ := bif_none h
      exact storeF ho (hτ _ _ hT) R (ev_ok R hea) (ev_ok R hx) hc hb h
     ·cases h
    ·rename_i ha' _; cases ha'
    ·rename_i ha' _; cases ha'
    ·cases h
   | _ => cases ho
 | _ => exact pure ho
theorem stepsP_ok {w0 : World} {L0 : List Res} {I : List Nat} (hτ : TEok P τ) (hΓ : CTok P Γ B) {all : List Oper} {k : St → Option β} {r : β} {S0 : Mem} {E0 : List EI} {m0 : FM} {D : List Nat} {Q : Exit → Act → World → Prop} (hQ : ∀ σ' S' E' L' m' w', k σ' = some r → Mem.le S0 S' → ELe E0 E' → Agr D m0 m' → Rel n B S' E' L' σ' m' w' → Q .normal (fr n m') w') (H0 : HS B S0 w0 L0) :
  ∀ (p : Nat) (l : List Oper) {σ : St} {S : Mem} {E : List EI} {L : List Res} {m : FM} {w : World}, (∀ t, hasN (dstsL l) t = true → hasN D t = true) → Mem.le S0 S → ELe E0 E → Agr D m0 m → (∀ i, hasN I i = false → i < L0.length → lkR L i = lkR L0 i) → Rel n B S E L σ m w → stepsP n τ Γ I all p l σ k = some r → wpJ P all.toArray Q (fun w => HS B S0 w (killR I 0 L0)) p l (fr n m) w
 | 0, l, σ, S, E, L, m, w, hD, hS, hE, hA, hfr, R, h => steps_ok hτ hΓ hQ l hD hS hE hA R h
 | _ + 1, [], σ, S, E, L, m, w, hD, hS, hE, hA, hfr, R, h => hQ _ _ _ _ _ _ h hS hE hA R
 | p + 1, o :: l, σ, S, E, L, m, w, hD, hS, hE, hA, hfr, R, h => by
  have hD' : ∀ t, hasN (dstsL l) t = true → hasN D t = true := fun t h => hD t (dstsL_cons h)
  have hd' : ∀ t, o.dst = some t → hasN D t = true := fun t h => hD t (dstsL_head h)
  simp only [stepsP] at h
  split at h
  ·rename_i hg
   obtain ⟨hok, h⟩ := bif_none h
   obtain ⟨dst, op, ty, pos, aft, g⟩ := o
   refine ⟨wanted_none hg, ?_⟩
   rw [eval_fr]
   refine outcome_up (op2P_ok hτ R hok h) ?_
   rintro v w' ⟨x, σ', S', E', L', h1, h2, h3, R', h4, h5⟩
   obtain ⟨σ2, m2, h6, R2, h7, h8⟩ := putD_ok R' h4 h1
   have hfr2 : ∀ i, hasN I i = false → i < L0.length → lkR L' i = lkR L0 i := fun i hi hlt => by
    rw [h5 i hi, hfr i hi hlt]
    have h9 := hfr i hi hlt
    rw [lkR_eq, lkR_eq, List.getElem?_eq_getElem hlt] at h9
    exact (List.getElem?_eq_some_iff.1 h9).1
   refine ⟨HS.frame H0 R2.hs (Mem.le_trans hS h2) hfr2, ?_⟩
   show wpJ P all.toArray Q _ p l ((fr n m).put dst v) w'
   rw [h7]
   exact stepsP_ok hτ hΓ hQ H0 p l hD' (Mem.le_trans hS h2) (hE.trans h3) (hA.trans (h8 D hd')) hfr2 R2 h6
  ·cases h
theorem drawn0_ok {id nh : Nat} {l : List Oper} {w : World} {k : St → Option β} {r : β} {Q : Exit → Act → World → Prop} (hm : P.follows .mixedOrders = true) (hτ : TEok P τ) (hΓ : CTok P Γ B) (R : Rel n B S E L σ m w) (h : drawn0 n τ Γ nh l.toArray σ k = some r)
  (hQ : ∀ σ' S' E' L' m' w', k σ' = some r → Mem.le S S' → ELe E E' → Agr (dstsL l) m m' → Rel n B S' E' L' σ' m' w' → Q .normal (fr n m') w') : (Code.region id l.toArray true).wp P Q (fr n m) w := by
 unfold drawn0 at h
 obtain ⟨hb, h⟩ := bif_none h
 have hlen := Nat.le_of_ble_eq_true (and_r hb)
 have hH : HS B S w.drew L := R.hs.drew
 obtain ⟨K, hK⟩ := heads_ok (P := P) (X := fun _ => True) (J := none) (fun _ _ _ h => by cases h) hτ hΓ hH R.lL R.lE R.obj (l.take nh) 0 σ [] rfl h
 have hln : (l.take nh).length ≤ l.length := by simp; omega
 refine wp_region_ext nh (fun j => if j < (l.take nh).length then K j else none) ?_ hm (and_l hb) fun vs => ?_
 ·show (if xm < (l.take nh).length then K xm else none).isSome = false
  rw [if_neg (by have : (l.take nh).length ≤ 1000000 := Nat.le_trans hln hlen; unfold xm; omega)]; rfl
 ·have hw := hK (fun j => if j < (l.take nh).length then K j else none) trivial (fun j _ hj => if_pos (by omega)) vs m (fun t => R.sl t) (fun t j h => by cases h)
  refine wpT_fin ?_ _ _ _ hw
  rintro a' ⟨σ', D', m', rfl, h1, h2, hI, hD, hag⟩ w' hx hF _
  have hle : Mem.le S (gf S w.drew (depF (fun j => if j < (l.take nh).length then K j else none) vs (List.range nh)) w') := gf_le hH.sub
  have R' : Rel n B (gf S w.drew (depF (fun j => if j < (l.take nh).length then K j else none) vs (List.range nh)) w') E L σ' m' w' := by
   refine ⟨hH.callF hx, by rw [h2]; exact R.lL, by rw [h2]; exact R.lE, fun i o ho => ?_, fun t => ?_⟩
   ·rw [h2] at ho
    obtain ⟨r1, e1, g1, g2, g3⟩ := R.obj i o ho
    exact ⟨r1, e1, g1, g2, g3.mono hle (ELe.refl E)⟩
   ·have h3 := hI t
    have h4 := hD t
    cases hd : lkD D' t with
    | none => rw [hd] at h3; exact h3.mono hle (ELe.refl E)
    | some j =>
     rw [hd] at h3
     obtain ⟨h5, h6⟩ := h3
     have h7 : j < nh := by have := h4 j hd; simp at this; omega
     have h8 : (List.range nh).contains j = true := by simp [h7]
     exact (h6 w' (factsL_get hF j h8)).mono (dep_le h8 h5) (ELe.refl E)
  exact steps_ok hτ hΓ (S0 := S) (m0 := m) (D := dstsL l) (fun σ' S' E' L' m' w' k1 k2 k3 k4 R1 => on_norm (hQ σ' S' E' L' m' w' k1 k2 k3 k4 R1)) (l.drop nh) (fun t => dstsL_drop nh l) hle (ELe.refl E) (hag.mono fun t => dstsL_take nh l) R' h1
theorem wpT_app {Φ : Kinds} {nh : Nat} {W : World} {vs : Nat → Gv} {ops : Array Oper} {F : Act → Prop} : ∀ (l1 : List Oper) {l2 : List Oper} (i : Nat) (a : Act), wpT P ops nh Φ W vs (fun a' => wpT P ops nh Φ W vs F (i + l1.length) l2 a') i l1 a → wpT P ops nh Φ W vs F i (l1 ++ l2) a
 | [], _, _, _, h => h
 | o :: l1, l2, i, a, h => by
  have e : ∀ a', wpT P ops nh Φ W vs F (i + (o :: l1).length) l2 a' = wpT P ops nh Φ W vs F (i + 1 + l1.length) l2 a' := fun a' => by rw [show i + (o :: l1).length = i + 1 + l1.length by simp; omega]
  simp only [e] at h
  rw [List.cons_append]
  unfold wpT at h ⊢
  cases hk : Φ i with
  | none => rw [hk] at h; obtain ⟨c, h1, h2⟩ := h; exact ⟨c, h1, wpT_app l1 _ _ h2⟩
  | some q =>
   rw [hk] at h
   cases q with
   | inl c => obtain ⟨h1, h2, h3⟩ := h; exact ⟨h1, h2, wpT_app l1 _ _ h3⟩
   | inr φ => obtain ⟨h1, h2, h3, h4, h5⟩ := h; exact ⟨h1, h2, h3, h4, wpT_app l1 _ _ h5⟩
def phiA (W : World) (us : List Value) (T : TypeId) : Gv → World → Prop := fun g w' => (∃ b, W.heap.size ≤ b ∧ g.v = .pointer (some ⟨b, 0, none⟩) ∧ w'.heap[b]? = some (.cells us.toArray T (0, 0))) ∧ ∀ b, ¬ g.f b = true
theorem drawnA_ok {id nh : Nat} {l : List Oper} {w : World} {k : St → Option β} {r : β} {Q : Exit → Act → World → Prop} (hm : P.follows .mixedOrders = true) (hτ : TEok P τ) (hΓ : CTok P Γ B) (R : Rel n B S E L σ m w) (h : drawnA n τ Γ nh l.toArray σ k = some r)
  (hQ : ∀ σ' S' E' L' m' w', k σ' = some r → Mem.le S S' → ELe E E' → Agr (dstsL l) m m' → Rel n B S' E' L' σ' m' w' → Q .normal (fr n m') w') : (Code.region id l.toArray true).wp P Q (fr n m) w := by
 unfold drawnA at h
 split at h
 ·rename_i d T ty pos aft hop
  split at h
  ·rename_i f hT
   obtain ⟨hb, h⟩ := bif_none h
   have hagg := and_l hb
   have hd := and_l (and_r hb)
   have hfl : floats l.toArray (nh + 1) nh = false := by
    have := and_l (and_r (and_r hb))
    cases hh : floats l.toArray (nh + 1) nh with
    | false => rfl
    | true => rw [hh] at this; cases this
   have hxB := and_l (and_r (and_r (and_r hb)))
   have hlen := Nat.le_of_ble_eq_true (and_r (and_r (and_r (and_r hb))))
   have hop : l[nh]? = some ⟨some d, .alloc T, ty, pos, aft, none⟩ := by rw [← atN_eq]; exact hop
   have hnl : nh < l.length := (List.getElem?_eq_some_iff.1 hop).1
   have hF := hτ _ _ hT
   have hcs : (zV f).cells.toList = f.z.map zc := by
    rw [hF.cells (by
     cases ha : f.agg with
     | true => exact .inl rfl
     | false => rw [ha] at hagg; exact .inr (Nat.eq_of_beq_eq_true hagg))]
   have hH : HS B S w.drew L := R.hs.drew
   obtain ⟨K, hK⟩ := heads_ok (P := P) (X := fun _ => True) (J := none) (nh := nh + 1) (fun _ _ _ h => by cases h) hτ hΓ hH R.lL R.lE R.obj (l.take nh) 0 σ [] rfl h
   have hln : (l.take nh).length = nh := by simp; omega
   have htk : l.take (nh + 1) = l.take nh ++ [⟨some d, .alloc T, ty, pos, aft, none⟩] := by rw [List.take_add_one, hop]; rfl
   refine wp_region_ext (nh + 1) (fun j => if j < nh then K j else if j = nh then some (.inr (phiA w.drew (f.z.map zc) T)) else none) ?_ hm hxB fun vs => ?_
   ·show (if xm < nh then K xm else if xm = nh then some (.inr (phiA w.drew (f.z.map zc) T)) else none).isSome = false
    have : l.length ≤ 1000000 := hlen
    rw [if_neg (by unfold xm; omega), if_neg (by unfold xm; omega)]; rfl
   ·generalize hΦ : (fun j => if j < nh then K j else if j = nh then some (.inr (phiA w.drew (f.z.map zc) T)) else none : Kinds) = Φ
    have hΦn : Φ nh = some (.inr (phiA w.drew (f.z.map zc) T)) := by rw [← hΦ]; simp
    have hw := hK Φ trivial (fun j _ hj => by rw [← hΦ]; exact if_pos (by omega)) vs m (fun t => R.sl t) (fun t j h => by cases h)
    rw [htk]
    refine wpT_app _ _ _ (wpT_fin ?_ _ _ _ hw)
    rintro a' ⟨σ', D', m', rfl, h1, h2, hI, hD, hag⟩
    rw [Nat.zero_add, hln]
    refine wpT_rel hΦn hfl (fun g w1 w2 hg hx => ?_) rfl (fun _ g w1 hg => ?_) (fun w1 hx1 hf1 R0 hR => ?_) ?_
    ·obtain ⟨⟨b, b1, b2, b3⟩, b4⟩ := hg
     refine ⟨⟨b, b1, b2, ?_⟩, b4⟩
     rw [hx.block b (Array.getElem?_eq_some_iff.1 b3).1]; exact b3
    ·obtain ⟨⟨b, b1, b2, b3⟩, b4⟩ := hg
     exact ⟨⟨b, 0, b2, (Array.getElem?_eq_some_iff.1 b3).1⟩, b4⟩
    ·have hrun : (execOp (fr n m').eval ⟨some d, .alloc T, ty, pos, aft, none⟩).run P w1 = .ok (.value (.pointer (some ⟨w1.heap.size, 0, none⟩))) (w1.alloc (.cells (f.z.map zc).toArray T)) := by
      rw [eval_fr]
      simp [execOp, run_allocZ hF.zero, ← hcs]
     rw [hrun]
     refine hR ⟨.pointer (some ⟨w1.heap.size, 0, none⟩), fun _ => false⟩ _ (Ext.alloc w1 _) ⟨⟨w1.heap.size, hx1.size, rfl, heap_alloc_self w1 _⟩, fun b hb => by cases hb⟩ (fun b hb => by cases hb) (fun _ ho => ?_)
     obtain ⟨b, o, e1, e2⟩ := ho
     injection e1 with e1
     injection e1 with e1
     injection e1 with e1 _ _
     omega
    ·refine wpT_nil fun w' hx hF2 hAp => ?_
     have hfn : phiA w.drew (f.z.map zc) T (vs nh) w' := by
      have := factsL_get hF2 nh (by simp)
      unfold factAt at this; rw [hΦn] at this; exact this
     obtain ⟨⟨b, b1, b2, b3⟩, b4⟩ := hfn
     have hle : Mem.le S (gf S w.drew (depF Φ vs (List.range (nh + 1))) w') := gf_le hH.sub
     have R' : Rel n B (gf S w.drew (depF Φ vs (List.range (nh + 1))) w') E L σ' m' w' := by
      refine ⟨hH.callF hx, by rw [h2]; exact R.lL, by rw [h2]; exact R.lE, fun i o ho => ?_, fun t => ?_⟩
      ·rw [h2] at ho
       obtain ⟨r1, e1, g1, g2, g3⟩ := R.obj i o ho
       exact ⟨r1, e1, g1, g2, g3.mono hle (ELe.refl E)⟩
      ·have h3 := hI t
       have h4 := hD t
       cases hd : lkD D' t with
       | none => rw [hd] at h3; exact h3.mono hle (ELe.refl E)
       | some j =>
        rw [hd] at h3
        obtain ⟨h5, h6⟩ := h3
        have h7 : j < nh := by have := h4 j hd; simp at this; omega
        have h8 : (List.range (nh + 1)).contains j = true := by simp; omega
        exact (h6 w' (factsL_get hF2 j h8)).mono (dep_le h8 h5) (ELe.refl E)
     have hgb : gf S w.drew (depF Φ vs (List.range (nh + 1))) w' b = none := by
      unfold gf
      rw [if_neg (by omega)]
      have : depF Φ vs (List.range (nh + 1)) b = false := by
       unfold depF
       rw [List.any_eq_false]
       intro j hj
       have hj := List.mem_range.1 hj
       cases hr : relK Φ j with
       | false => simp
       | true =>
        by_cases hjn : j = nh
        ·subst hjn; simpa using b4 b
        ·have := (hAp j nh hj (by omega) hjn).2 hr (by unfold frK; rw [List.getElem?_toArray, hop, hΦn]; rfl) b 0 b2
         simpa using this
      rw [this]; rfl
     have hA := HS.adopt R'.hs (b := b) (l := f.z.map zc) (T := T) (Nat.le_trans hH.fr.size b1) hgb b3 (fun c hc e => by
      subst e
      obtain ⟨q, r1, g1, g2⟩ := mem_keysR.1 hc
      have := hH.res_lt g1 g2
      omega)
     have R2 := R'.snoc (e := .blk b) (o := .blk T f.z) hA ⟨b, f.z.map zc, rfl, rfl, zcs_ok hF.z⟩
     have R3 := R2.put (d := d) (x := .ptr σ'.hp.length 0) (u := (vs nh).v) (show VB (gf S w.drew (depF Φ vs (List.range (nh + 1))) w') (E ++ [EI.blk b]) (.ptr σ'.hp.length 0) (vs nh).v from ⟨b, b2, .blk b, (by rw [← R'.lE]; simp : (E ++ [EI.blk b])[σ'.hp.length]? = some (EI.blk b)), fun b' hb => by cases hb; rfl⟩) hd
     rw [put_fr]
     refine steps_ok hτ hΓ (S0 := S) (E0 := E) (m0 := m) (D := dstsL l) (fun σ' S' E' L' m' w' k1 k2 k3 k4 R1 => on_norm (hQ σ' S' E' L' m' w' k1 k2 k3 k4 R1)) (l.drop (nh + 1)) (fun t => dstsL_drop (nh + 1) l) hle (ELe.push E _) ((hag.mono fun t => dstsL_take nh l).trans (Agr.put ?_)) R3 h1
     refine dstsL_take (nh + 1) l ?_
     rw [htk]
     have : ∀ (l1 : List Oper) (o : Oper), o.dst = some d → hasN (dstsL (l1 ++ [o])) d = true := fun l1 o ho => by
      induction l1 with
      | nil => exact dstsL_head ho
      | cons a l1 ih => exact dstsL_cons ih
     exact this _ _ rfl
  ·cases h
 ·cases h
theorem drawn_ok {id : Nat} {l : List Oper} {w : World} {k : St → Option β} {r : β} {Q : Exit → Act → World → Prop} (hm : P.follows .mixedOrders = true) (hτ : TEok P τ) (hΓ : CTok P Γ B) (R : Rel n B S E L σ m w) {η : HT} (h : drawn n τ Γ η id l.toArray σ k = some r)
  (hQ : ∀ σ' S' E' L' m' w', k σ' = some r → Mem.le S S' → ELe E E' → Agr (dstsL l) m m' → Rel n B S' E' L' σ' m' w' → Q .normal (fr n m') w') : (Code.region id l.toArray true).wp P Q (fr n m) w := by
 unfold drawn at h
 split at h
 ·rename_i nh I p hη
  obtain ⟨hb, h⟩ := bif_none h
  have hlen := Nat.le_of_ble_eq_true (and_r (and_l hb))
  have hH : HS B S w.drew L := R.hs.drew
  obtain ⟨K, hK⟩ := heads_ok (P := P) (X := fun Φ => Φ xm = some (.inr fun _ w => HS B S w (killR I 0 L))) (J := some I) (fun _ h _ e => by cases e; exact h) hτ hΓ hH R.lL R.lE R.obj (l.take nh) 0 σ [] rfl h
  have hln : (l.take nh).length ≤ l.length := by simp; omega
  have hxm : ¬ xm < (l.take nh).length := by have : (l.take nh).length ≤ 1000000 := Nat.le_trans hln hlen; unfold xm; omega
  refine wp_region_extJ nh p (fun j => if j < (l.take nh).length then K j else if j = xm then some (.inr fun _ w => HS B S w (killR I 0 L)) else none) (fun w => HS B S w (killR I 0 L)) (by simp only [if_neg hxm]; simp) (fun w' hx => HS.frame hH (hH.ext hx) (Mem.le_refl S) fun _ _ _ => rfl) (and_r hb) hm (and_l (and_l hb)) fun vs => ?_
  have hw := hK (fun j => if j < (l.take nh).length then K j else if j = xm then some (.inr fun _ w => HS B S w (killR I 0 L)) else none) (by simp only [if_neg hxm]; simp) (fun j _ hj => if_pos (by omega)) vs m (fun t => R.sl t) (fun t j h => by cases h)
  refine wpT_fin ?_ _ _ _ hw
  rintro a' ⟨σ', D', m', rfl, h1, h2, hI, hD, hag⟩ w' hx hF _
  have hle : Mem.le S (gf S w.drew (depF (fun j => if j < (l.take nh).length then K j else if j = xm then some (.inr fun _ w => HS B S w (killR I 0 L)) else none) vs (List.range nh)) w') := gf_le hH.sub
  have R' : Rel n B (gf S w.drew (depF (fun j => if j < (l.take nh).length then K j else if j = xm then some (.inr fun _ w => HS B S w (killR I 0 L)) else none) vs (List.range nh)) w') E L σ' m' w' := by
   refine ⟨hH.callF hx, by rw [h2]; exact R.lL, by rw [h2]; exact R.lE, fun i o ho => ?_, fun t => ?_⟩
   ·rw [h2] at ho
    obtain ⟨r1, e1, g1, g2, g3⟩ := R.obj i o ho
    exact ⟨r1, e1, g1, g2, g3.mono hle (ELe.refl E)⟩
   ·have h3 := hI t
    have h4 := hD t
    cases hd : lkD D' t with
    | none => rw [hd] at h3; exact h3.mono hle (ELe.refl E)
    | some j =>
     rw [hd] at h3
     obtain ⟨h5, h6⟩ := h3
     have h7 : j < nh := by have := h4 j hd; simp at this; omega
     have h8 : (List.range nh).contains j = true := by simp [h7]
     exact (h6 w' (factsL_get hF j h8)).mono (dep_le h8 h5) (ELe.refl E)
  exact stepsP_ok hτ hΓ (S0 := S) (m0 := m) (D := dstsL l) (fun σ' S' E' L' m' w' k1 k2 k3 k4 R1 => on_norm (hQ σ' S' E' L' m' w' k1 k2 k3 k4 R1)) hH p (l.drop nh) (fun t => dstsL_drop nh l) hle (ELe.refl E) (hag.mono fun t => dstsL_take nh l) (fun _ _ _ => rfl) R' h1
 ·exact drawn0_ok hm hτ hΓ R h hQ
 ·exact drawnA_ok hm hτ hΓ R h hQ
 ·exact drawn0_ok hm hτ hΓ R h hQ
end
end Go.Proofs.YtmkomlbiaebddaaGreatDoor.Am
namespace Go.Proofs.YtmkomlbiaebddaaGreatDoor
open Go Go.RowKit
end Go.Proofs.YtmkomlbiaebddaaGreatDoor
namespace Go.Proofs.YtmkomlbiaebddaaGreatDoor.Am
open Go Go.RowKit
section
variable {β : Type} {τ : TE} {Γ : CT} {η : HT} {N0 n : Nat} {P : Program} {B : Bas} {S : Mem} {E : List EI} {L : List Res} {σ : St} {m : FM} {w : World} {ops : Array Oper} {Q : Exit → Act → World → Prop} {rest : List Oper} {o : Oper}
def exQ : Ex → Exit
 | .normal => .normal
 | .exit i => .exit i
 | .ret => .ret
theorem mapO_some {α γ : Type} {f : α → γ} {o : Option α} {y : γ} (h : mapO f o = some y) : ∃ x, o = some x ∧ f x = y := by
 cases o with
 | none => cases h
 | some x => cases h; exact ⟨x, rfl, rfl⟩
theorem isEx_ok {a : Option Nat} {e : Ex} (h : isEx a e = true) : exOf a = e := by
 cases a with
 | none => cases e <;> first | rfl | cases h
 | some n =>
  cases e with
  | normal => cases h
  | exit i =>
   have h1 := Nat.eq_of_beq_eq_true (and_l h); subst h1
   have h2 := and_r h
   cases hb : Nat.beq n 1000000 with
   | true => rw [hb] at h2; cases h2
   | false => simp only [exOf, hb, cond_false]
  | ret => simp only [exOf, show Nat.beq n 1000000 = true from h, cond_true]
theorem Agr.ev {D : List Nat} {m m' : FM} (h : Agr D m m') {t : Nat} (ht : hasN D t = false) : Go.Proofs.YtmkomlbiaebddaaGreatDoor.ev n m' (.tmp t) = Go.Proofs.YtmkomlbiaebddaaGreatDoor.ev n m (.tmp t) := by
 show (bif Nat.blt t n then look m' t else undef) = (bif Nat.blt t n then look m t else undef)
 rw [h t ht]
theorem keep_ok {S' : Mem} {E' : List EI} {m' : FM} {D : List Nat} (R : Rel n B S E L σ m w) (hS : Mem.le S S') (hA : Agr D m m') : ∀ (kp : List Nat) (t : Nat), VR S' E' (lkS (keepS D σ kp) t) (Go.Proofs.YtmkomlbiaebddaaGreatDoor.ev n m' (.tmp t))
 | [], _ => trivial
 | d :: kp, t => by
  unfold keepS
  cases hb : !(hasN D d) && plainK (lkS σ.sl d) with
  | false => exact keep_ok R hS hA kp t
  | true =>
   simp only [cond_true, lkS]
   cases hd : Nat.beq d t with
   | false => exact keep_ok R hS hA kp t
   | true =>
    have := Nat.eq_of_beq_eq_true hd; subst this
    have h1 := and_l hb
    have h2 : hasN D d = false := by cases hh : hasN D d with
     | true => rw [hh] at h1; cases h1
     | false => rfl
    rw [hA.ev h2]
    exact VR_plain (and_r hb) (R.sl d) hS
theorem lkS_app : ∀ (a b : List (Nat × SV)) (t : Nat), lkS (a ++ b) t = lkS a t ∨ lkS (a ++ b) t = lkS b t
 | [], _, _ => .inr rfl
 | (d, x) :: a, b, t => by
  simp only [List.cons_append, lkS]
  cases Nat.beq d t with
  | true => exact .inl rfl
  | false => exact lkS_app a b t
theorem RelV.app {V : Nat → Value} (R : RelV B S E L σ V w) {l : List (Nat × SV)} (h : ∀ t, VR S E (lkS l t) (V t)) : RelV B S E L (σ.app l) V w :=
 ⟨R.hs, R.lL, R.lE, R.obj, fun t => by
  show VR S E (lkS (σ.sl ++ l) t) _
  rcases lkS_app σ.sl l t with e | e
  ·rw [e]; exact R.sl t
  ·rw [e]; exact h t⟩
theorem putHp_cons (o : OSh) (os : List OSh) (l : List SV) : ∃ a l', putHp (o :: os) l = a :: putHp os l' ∧ ∀ ver e T (xs : List (den e)), a = .osl ver e T xs → ver = 0 := by
 cases o with
 | blk T s => exact ⟨_, _, rfl, fun _ _ _ _ h => by cases h⟩
 | dead => exact ⟨_, l, rfl, fun _ _ _ _ h => by cases h⟩
 | osl e T =>
  cases l with
  | nil => exact ⟨_, [], rfl, fun _ _ _ _ h => by cases h⟩
  | cons x l =>
   cases x with
   | v t y =>
    cases t with
    | sl e' => exact ⟨_, l, rfl, fun ver e T xs h => by split at h <;> first | (cases h; done) | (cases h; rfl)⟩
    | _ => exact ⟨_, _, rfl, fun _ _ _ _ h => by cases h⟩
   | _ => exact ⟨_, _, rfl, fun _ _ _ _ h => by cases h⟩
 | mp kp K V =>
  cases l with
  | nil => exact ⟨_, [], rfl, fun _ _ _ _ h => by cases h⟩
  | cons x l =>
   cases x with
   | v t y =>
    cases t with
    | mp a c => exact ⟨_, l, rfl, fun ver e T xs h => by split at h <;> cases h⟩
    | _ => exact ⟨_, _, rfl, fun _ _ _ _ h => by cases h⟩
   | _ => exact ⟨_, _, rfl, fun _ _ _ _ h => by cases h⟩
theorem putHp_len : ∀ (os : List OSh) (l : List SV), (putHp os l).length = os.length
 | [], l => by cases l <;> rfl
 | o :: os, l => by
  obtain ⟨a, l', h, _⟩ := putHp_cons o os l
  rw [h, List.length_cons, List.length_cons, putHp_len os]
theorem putHp_ver : ∀ (os : List OSh) (l : List SV), Ver0 (putHp os l)
 | [], l => fun i ver e T xs h => by cases l <;> (simp [putHp] at h)
 | o :: os, l => by
  obtain ⟨a, l', h, ha⟩ := putHp_cons o os l
  rw [h]
  intro i ver e T xs h
  cases i with
  | zero => simp at h; exact ha _ _ _ _ h
  | succ i => exact putHp_ver os l' i ver e T xs (by simpa using h)
theorem get_put {s : Shp} {x : prodD s.tys} (h : s.get N0 σ = some x) : Ver0 (s.put x).hp ∧ N0 ≤ (s.put x).hp.length := by
 refine ⟨putHp_ver _ _, ?_⟩
 unfold Shp.get at h
 obtain ⟨h1, _⟩ := bif_none h
 show N0 ≤ (putHp s.hp _).length
 rw [putHp_len]
 exact Nat.le_of_ble_eq_true (and_l h1)
theorem inj_out {V : Nat → Value} (R : RelV B S E L σ V w) {e : Ex} {kp : List (Nat × SV)} (hk : ∀ S' E', Mem.le S S' → ∀ t, VR S' E' (lkS kp t) (V t)) : ∀ {outs : List (Option Nat × Shp)} {d : DS outs}, inj N0 outs e σ = some d → ∃ S' E' L' σ', Mem.le S S' ∧ Pin N0 E E' ∧ RelV B S' E' L' σ' V w ∧ Ver0 σ'.hp ∧ N0 ≤ σ'.hp.length ∧ ∀ {γ : Type} (k : Ex → St → Option γ), out kp outs d k = k e σ'
 | [], _, h => by cases h
 | [a], d, h => by
  obtain ⟨h1, h2⟩ := bif_none h
  obtain ⟨S', E', L', hS, hP, R'⟩ := get_st R (fun l => frzL_ok l R) h2
  obtain ⟨h3, h4⟩ := get_put h2
  refine ⟨S', E', L', _, hS, hP, R'.app (hk S' E' hS), h3, h4, fun k => ?_⟩
  show k (exOf a.1) _ = _; rw [isEx_ok h1]
 | a :: b :: l, d, h => by
  have next : mapO Sum.inr (inj N0 (b :: l) e σ) = some d → ∃ S' E' L' σ', Mem.le S S' ∧ Pin N0 E E' ∧ RelV B S' E' L' σ' V w ∧ Ver0 σ'.hp ∧ N0 ≤ σ'.hp.length ∧ ∀ {γ : Type} (k : Ex → St → Option γ), out kp (a :: b :: l) d k = k e σ' := fun h => by
   obtain ⟨x, h1, rfl⟩ := mapO_some h
   exact inj_out R hk (outs := b :: l) h1
  simp only [inj] at h
  cases hb : isEx a.1 e with
  | true =>
   rw [hb] at h
   simp only [cond_true] at h
   split at h
   ·rename_i x h1
    cases h
    obtain ⟨S', E', L', hS, hP, R'⟩ := get_st R (fun l => frzL_ok l R) h1
    obtain ⟨h3, h4⟩ := get_put h1
    refine ⟨S', E', L', _, hS, hP, R'.app (hk S' E' hS), h3, h4, fun k => ?_⟩
    show k (exOf a.1) _ = _; rw [isEx_ok hb]
   ·exact next h
  | false =>
   rw [hb] at h
   exact next h
theorem HS.nil (H : HS B S w L) (sz : Nat) (T : TypeId) : HS B S w (.osl (.slice none 0 0) 0 sz [] [] T :: L) := by
 refine ⟨H.fr, H.sub, H.keep, fun i q h => ?_, fun i q b h hb => ?_, fun i j q s b hi hj hq hs => ?_⟩
 ·cases i with
  | zero => cases h; exact .inl ⟨rfl, rfl, rfl, rfl⟩
  | succ i => exact H.own _ q h
 ·cases i with
  | zero => cases h; cases hb
  | succ i => exact H.old _ q b h hb
 ·cases i with
  | zero => cases hi; cases hq
  | succ i =>
   cases j with
   | zero => cases hj; cases hs
   | succ j => rw [H.inj i j q s b hi hj hq hs]
theorem nl_ok {c : SV} {u : Value} (hc : isNl c = true) (hx : VR S E c u) : Same S (.slice none 0 0) u 0 ∧ u.oneCell' = true := by
 cases c with
 | nils => have hx : u = .slice none 0 0 := hx; subst hx; exact ⟨.inl rfl, rfl⟩
 | emp => have hx : VB S E .emp u := hx; obtain ⟨h1, a, rfl⟩ := hx; exact ⟨.inr ⟨rfl, rfl, h1, a, rfl⟩, rfl⟩
 | _ => cases hc
theorem mk_new (R : Rel n B S E L σ m w) {c : SV} {u : Value} (hc : isNl c = true) (hx : VR S E c u) (e : Ty) (T : TypeId) : Rel n B S (E ++ [.osl 0 u (tsz e)]) (L ++ [.osl (.slice none 0 0) 0 (tsz e) [] [] T]) ⟨σ.sl, σ.hp ++ [.osl 0 e T []]⟩ m w ∧ VC S (E ++ [.osl 0 u (tsz e)]) (.own σ.hp.length 0) u := by
 obtain ⟨h1, h2⟩ := nl_ok hc hx
 refine ⟨R.snoc (HS.nil R.hs _ _) ⟨.slice none 0 0, u, [], [], rfl, rfl, rfl, h1⟩, h2, .osl 0 u (tsz e), by rw [← R.lE]; simp, fun r v s he => ?_⟩
 cases he; exact ⟨Nat.le_refl 0, fun _ => rfl⟩
theorem mk1_ok (R : Rel n B S E L σ m w) (x : Mk) : ∃ S' E' L', Mem.le S S' ∧ ELe E E' ∧ Rel n B S' E' L' (mk1 σ x) m w := by
 have same : ∃ S' E' L', Mem.le S S' ∧ ELe E E' ∧ Rel n B S' E' L' σ m w := ⟨S, E, L, Mem.le_refl _, ELe.refl _, R⟩
 cases x with
 | sl d e T =>
  simp only [mk1]
  cases hn : isNl (lkS σ.sl d) with
  | false => exact same
  | true =>
   obtain ⟨R1, h1⟩ := mk_new R hn (R.sl d) e T
   exact ⟨S, _, _, Mem.le_refl _, ELe.push E _, R1.re (d := d) (VR.ofC h1)⟩
 | cell d i e T =>
  simp only [mk1]
  split
  ·split
   ·rename_i id off hp _ T' cs hc
    split
    ·rename_i c hi
     cases hn : isNl c with
     | false => exact same
     | true =>
      obtain ⟨r0, e0, h1, h2, b, us, rfl, rfl, h3⟩ := R.objN hc
      obtain ⟨u, h4, h5⟩ := h3.at hi
      obtain ⟨R1, h6⟩ := mk_new R hn (VR.ofC h5) e T
      have hlt : id < σ.hp.length := by rw [← R.lE]; exact (List.getElem?_eq_some_iff.1 h2).1
      have h2' : (E ++ [EI.osl 0 u (tsz e)])[id]? = some (.blk b) := by rw [List.getElem?_append_left (by rw [R.lE]; exact hlt)]; exact h2
      have h1' : lkR (L ++ [Res.osl (.slice none 0 0) 0 (tsz e) [] [] T]) id = some (.blk b us T') := by
       rw [lkR_eq, List.getElem?_append_left (by rw [R.lL]; exact hlt), ← lkR_eq]; exact h1
      have hst : stR (L ++ [Res.osl (.slice none 0 0) 0 (tsz e) [] [] T]) id (.blk b us T') = L ++ [Res.osl (.slice none 0 0) 0 (tsz e) [] [] T] := by
       rw [stR_eq]
       apply List.ext_getElem?
       intro j
       by_cases hj : id = j
       ·subst hj
        rw [lkR_eq] at h1'
        rw [List.getElem?_set_self (List.getElem?_eq_some_iff.1 h1').1, h1']
       ·rw [List.getElem?_set_ne hj]
      have h7 : A2 (VC S (E ++ [EI.osl 0 u (tsz e)])) (setN cs i (.own σ.hp.length 0)) us := by
       have h8 : A2 (VC S (E ++ [EI.osl 0 u (tsz e)])) cs us := h3.imp fun _ _ h => h.mono (Mem.le_refl S) (ELe.push E _)
       have h9 := A2.set (a := SV.own σ.hp.length 0) h6 i h8
       have h10 : us.set i u = us := by
        apply List.ext_getElem?
        intro j
        by_cases hj : i = j
        ·subst hj; rw [List.getElem?_set_self (List.getElem?_eq_some_iff.1 h4).1, h4]
        ·rw [List.getElem?_set_ne hj]
       rw [setN_eq]
       rw [h10] at h9; exact h9
      exact ⟨S, _, _, Mem.le_refl _, ELe.push E _, R1.upd1 (r' := .blk b us T') h2' (by rw [hst]; exact R1.hs) ⟨b, us, rfl, rfl, h7⟩⟩
    ·exact same
   ·exact same
  ·exact same
theorem layMk_ok : ∀ (l : List Mk) {σ : St} {S : Mem} {E : List EI} {L : List Res} (_ : Rel n B S E L σ m w), ∃ S' E' L', Mem.le S S' ∧ ELe E E' ∧ Rel n B S' E' L' (layMk σ l) m w
 | [], _, S, E, L, R => ⟨S, E, L, Mem.le_refl _, ELe.refl _, R⟩
 | x :: l, _, _, _, _, R => by
  obtain ⟨S1, E1, L1, h1, h2, R1⟩ := mk1_ok R x
  obtain ⟨S2, E2, L2, h3, h4, R2⟩ := layMk_ok l R1
  exact ⟨S2, E2, L2, Mem.le_trans h1 h3, h2.trans h4, R2⟩
def Good (P : Program) (N0 n : Nat) (B : Bas) (c : Code) {β : Type} (rn : (Ex → St → Option β) → Option β) (S : Mem) (E : List EI) (m : FM) (w : World) : Prop :=
 ∀ (k : Ex → St → Option β) (r : β) (Q : Exit → Act → World → Prop), rn k = some r → (∀ e σ' S' E' L' m' w', k e σ' = some r → Mem.le S S' → Pin N0 E E' → Agr (dstsC c) m m' → Rel n B S' E' L' σ' m' w' → Q (exQ e) (fr n m') w') → c.wp P Q (fr n m) w
theorem optBind_some {α γ : Type} {o : Option α} {f : α → Option γ} {r : γ} (h : Option.bind o f = some r) : ∃ x, o = some x ∧ f x = some r := bnd h
theorem run_ok (hm : P.follows .mixedOrders = true) (hτ : TEok P τ) (hΓ : CTok P Γ B) : ∀ (c : Code) {β : Type} {σ : St} {S : Mem} {E : List EI} {L : List Res} {m : FM} {w : World}, Rel n B S E L σ m w → Good P N0 n B c (β := β) (run N0 n τ Γ η c σ) S E m w
 | .skip, _, σ, S, E, L, m, w, R, k, r, Q, h, hQ => wp_skip (hQ .normal _ _ _ _ _ _ h (Mem.le_refl _) (Pin.refl _ _) (Agr.refl _ _) R)
 | .exit id, _, σ, S, E, L, m, w, R, k, r, Q, h, hQ => wp_exit (hQ (.exit id) _ _ _ _ _ _ h (Mem.le_refl _) (Pin.refl _ _) (Agr.refl _ _) R)
 | .ret, _, σ, S, E, L, m, w, R, k, r, Q, h, hQ => wp_ret (hQ .ret _ _ _ _ _ _ h (Mem.le_refl _) (Pin.refl _ _) (Agr.refl _ _) R)
 | .region id ops d, _, σ, S, E, L, m, w, R, k, r, Q, h, hQ => by
  obtain ⟨ops⟩ := ops
  cases d with
  | true => exact drawn_ok hm hτ hΓ R h (fun σ' S' E' L' m' w' h1 h2 h3 h4 R1 => hQ .normal _ _ _ _ _ _ h1 h2 (Pin.of h3) h4 R1)
  | false => exact wp_region_lit (steps_ok hτ hΓ (fun σ' S' E' L' m' w' h1 h2 h3 h4 R1 => hQ .normal _ _ _ _ _ _ h1 h2 (Pin.of h3) h4 R1) ops (fun _ h => h) (Mem.le_refl _) (ELe.refl _) (Agr.refl _ _) R h)
 | .cond c a b, _, σ, S, E, L, m, w, R, k, r, Q, h, hQ => by
  simp only [run] at h
  split at h
  ·rename_i t hc
   have hv : Go.Proofs.YtmkomlbiaebddaaGreatDoor.ev n m c = .bool t := vB (ev_ok R hc)
   refine c_split hv (fun ht => ?_) (fun ht => ?_)
   ·subst ht; exact run_ok hm hτ hΓ a R k r Q h (fun e σ' S' E' L' m' w' h1 h2 hP h3 R1 => hQ e σ' S' E' L' m' w' h1 h2 hP h3.l R1)
   ·subst ht; exact run_ok hm hτ hΓ b R k r Q h (fun e σ' S' E' L' m' w' h1 h2 hP h3 R1 => hQ e σ' S' E' L' m' w' h1 h2 hP h3.r R1)
  ·cases h
 | .seq a b, _, σ, S, E, L, m, w, R, k, r, Q, h, hQ => by
  have next : ∀ e σ' S' E' L' m' w', nx k (fun σ => run N0 n τ Γ η b σ k) e σ' = some r → Mem.le S S' → Pin N0 E E' → Agr (dstsC a) m m' → Rel n B S' E' L' σ' m' w' → Exit.then (b.wp P Q) Q (exQ e) (fr n m') w' := fun e σ' S' E' L' m' w' h1 hS hP hA R1 => by
   cases e with
   | normal => exact run_ok hm hτ hΓ b R1 k r Q h1 (fun e σ' S' E' L' m' w' h1 h2 hP2 h3 R1 => hQ e σ' S' E' L' m' w' h1 (Mem.le_trans hS h2) (hP.trans hP2) ((Agr.l hA).trans (Agr.r h3)) R1)
   | exit i => exact hQ (.exit i) _ _ _ _ _ _ h1 hS hP hA.l R1
   | ret => exact hQ .ret _ _ _ _ _ _ h1 hS hP hA.l R1
  simp only [run] at h
  refine wp_seq ?_
  split at h
  ·rename_i mk kp outs hj
   obtain ⟨d, h1, h2⟩ := optBind_some h
   obtain ⟨S0, E0, L0, hS0, hE0, R0⟩ := layMk_ok mk R
   refine run_ok hm hτ hΓ a R0 (inj N0 outs) d _ h1 fun e σ' S' E' L' m' w' h3 hS hP hA R1 => ?_
   obtain ⟨S2, E2, L2, σ2, hS2, hP2, R2, _, _, h4⟩ := inj_out R1 (kp := keepS (dstsC a) (layMk σ mk) kp) (fun S'' E'' hS'' t => keep_ok R0 (Mem.le_trans hS hS'') hA kp t) h3
   rw [h4] at h2
   exact next e σ2 _ _ _ _ _ h2 (Mem.le_trans hS0 (Mem.le_trans hS hS2)) ((Pin.of hE0).trans (hP.trans hP2)) hA R2
  ·exact run_ok hm hτ hΓ a R _ r _ h next
 | .block id b, _, σ, S, E, L, m, w, R, k, r, Q, h, hQ => by
  have next : ∀ e σ' S' E' L' m' w', blk id k e σ' = some r → Mem.le S S' → Pin N0 E E' → Agr (dstsC b) m m' → Rel n B S' E' L' σ' m' w' → Exit.inBlock id Q (exQ e) (fr n m') w' := fun e σ' S' E' L' m' w' h1 hS hP hA R1 => by
   cases e with
   | normal => exact hQ .normal _ _ _ _ _ _ h1 hS hP hA R1
   | ret => exact hQ .ret _ _ _ _ _ _ h1 hS hP hA R1
   | exit i =>
    simp only [blk] at h1
    cases hb : Nat.beq i id with
    | true =>
     rw [hb] at h1
     have := Nat.eq_of_beq_eq_true hb; subst this
     exact b_hit (hQ .normal _ _ _ _ _ _ h1 hS hP hA R1)
    | false => rw [hb] at h1; exact b_miss hb (hQ (.exit i) _ _ _ _ _ _ h1 hS hP hA R1)
  simp only [run] at h
  refine wp_block ?_
  split at h
  ·rename_i mk kp outs hj
   obtain ⟨d, h1, h2⟩ := optBind_some h
   obtain ⟨S0, E0, L0, hS0, hE0, R0⟩ := layMk_ok mk R
   refine run_ok hm hτ hΓ b R0 _ d _ h1 fun e σ' S' E' L' m' w' h3 hS hP hA R1 => ?_
   have fin : ∀ e', inj N0 outs e' σ' = some d → Q (exQ e') (fr n m') w' := fun e' h3 => by
    obtain ⟨S2, E2, L2, σ2, hS2, hP2, R2, _, _, h4⟩ := inj_out R1 (kp := keepS (dstsC b) (layMk σ mk) kp) (fun S'' E'' hS'' t => keep_ok R0 (Mem.le_trans hS hS'') hA kp t) h3
    rw [h4] at h2
    exact hQ e' σ2 _ _ _ _ _ h2 (Mem.le_trans hS0 (Mem.le_trans hS hS2)) ((Pin.of hE0).trans (hP.trans hP2)) hA R2
   cases e with
   | normal => exact fin .normal h3
   | ret => exact fin .ret h3
   | exit i =>
    simp only [blk] at h3
    cases hb : Nat.beq i id with
    | true =>
     rw [hb] at h3
     have := Nat.eq_of_beq_eq_true hb; subst this
     exact b_hit (fin .normal h3)
    | false => rw [hb] at h3; exact b_miss hb (fin (.exit i) h3)
  ·exact run_ok hm hτ hΓ b R _ r _ h next
 | .loop b, _, σ, S, E, L, m, w, R, k, r, Q, h, hQ => by
  simp only [run] at h
  split at h
  ·rename_i mk s kp outs hj
   split at h
   ·rename_i s0 hs0
    obtain ⟨d, h1, h2⟩ := optBind_some h
    obtain ⟨S0, E0, L0, hS0, hE0, R0⟩ := layMk_ok mk R
    obtain ⟨S1, E1, L1, hS1, hP1, R1⟩ := get_st R0 (fun l => frzL_ok l R0) hs0
    have hQ : ∀ e σ' S' E' L' m' w', k e σ' = some r → Mem.le S0 S' → Pin N0 E0 E' → Agr (dstsC b) m m' → Rel n B S' E' L' σ' m' w' → Q (exQ e) (fr n m') w' := fun e σ' S' E' L' m' w' h1 h2 h3 h4 h5 => hQ e σ' S' E' L' m' w' h1 (Mem.le_trans hS0 h2) ((Pin.of hE0).trans h3) h4 h5
    clear hS0 hE0 R
    generalize layMk σ mk = σ at *
    refine loopg (fun g a w => ∃ m' x S' E' L', a = fr n m' ∧ Mem.le S0 S' ∧ Pin N0 E0 E' ∧ Agr (dstsC b) m m' ∧ Rel n B S' E' L' (s.put x) m' w ∧ iterN (fun x => run N0 n τ Γ η b ((s.put x).app (keepS (dstsC b) σ kp)) (nx (fun e σ => mapO Sum.inr (inj N0 outs e σ)) fun σ => mapO Sum.inl (s.get N0 σ))) g x = some d) FU ⟨m, s0, S1, E1, L1, rfl, hS1, hP1, Agr.refl _ _, R1, h1⟩ ?_
    rintro g a w ⟨m2, x, S2, E2, L2, rfl, hS2, hP2, hA2, R2, hit⟩
    cases g with
    | zero => cases hit
    | succ g =>
     obtain ⟨o, h3, h4⟩ := jn_some hit
     refine run_ok hm hτ hΓ b (R2.app (keep_ok R0 hS2 hA2 kp)) _ o _ h3 fun e σ' S' E' L' m' w' h5 hS3 hP3 hA3 R3 => ?_
     have hSS := Mem.le_trans hS2 hS3
     have hAA := hA2.trans hA3
     have fin : ∀ e', mapO Sum.inr (inj N0 outs e' σ') = some o → Q (exQ e') (fr n m') w' := fun e' h5 => by
      obtain ⟨d', h6, rfl⟩ := mapO_some h5
      have h7 : d' = d := by cases h4; rfl
      subst h7
      obtain ⟨S4, E4, L4, σ4, hS4, hP4, R4, _, _, h8⟩ := inj_out R3 (kp := keepS (dstsC b) σ kp) (fun S'' E'' hS'' t => keep_ok R0 (Mem.le_trans hSS hS'') hAA kp t) h6
      rw [h8] at h2
      exact hQ e' σ4 _ _ _ _ _ h2 (Mem.le_trans hSS hS4) ((hP2.trans hP3).trans hP4) hAA R4
     cases e with
     | normal =>
      obtain ⟨x', h6, rfl⟩ := mapO_some h5
      obtain ⟨S4, E4, L4, hS4, hP4, R4⟩ := get_st R3 (fun l => frzL_ok l R3) h6
      exact ⟨g, Nat.lt_succ_self g, m', x', S4, E4, L4, rfl, Mem.le_trans hSS hS4, (hP2.trans hP3).trans hP4, hAA, R4, h4⟩
     | exit i => exact fin (.exit i) h5
     | ret => exact fin .ret h5
   ·cases h
  ·cases h
theorem run_of_exec {s : Sem Value} {u : Value} (h : (do pure (Next.value (← s)) : Sem Next).run P w = .ok (.value u) w) : s.run P w = .ok u w := by
 rw [Sem.run_bind] at h
 cases hs : s.run P w with
 | ok v w' =>
  rw [hs] at h
  simp only [Result.andThen_ok, Sem.run_pure] at h
  injection h with h1 h2
  injection h1 with h1
  rw [h1, h2]
 | halt x w' => rw [hs] at h; cases h
theorem resV_ok (hτ : TEok P τ) (R : Rel n B S E L σ m w) {v : ResultVar} {x : SV} (h : resV τ σ v = some x) : ∃ u, VR S E x u ∧ (resS (fr n m).tmps v).run P w = .ok u w := by
 cases v with
 | tmp t =>
  cases h
  exact ⟨_, R.sl t, q_tmp rfl⟩
 | cell t T =>
  simp only [resV] at h
  split at h
  ·rename_i f hT
   have h' : deref σ.hp (lkS σ.sl t) f.sz (fun l => bindS (svAt f l) some) = some x := by
    have e1 : (fun l => bindS (svAt f l) some) = fun l => svAt f l := by funext l; cases svAt f l <;> rfl
    rw [e1]; exact h
   obtain ⟨z, u, h1, h2, h3⟩ := load_is (dst := none) (g := none) (ty := 0) (pos := "") (aft := #[]) (a := .tmp t) (k := some) R (hτ _ _ hT) (R.sl t) h'
   cases h1
   refine ⟨u, h2, ?_⟩
   have h4 := run_of_exec (h3 w R.hs)
   show (do loadVar T (← asAddr ((fr n m).tmps.getD t undef)) : Sem Value).run P w = _
   rw [getD_fr]
   have h5 : (do loadVar T (← Instr.sureAddr (Go.Proofs.YtmkomlbiaebddaaGreatDoor.ev n m (.tmp t))) : Sem Value).run P w = .ok u w := h4
   cases hp : Go.Proofs.YtmkomlbiaebddaaGreatDoor.ev n m (.tmp t) with
   | pointer a =>
    rw [hp] at h5
    cases a with
    | none => simp [Instr.sureAddr] at h5
    | some a => simpa [Instr.sureAddr, asAddr] using h5
   | _ => rw [hp] at h5; simp [Instr.sureAddr] at h5
  ·cases h
theorem resVs_ok (hτ : TEok P τ) (R : Rel n B S E L σ m w) : ∀ {l : List ResultVar} {xs : List SV}, resVs τ σ l = some xs → ∃ us, A2 (VR S E) xs us ∧ (l.mapM (resS (fr n m).tmps)).run P w = .ok us w
 | [], xs, h => by cases h; exact ⟨[], .nil, by simp⟩
 | v :: l, xs, h => by
  unfold resVs at h
  split at h
  ·rename_i x y h1 h2
   cases h
   obtain ⟨u, h3, h4⟩ := resV_ok hτ R h1
   obtain ⟨us, h5, h6⟩ := resVs_ok hτ R h2
   exact ⟨u :: us, .cons h3 h5, by simp only [List.mapM_cons, Sem.run_bind, h4, Result.andThen_ok, h6, Sem.run_pure]⟩
  ·cases h
theorem repA_len : ∀ {l : List Ty} {us : List Value} {x : prodD l}, repA S l us x → us.length = l.length
 | [], us, _, h => by have : us = [] := h; subst this; rfl
 | [_], _, _, ⟨_, e, _⟩ => by rw [e]; rfl
 | _ :: t' :: l, _, _, ⟨_, _, e, _, h⟩ => by rw [e]; simp [repA_len h]
theorem repR_of {l : List Ty} {us : List Value} {x : prodD l} (h : repA S l us x) : repR S l (if h : us.toArray.size = 1 then us.toArray[0] else .tuple us.toArray) x := by
 match l, x, h with
 | [], x, h => have : us = [] := h; subst this; exact ⟨[], rfl, rfl⟩
 | [t], x, ⟨u, e, h1⟩ => subst e; exact h1
 | t :: t' :: l, x, h =>
  have hl := repA_len h
  rw [dif_neg (by simp at hl ⊢; omega)]
  exact ⟨us, rfl, h⟩
theorem arg_ok : ∀ {xs : List SV} {us : List Value} (i t : Nat), A2 (VR S E) xs us → VR S E (lkS (argS i xs) t) (look (argm us i) t)
 | _, _, i, t, .nil => trivial
 | _, _, i, t, .cons a r => by
  unfold argS lkS argm look
  cases Nat.beq i t with
  | true => exact a
  | false => exact arg_ok (i + 1) t r
theorem argm_look : ∀ (us : List Value) (i t : Nat), look (argm us i) t = if i ≤ t then us.getD (t - i) undef else undef
 | [], i, t => by simp [argm, look]
 | u :: us, i, t => by
  unfold argm look
  rw [argm_look us (i + 1) t]
  cases hb : Nat.beq i t with
  | true =>
   have := Nat.eq_of_beq_eq_true hb; subst this
   simp
  | false =>
   have hne : i ≠ t := fun e => by subst e; rw [Nat.beq_refl] at hb; cases hb
   simp only [cond_false]
   by_cases h : i ≤ t
   ·rw [if_pos h, if_pos (by omega), show t - i = (t - (i + 1)) + 1 by omega, List.getD_cons_succ]
   ·rw [if_neg h, if_neg (by omega)]
theorem putL_len : ∀ (ash : List Sh) (l : List SV), (putL ash l).1.length = ash.length
 | [], _ => rfl
 | a :: ash, l => by simp only [putL, List.length_cons, putL_len ash]
theorem argS_none : ∀ {xs : List SV} {i t : Nat}, i + xs.length ≤ t → lkS (argS i xs) t = .undef
 | [], _, _, _ => rfl
 | x :: xs, i, t, h => by
  simp only [List.length_cons] at h
  unfold argS lkS
  have : Nat.beq i t = false := by rw [nat_beq]; simp; omega
  rw [this]
  exact argS_none (by omega)
theorem gb_start {G : List (Nat × Obj)} {S0 : Mem} {w0 : World} (hG : GS G S0) (hS : Sub S0 w0) : GB G ⟨S0, [], w0⟩ := fun p hp => ⟨(Array.getElem?_eq_some_iff.1 (hS _ _ (hG p hp))).1, by simp, hG p hp⟩
theorem gb_in {G : List (Nat × Obj)} {B : Bas} {S0 : Mem} {w0 : World} {L0 : List Res} (hG : GS G S0) (H : HS B S0 w0 L0) : GB G ⟨S0, keysR L0, w0⟩ := fun p hp => by
 refine ⟨(Array.getElem?_eq_some_iff.1 (H.sub _ _ (hG p hp))).1, fun h => ?_, hG p hp⟩
 obtain ⟨k, r, h1, h2⟩ := mem_keysR.1 h
 have := (H.old k r _ h1 h2).2
 rw [hG p hp] at this; cases this
theorem fn_ok {G : List (Nat × Obj)} {f : FuncId} {fn : Func} {ats : List Sh} {rts : List Ty} (hm : P.follows .mixedOrders = true) (hτ : TEok P τ) (hΓ : ∀ B, GB G B → CTok P Γ B) (hf : P.funcs[f]? = some fn) (hfn : IsFn P f) (hl : Nat.ble ats.length fn.ntmps = true) : PCok P G f ⟨ats, rts, fnP τ Γ η fn ats rts, false⟩ := by
 refine ⟨hfn, fun S0 w0 us a y hG hS ha hy => ?_⟩
 have hy : fnP τ Γ η fn ats rts a = some y := hy
 have ha : A2 (VR S0 []) (putL ats (toSVs _ a)).1 us := ha
 have hul : us.length = ats.length := by rw [← ha.len, putL_len]
 unfold fnP at hy
 split at hy
 ·cases hy
 ·rename_i c hb
  refine enter hf hb rfl (by rw [hul]; exact hl) ?_
  have R0 : Rel fn.ntmps ⟨S0, [], w0⟩ S0 [] [] ⟨argS 0 (putL ats (toSVs _ a)).1, []⟩ (argm us 0) w0 := by
   refine ⟨HS.start hS, rfl, rfl, fun i o h => by simp at h, fun t => ?_⟩
   show VR S0 [] (lkS (argS 0 (putL ats (toSVs _ a)).1) t) (bif Nat.blt t fn.ntmps then look (argm us 0) t else undef)
   cases ht : Nat.blt t fn.ntmps with
   | true => exact arg_ok 0 t ha
   | false =>
    rw [nat_blt] at ht
    have h1 := of_decide_eq_false ht
    have h2 := Nat.le_of_ble_eq_true hl
    rw [argS_none (by rw [putL_len]; omega)]
    trivial
  refine run_ok hm hτ (hΓ _ (gb_start hG hS)) c R0 (fin τ fn rts) y _ hy fun e σ' S' E' L' m' w' h1 _ _ _ R1 => ?_
  have key : ∀ (_ : (match resVs τ σ' fn.results.toList with
    | some l => match resVs τ (frzL σ' (l.flatMap owns)) fn.results.toList with
     | some l => ofSVs [] rts l
     | none => none
    | none => none) = some y), (fr fn.ntmps m').defers = [] ∧ ∃ v, (results fn (fr fn.ntmps m').tmps).run P w' = .ok v w' ∧ ∃ v', Ending.returned v = .returned v' ∧ Ext w0 w' ∧ repR (gr S0 w0 w') rts v' y := fun h1 => by
   split at h1
   ·rename_i l hl1
    split at h1
    ·rename_i l2 hl2
     obtain ⟨S2, E2, L2, _, _, R2⟩ := frzL_ok (l.flatMap owns) R1
     obtain ⟨vs, h3, h4⟩ := resVs_ok (P := P) hτ R2 hl2
     have h5 := ofSVs_ok (S2 := gr S0 w0 w') R2.hs.gr ownOk_nil rts h1 h3
     refine ⟨rfl, _, ?_, _, rfl, R2.hs.toExt, repR_of h5⟩
     rw [results_eq, Array.mapM_eq_mapM_toList]
     simp only [Sem.run_bind, Sem.run_map, h4, Result.andThen_ok, Sem.run_pure]
    ·cases h1
   ·cases h1
  cases e with
  | normal =>
   obtain ⟨h2, v, h3, v', h4, h5, h6⟩ := key h1
   cases h4
   exact ⟨h2, v, h3, h5, v, rfl, h6, fun h => by cases h⟩
  | ret =>
   obtain ⟨h2, v, h3, v', h4, h5, h6⟩ := key h1
   cases h4
   exact ⟨h2, v, h3, h5, v, rfl, h6, fun h => by cases h⟩
  | exit i => cases h1
theorem resUs_of : ∀ (us : List Value) (pre : List Value), resUs (fun t => (pre ++ us).getD t undef) pre.length us.length = us
 | [], _ => rfl
 | u :: us, pre => by
  have h1 := resUs_of us (pre ++ [u])
  simp only [List.length_append, List.length_singleton, List.append_assoc, List.singleton_append] at h1
  simp only [List.length_cons, resUs, h1]
  congr 1
  simp
theorem resUs_all (us : List Value) : resUs (fun t => us.getD t undef) 0 us.length = us := resUs_of us []
theorem resV1_eq (us : List Value) : (if h : us.toArray.size = 1 then us.toArray[0] else .tuple us.toArray) = resV1 us := by
 match us with
 | [] => rfl
 | [u] => rfl
 | u :: u' :: us => rw [dif_neg (by simp)]; rfl
theorem resVs_len : ∀ {l : List ResultVar} {xs : List SV}, resVs τ σ l = some xs → xs.length = l.length
 | [], _, h => by cases h; rfl
 | v :: l, _, h => by
  unfold resVs at h
  split at h
  ·rename_i h2; cases h; simp [resVs_len h2]
  ·cases h
theorem fnS_run {f : FuncId} {fn : Func} {c : Code} {N0 nr : Nat} {outs : List (Option Nat × Shp)} {S0 : Mem} {w0 : World} {us : List Value} {E0 : List EI} {L0 : List Res} {σ0 : St} {d : DS outs} (hm : P.follows .mixedOrders = true) (hτ : TEok P τ) (hΓ : CTok P Γ ⟨S0, keysR L0, w0⟩) (hf : P.funcs[f]? = some fn) (hb : fn.body = some c) (hl : us.length ≤ fn.ntmps) (hr : Nat.beq fn.results.toList.length nr = true)
  (R : RelV ⟨S0, keysR L0, w0⟩ S0 E0 L0 σ0 (fun t => us.getD t undef) w0) (hy : run N0 fn.ntmps τ Γ η c σ0 (finS τ fn N0 outs) = some d) :
  Calls P f us.toArray w0 fun e w' => ∃ v, e = .returned v ∧ ∃ S' E' L' σo V', (∀ {γ : Type} (k : Ex → St → Option γ), out [] outs d k = k .normal σo) ∧ Mem.le S0 S' ∧ Pin N0 E0 E' ∧ RelV ⟨S0, keysR L0, w0⟩ S' E' L' σo V' w' ∧ Ver0 σo.hp ∧ N0 ≤ σo.hp.length ∧ v = resV1 (resUs V' 0 nr) := by
 refine enter hf hb rfl (Nat.ble_eq_true_of_le hl) ?_
 have R0 : Rel fn.ntmps ⟨S0, keysR L0, w0⟩ S0 E0 L0 σ0 (argm us 0) w0 := by
  refine ⟨R.hs, R.lL, R.lE, R.obj, fun t => ?_⟩
  have h1 := R.sl t
  show VR S0 E0 (lkS σ0.sl t) (bif Nat.blt t fn.ntmps then look (argm us 0) t else undef)
  cases ht : Nat.blt t fn.ntmps with
  | true =>
   have := argm_look us 0 t
   rw [if_pos (Nat.zero_le t)] at this
   rw [cond_true, this]; exact h1
  | false =>
   rw [nat_blt] at ht
   have h2 := of_decide_eq_false ht
   rw [cond_false]
   have h3 : us.getD t undef = undef := by rw [List.getD_eq_getElem?_getD, List.getElem?_eq_none (by omega)]; rfl
   rw [← h3]; exact h1
 refine run_ok hm hτ hΓ c R0 (finS τ fn N0 outs) d _ hy fun e σ' S' E' L' m' w' h1 hS hP _ R1 => ?_
 have key : ∀ (_ : (match resVs τ σ' fn.results.toList with
   | some l => inj N0 outs .normal ⟨argS 0 l, σ'.hp⟩
   | none => none) = some d), (fr fn.ntmps m').defers = [] ∧ ∃ v, (results fn (fr fn.ntmps m').tmps).run P w' = .ok v w' ∧ ∃ v', Ending.returned v = .returned v' ∧ ∃ S' E' L' σo V', (∀ {γ : Type} (k : Ex → St → Option γ), out [] outs d k = k .normal σo) ∧ Mem.le S0 S' ∧ Pin N0 E0 E' ∧ RelV ⟨S0, keysR L0, w0⟩ S' E' L' σo V' w' ∧ Ver0 σo.hp ∧ N0 ≤ σo.hp.length ∧ v' = resV1 (resUs V' 0 nr) := fun h1 => by
  split at h1
  ·rename_i l hl1
   obtain ⟨vs, h3, h4⟩ := resVs_ok (P := P) hτ R1 hl1
   have R2 : RelV ⟨S0, keysR L0, w0⟩ S' E' L' ⟨argS 0 l, σ'.hp⟩ (fun t => vs.getD t undef) w' := ⟨R1.hs, R1.lL, R1.lE, R1.obj, fun t => by
    have := argS_ok 0 t h3
    rw [if_pos (Nat.zero_le t)] at this
    exact this⟩
   obtain ⟨S2, E2, L2, σ2, hS2, hP2, R3, hv, hn, h5⟩ := inj_out R2 (kp := []) (fun _ _ _ _ => trivial) h1
   refine ⟨rfl, resV1 vs, ?_, resV1 vs, rfl, S2, E2, L2, σ2, _, h5, Mem.le_trans hS hS2, hP.trans hP2, R3, hv, hn, ?_⟩
   ·rw [results_eq, Array.mapM_eq_mapM_toList]
    simp only [Sem.run_bind, Sem.run_map, h4, Result.andThen_ok, Sem.run_pure, ← resV1_eq]
   ·have h6 : vs.length = nr := by rw [← h3.len, resVs_len hl1]; exact Nat.eq_of_beq_eq_true hr
    rw [← h6, resUs_all]
  ·cases h1
 cases e with
 | normal =>
  obtain ⟨h2, v, h3, v', h4, h5⟩ := key h1
  cases h4
  exact ⟨h2, v, h3, v, rfl, h5⟩
 | ret =>
  obtain ⟨h2, v, h3, v', h4, h5⟩ := key h1
  cases h4
  exact ⟨h2, v, h3, v, rfl, h5⟩
 | exit i => cases h1
theorem fnS_ok {G : List (Nat × Obj)} {f : FuncId} {fn : Func} {I : Shp} {nr : Nat} {outs : List (Option Nat × Shp)} (hm : P.follows .mixedOrders = true) (hτ : TEok P τ) (hΓ : ∀ B, GB G B → CTok P Γ B) (hf : P.funcs[f]? = some fn) (hfn : IsFn P f) (hl : Nat.ble I.sl.length fn.ntmps = true) (hr : Nat.beq fn.results.toList.length nr = true) : SCok P G f ⟨I, nr, outs, fnS τ Γ η fn I outs⟩ := by
 refine ⟨hfn, fun S0 w0 us E0 L0 a d hG hul R hy => ?_⟩
 have hy : fnS τ Γ η fn I outs a = some d := hy
 have hul : us.length = I.sl.length := hul
 unfold fnS at hy
 split at hy
 ·cases hy
 ·rename_i c hb
  exact fnS_run hm hτ (hΓ _ (gb_in hG R.hs)) hf hb (by rw [hul]; exact Nat.le_of_ble_eq_true hl) hr R hy
end
def PL (P : Program) (G : List (Nat × Obj)) : List (Nat × PC) → Prop
 | [] => True
 | x :: l => PCok P G x.1 x.2 ∧ PL P G l
def SL (P : Program) (G : List (Nat × Obj)) : List (Nat × SC) → Prop
 | [] => True
 | x :: l => SCok P G x.1 x.2 ∧ SL P G l
theorem PL.at {P : Program} {G : List (Nat × Obj)} : ∀ {l : List (Nat × PC)}, PL P G l → ∀ f c, pcAt l f = some c → PCok P G f c
 | [], _, f, c, h => by cases h
 | (d, x) :: l, ⟨h1, h2⟩, f, c, h => by
  unfold pcAt at h
  cases hb : Nat.beq d f with
  | true => rw [hb] at h; cases h; rw [← Nat.eq_of_beq_eq_true hb]; exact h1
  | false => rw [hb] at h; exact PL.at h2 f c h
theorem SL.at {P : Program} {G : List (Nat × Obj)} : ∀ {l : List (Nat × SC)}, SL P G l → ∀ f c, c ∈ scAt l f → SCok P G f c
 | [], _, f, c, h => by cases h
 | (d, x) :: l, ⟨h1, h2⟩, f, c, h => by
  unfold scAt at h
  cases hb : Nat.beq d f with
  | true =>
   rw [hb] at h
   rcases List.mem_cons.1 h with rfl | h
   ·rw [← Nat.eq_of_beq_eq_true hb]; exact h1
   ·exact SL.at h2 f c h
  | false => rw [hb] at h; exact SL.at h2 f c h
theorem ctok {P : Program} {G : List (Nat × Obj)} {pc : List (Nat × PC)} {sc : List (Nat × SC)} {k : Bool} (h1 : PL P G pc) (h2 : SL P G sc) : ∀ B, GB G B → CTok P ⟨pc, sc, k⟩ B := fun B hG =>
 ⟨fun f c h => ⟨(h1.at f c h).fn, fun S w us a y hA => (h1.at f c h).ok S w us a y (hA.gs hG)⟩, fun f c h => ⟨(h2.at f c h).fn, fun S w us E L a d hA => (h2.at f c h).ok S w us E L a d (hA.gs hG)⟩⟩
theorem fn_pc {P : Program} {G : List (Nat × Obj)} {τ : TE} {Γ : CT} {η : HT} {f : FuncId} {fn : Func} {c : PC} (hm : P.follows .mixedOrders = true) (hτ : TEok P τ) (hΓ : ∀ B, GB G B → CTok P Γ B) (hf : P.funcs[f]? = some fn) (hfn : IsFn P f) (hl : Nat.ble c.ash.length fn.ntmps = true) (hc : c.cl = false) (he : fnP τ Γ η fn c.ash c.rts = c.p) : PCok P G f c := by
 have h := fn_ok (η := η) (rts := c.rts) hm hτ hΓ hf hfn hl
 rw [he, ← hc] at h
 exact h
theorem fn_sc {P : Program} {G : List (Nat × Obj)} {τ : TE} {Γ : CT} {η : HT} {f : FuncId} {fn : Func} {c : SC} (hm : P.follows .mixedOrders = true) (hτ : TEok P τ) (hΓ : ∀ B, GB G B → CTok P Γ B) (hf : P.funcs[f]? = some fn) (hfn : IsFn P f) (hl : Nat.ble c.I.sl.length fn.ntmps = true) (hr : Nat.beq fn.results.toList.length c.nr = true) (he : fnS τ Γ η fn c.I c.outs = c.p) : SCok P G f c := by
 have h := fnS_ok (η := η) (outs := c.outs) hm hτ hΓ hf hfn hl hr
 rw [he] at h
 exact h
end Go.Proofs.YtmkomlbiaebddaaGreatDoor.Am
namespace Go.Proofs.YtmkomlbiaebddaaGreatDoor
open Go Go.RowKit
end Go.Proofs.YtmkomlbiaebddaaGreatDoor
namespace Go.Proofs.YtmkomlbiaebddaaGreatDoor.Am
open Go Go.RowKit
def keqS (x y : List UInt8) : Bool := x == y
def kltS (x y : List UInt8) : Bool := Op.bytesLess x y
abbrev hS : Sh := .h .s
abbrev hI : Sh := .h (.i .i64)
abbrev hB : Sh := .h .b
def scal : Ty → Bool
 | .i _ => true
 | .b => true
 | .s => true
 | _ => false
def encV : (t : Ty) → den t → Value
 | .i k, x => .int k (toI k x)
 | .b, x => .bool x
 | .s, x => str x
 | _, _ => undef
def encL : (l : List Ty) → prodD l → List Value
 | [], _ => []
 | [t], x => [encV t x]
 | t :: t' :: l, x => encV t x.1 :: encL (t' :: l) x.2
def encR (l : List Ty) (x : prodD l) : Value := match l, x with
 | [t], x => encV t x
 | l, x => .tuple (encL l x).toArray
section
variable {S : Mem} {E : List EI} {P : Program} {G : List (Nat × Obj)} {f : FuncId}
theorem encV_of : ∀ {t : Ty} {x : den t} {u : Value}, scal t = true → VR S E (svOf t x) u → u = encV t x
 | .i k, x, u, _, h => by
  have h : [u] = [Value.int k (toI k x)] := h
  exact (List.cons.inj h).1
 | .b, x, u, _, h => by
  have h : [u] = [Value.bool x] := h
  exact (List.cons.inj h).1
 | .s, x, u, _, h => by
  have h : [u] = [str x] := h
  exact (List.cons.inj h).1
theorem encV_rep : ∀ {t : Ty} {x : den t}, scal t = true → rep1 t S (encV t x) x
 | .i _, _, _ => rfl
 | .b, _, _ => rfl
 | .s, _, _ => rfl
theorem encL_rep : ∀ {l : List Ty} {x : prodD l}, l.all scal = true → repA S l (encL l x) x
 | [], _, _ => rfl
 | [t], x, h => ⟨_, rfl, encV_rep (by simpa using h)⟩
 | t :: t' :: l, x, h => ⟨_, _, rfl, encV_rep (by simp at h; exact h.1), encL_rep (by simp at h ⊢; exact h.2)⟩
theorem encR_rep {l : List Ty} {x : prodD l} (h : l.all scal = true) : repR S l (encR l x) x := match l, x, h with
 | [t], x, h => show rep1 t S (encV t x) x from encV_rep (by simpa using h)
 | [], _, _ => ⟨[], rfl, rfl⟩
 | t :: t' :: l, x, h => ⟨_, rfl, encL_rep h⟩
theorem pc1 {t1 : Ty} {rts : List Ty} {p : den t1 → Option (prodD rts)} (h1 : scal t1 = true) (hr : rts.all scal = true) (hfn : IsFn P f)
  (h : ∀ S w x y, GS G S → Sub S w → p x = some y → Calls P f #[encV t1 x] w fun e w' => e = .returned (encR rts y) ∧ Ext w w') :
  PCok P G f ⟨[.h t1], rts, p, false⟩ := by
 refine ⟨hfn, fun S0 w0 us x y hG hS ha hy => ?_⟩
 have ha : A2 (VR S0 []) [svOf t1 x] us := ha
 cases ha with
 | cons q1 q2 =>
  cases q2
  rw [encV_of h1 q1]
  exact (h S0 w0 x y hG hS hy).mono fun e w' ⟨he, hx⟩ => ⟨hx, _, he, encR_rep hr, fun h => by cases h⟩
theorem pc2 {t1 t2 : Ty} {rts : List Ty} {p : den t1 → den t2 → Option (prodD rts)} (h1 : scal t1 = true) (h2 : scal t2 = true) (hr : rts.all scal = true) (hfn : IsFn P f)
  (h : ∀ S w x1 x2 y, GS G S → Sub S w → p x1 x2 = some y → Calls P f #[encV t1 x1, encV t2 x2] w fun e w' => e = .returned (encR rts y) ∧ Ext w w') :
  PCok P G f ⟨[.h t1, .h t2], rts, fun (x : den t1 × den t2) => p x.1 x.2, false⟩ := by
 refine ⟨hfn, fun S0 w0 us (x : den t1 × den t2) y hG hS ha hy => ?_⟩
 have ha : A2 (VR S0 []) [svOf t1 x.1, svOf t2 x.2] us := ha
 cases ha with
 | cons q1 q2 =>
  cases q2 with
  | cons q3 q4 =>
   cases q4
   rw [encV_of h1 q1, encV_of h2 q3]
   exact (h S0 w0 x.1 x.2 y hG hS hy).mono fun e w' ⟨he, hx⟩ => ⟨hx, _, he, encR_rep hr, fun h => by cases h⟩
end
end Go.Proofs.YtmkomlbiaebddaaGreatDoor.Am
namespace Go.Proofs.YtmkomlbiaebddaaGreatDoor
open Go Go.RowKit
def decF : Nat → Nat → List UInt8
 | 0, _ => []
 | f + 1, u => bif Nat.blt u 10 then [UInt8.ofNat (48 + u)] else decF f (u / 10) ++ [UInt8.ofNat (48 + u % 10)]
theorem decF_eq : ∀ (f u : Nat), u < 10 ^ f → 0 < f → decF f u = Lib.decDigits u
 | 0, _, _, h => absurd h (Nat.lt_irrefl 0)
 | f + 1, u, h, _ => by
  rw [Lib.decDigits]
  unfold decF
  by_cases hu : u < 10
  ·rw [show Nat.blt u 10 = true by rw [nat_blt]; simpa using hu, dif_pos hu]; rfl
  ·rw [show Nat.blt u 10 = false by rw [nat_blt]; simpa using hu, dif_neg hu]
   have hf : 0 < f := by
    rcases Nat.eq_zero_or_pos f with rfl | hf
    ·rw [Nat.zero_add, Nat.pow_one] at h; omega
    ·exact hf
   rw [decF_eq f (u / 10) (by rw [Nat.pow_succ] at h; omega) hf]; rfl
def itoaF (n : Int) : List UInt8 := bif decide (n < 0) then 45 :: decF 20 n.natAbs else decF 20 n.toNat
def itoaP (n : Int) : Option (List UInt8) := bif decide (-9223372036854775808 ≤ n) && decide (n ≤ 9223372036854775807) then some (itoaF n) else none
theorem itoaF_eq {n : Int} (h0 : -9223372036854775808 ≤ n) (h1 : n ≤ 9223372036854775807) : itoaF n = Lib.itoa n := by
 unfold itoaF Lib.itoa
 by_cases hn : n < 0
 ·rw [if_pos hn, decide_eq_true hn, cond_true, decF_eq _ _ (by omega) (by omega)]
 ·rw [if_neg hn, decide_eq_false hn, cond_false, decF_eq _ _ (by omega) (by omega)]
theorem GV.tab {S : Mem} {w : World} (h : GV S) (hS : Sub S w) : Lib.TabIs Tryz.prog w "internal/strconv.uint64pow10" .u64 Lib.pow10Tab := by
 obtain ⟨t, fz, h⟩ := h.tb
 have hg : Tryz.prog.globalNamed "internal/strconv.uint64pow10" = some 1 := by kernel_rfl
 unfold Lib.TabIs World.var?
 rw [hg, Option.bind_some, hS _ _ h]
 rfl
theorem Itoa_c {S : Mem} {w : World} (hS : Sub S w) (hG : GV S) {x0 : Int} {r : List UInt8} (hF : itoaP x0 = some r) :
  Calls Tryz.prog 39 #[.int .i64 x0] w fun e w' => e = .returned (str r) ∧ Ext w w' := by
 unfold itoaP at hF
 obtain ⟨h, hF⟩ := Am.bif_none hF
 simp only [Bool.and_eq_true, decide_eq_true_eq] at h
 cases hF
 refine (Tryz.strconv_Itoa x0 h.1 h.2 w (hG.tab hS)).mono ?_
 rintro _ w' ⟨rfl, k, os, rfl⟩
 rw [itoaF_eq h.1 h.2]
 exact ⟨rfl, ⟨rfl, rfl, rfl, by show w.heap.size ≤ (w.heap ++ os).size; rw [Array.size_append]; omega, fun j hj => by show (w.heap ++ os)[j]? = _; rw [Array.getElem?_append_left hj]⟩⟩
def trimP (s cs : List UInt8) : Option (List UInt8) := bif decide (s.length ≤ 9223372036854775807) && decide (cs.length < 4294967281) && cs.all (fun b => decide (b.toNat < 128)) then some (Lib.trimS s cs) else none
theorem Trim_c {S : Mem} {w : World} (_ : Sub S w) {x0 x1 r : List UInt8} (hF : trimP x0 x1 = some r) :
  Calls Tryz.prog 109 #[str x0, str x1] w fun e w' => e = .returned (str r) ∧ Ext w w' := by
 unfold trimP at hF
 obtain ⟨h, hF⟩ := Am.bif_none hF
 simp only [Bool.and_eq_true, decide_eq_true_eq] at h
 cases hF
 exact Any.strings_Trim_laid Tryz.lays160 (by kernel_rfl) ⟨x0.toArray⟩ ⟨x1.toArray⟩ w (by rw [str_size]; exact h.1.1) (by rw [str_size]; exact h.1.2) (fun j b hj => by
  have := List.all_eq_true.1 h.2 b (List.mem_of_getElem? hj)
  simpa using this)
def cutP (s sep : List UInt8) : Option (List UInt8 × List UInt8 × Bool) := bif decide (s.length < 4294967281) then some (Lib.cut s sep) else none
theorem Cut_c {S : Mem} {w : World} (hS : Sub S w) (hG : GV S) {x0 x1 : List UInt8} {r : List UInt8 × List UInt8 × Bool} (hF : cutP x0 x1 = some r) :
  Calls Tryz.prog 106 #[str x0, str x1] w fun e w' => e = .returned (.tuple #[str (r.1), str (r.2.1), .bool (r.2.2)]) ∧ Ext w w' := by
 unfold cutP at hF
 obtain ⟨h, hF⟩ := Am.bif_none hF
 simp only [decide_eq_true_eq] at h
 cases hF
 obtain ⟨m, hm⟩ := hG.cell hS
 refine (Tryz.strings_Cut ⟨x0.toArray⟩ ⟨x1.toArray⟩ m w (by rw [str_size]; exact h) hm).mono ?_
 rintro _ w' ⟨rfl, n, rfl⟩
 exact ⟨rfl, rfl, rfl, rfl, Nat.le_refl _, fun _ _ => rfl⟩
def atoiP (s : List UInt8) : Option (Int × Bool) := bif decide (s.length ≤ 9223372036854775806) then (match Lib.atoiAll s with
 | .ok v => some (v, false)
 | _ => none) else none
theorem Atoi_c {S : Mem} {w : World} (_ : Sub S w) {x0 : List UInt8} {r : Int × Bool} (hF : atoiP x0 = some r) :
  r.2 = false ∧ Calls Tryz.prog 110 #[str x0] w fun e w' => e = .returned (.tuple #[.int .i64 r.1, .nilIface]) ∧ Ext w w' := by
 unfold atoiP at hF
 obtain ⟨h, hF⟩ := Am.bif_none hF
 simp only [decide_eq_true_eq] at h
 split at hF
 ·rename_i v hv
  cases hF
  refine ⟨rfl, (Tryz.strconv_Atoi_ok ⟨x0.toArray⟩ (by rw [str_size]; exact h) v hv w).mono ?_⟩
  rintro _ w' ⟨rfl, rfl | ⟨t, rfl⟩⟩
  ·exact ⟨rfl, Ext.refl _⟩
  ·exact ⟨rfl, ⟨rfl, rfl, rfl, by rw [Lib.bytesWorld_size]; omega, fun j hj => Lib.bytesWorld_at_old w _ _ j hj⟩⟩
 ·cases hF
end Go.Proofs.YtmkomlbiaebddaaGreatDoor
