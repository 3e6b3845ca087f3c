/- The points of P-256 over the field: sums, and points under way (x by z z, y by z z z). Conditions: as each theorem says. -/
import Derived.Test.YtmbcolbbekbccaaFp
namespace Go.Proofs.Ytmbcolbbekbccaa
open Go Go.RowKit

def bb : Nat := 41058363725152142129326129780047268409114441015993725554835256314039467401291
def fb : Fp := cl bb
/-- The curve's equation. -/
def onE (x y : Fp) : Prop := y * y = x * (x * x) - 3 * x + fb
abbrev Pt : Type := Option (Fp × Fp)
def onP : Pt → Prop
  | none => True
  | some (x, y) => onE x y
def slope (x1 y1 x2 y2 : Fp) : Fp := if x1 = x2 ∧ y1 = y2 then (3 * (x1 * x1) - 3) * fi (y1 + y1) else (y2 - y1) * fi (x2 - x1)
def aadd : Pt → Pt → Pt
  | none, q => q
  | p, none => p
  | some (x1, y1), some (x2, y2) => if x1 = x2 ∧ y1 = - y2 then none else
    some (slope x1 y1 x2 y2 * slope x1 y1 x2 y2 - x1 - x2, slope x1 y1 x2 y2 * (x1 - (slope x1 y1 x2 y2 * slope x1 y1 x2 y2 - x1 - x2)) - y1)
def aneg : Pt → Pt
  | none => none
  | some (x, y) => some (x, - y)
theorem aadd_none (p : Pt) : aadd p none = p := by cases p <;> rfl
theorem none_aadd (p : Pt) : aadd none p = p := by cases p <;> rfl
/-- What a slope is: of both kinds of sums alike. -/
structure Sl (x1 y1 x2 y2 s : Fp) : Prop where
  chord : s * (x2 - x1) = y2 - y1
  tang : 2 * y1 * s + s * s * (x2 - x1) = x1 * x1 + x1 * x2 + x2 * x2 - 3
theorem ne_neg {x1 y1 x2 y2 : Fp} (h1 : onE x1 y1) (h2 : onE x2 y2) (hx : x1 = x2) : y1 = y2 ∨ y1 = - y2 := by
  unfold onE at h1 h2
  subst hx
  have h3 : (y1 - y2) * (y1 + y2) = 0 := by grind
  rcases fp_mul0 h3 with h | h
  · left; grind
  · right; grind
theorem sl_of {x1 y1 x2 y2 : Fp} (h1 : onE x1 y1) (h2 : onE x2 y2) (hn : ¬ (x1 = x2 ∧ y1 = - y2)) : Sl x1 y1 x2 y2 (slope x1 y1 x2 y2) := by
  unfold slope
  by_cases hx : x1 = x2
  · have hy : y1 = y2 := (ne_neg h1 h2 hx).resolve_right fun h => hn ⟨hx, h⟩
    subst hx; subst hy
    rw [if_pos ⟨rfl, rfl⟩]
    have hz : y1 + y1 ≠ 0 := fun h => hn ⟨rfl, by grind⟩
    have hi := fi_mul hz
    constructor
    · grind
    · grind
  · rw [if_neg fun h => hx h.1]
    have hd : x2 - x1 ≠ 0 := fun h => hx (by grind)
    have hi := fi_mul hd
    generalize fi (x2 - x1) = i at hi
    have hc : (y2 - y1) * i * (x2 - x1) = y2 - y1 := by grind
    generalize (y2 - y1) * i = s at hc
    refine ⟨hc, fp_cancel hd ?_⟩
    unfold onE at h1 h2
    have e : y2 = y1 + s * (x2 - x1) := by grind
    subst e
    grind
/-- Sums of points of the curve are points of it. -/
theorem on_slope {x1 y1 x2 y2 s : Fp} (h1 : onE x1 y1) (hs : Sl x1 y1 x2 y2 s) : onE (s * s - x1 - x2) (s * (x1 - (s * s - x1 - x2)) - y1) := by
  have hk := hs.tang
  unfold onE at *
  grind
theorem aadd_some (x1 y1 x2 y2 : Fp) : aadd (some (x1, y1)) (some (x2, y2)) = if x1 = x2 ∧ y1 = - y2 then none else
    some (slope x1 y1 x2 y2 * slope x1 y1 x2 y2 - x1 - x2, slope x1 y1 x2 y2 * (x1 - (slope x1 y1 x2 y2 * slope x1 y1 x2 y2 - x1 - x2)) - y1) := rfl
theorem on_add {p q : Pt} (hp : onP p) (hq : onP q) : onP (aadd p q) := by
  match p, q with
  | none, q => rw [none_aadd]; exact hq
  | some p, none => rw [aadd_none]; exact hp
  | some (x1, y1), some (x2, y2) =>
    rw [aadd_some]
    by_cases h : x1 = x2 ∧ y1 = - y2
    · rw [if_pos h]; trivial
    · rw [if_neg h]; exact on_slope hp (sl_of hp hq h)
theorem on_neg {p : Pt} (hp : onP p) : onP (aneg p) := by
  match p with
  | none => trivial
  | some (x, y) =>
    show onE x (- y)
    have h : onE x y := hp
    unfold onE at *
    grind
/-! ### The group -/
theorem sl_unique {x1 y1 x2 y2 s t : Fp} (hn : ¬ (x1 = x2 ∧ y1 = - y2)) (h1 : onE x1 y1) (h2 : onE x2 y2) (hs : Sl x1 y1 x2 y2 s) (ht : Sl x1 y1 x2 y2 t) : s = t := by
  by_cases hx : x1 = x2
  · have hy : y1 = y2 := (ne_neg h1 h2 hx).resolve_right fun h => hn ⟨hx, h⟩
    have hz : y1 + y1 ≠ 0 := fun h => hn ⟨hx, by grind⟩
    have a := hs.tang; have b := ht.tang
    subst hx
    exact fp_cancel hz (by grind)
  · have hd : x2 - x1 ≠ 0 := fun h => hx (by grind)
    exact fp_cancel hd (hs.chord.trans ht.chord.symm)
/-- The sum by any slope. -/
theorem aadd_sl {x1 y1 x2 y2 s : Fp} (hn : ¬ (x1 = x2 ∧ y1 = - y2)) (h1 : onE x1 y1) (h2 : onE x2 y2) (hs : Sl x1 y1 x2 y2 s) : aadd (some (x1, y1)) (some (x2, y2)) = some (s * s - x1 - x2, s * (x1 - (s * s - x1 - x2)) - y1) := by
  rw [aadd_some, if_neg hn, sl_unique hn h1 h2 (sl_of h1 h2 hn) hs]
theorem sl_symm {x1 y1 x2 y2 s : Fp} (hs : Sl x1 y1 x2 y2 s) : Sl x2 y2 x1 y1 s := by
  have a := hs.chord; have b := hs.tang
  constructor
  · grind
  · grind
theorem aadd_comm {p q : Pt} (hp : onP p) (hq : onP q) : aadd p q = aadd q p := by
  match p, q with
  | none, q => rw [none_aadd, aadd_none]
  | some p, none => rw [none_aadd, aadd_none]
  | some (x1, y1), some (x2, y2) =>
    by_cases h : x1 = x2 ∧ y1 = - y2
    · have h' : x2 = x1 ∧ y2 = - y1 := ⟨h.1.symm, by have := h.2; grind⟩
      rw [aadd_some, if_pos h, aadd_some, if_pos h']
    · have h' : ¬ (x2 = x1 ∧ y2 = - y1) := fun e => h ⟨e.1.symm, by have := e.2; grind⟩
      have hs := sl_of hp hq h
      rw [aadd_sl h hp hq hs, aadd_sl h' hq hp (sl_symm hs)]
      have hc := hs.chord
      generalize slope x1 y1 x2 y2 = s at hc
      have e1 : s * s - x1 - x2 = s * s - x2 - x1 := by grind
      have e2 : s * (x1 - (s * s - x1 - x2)) - y1 = s * (x2 - (s * s - x2 - x1)) - y2 := by grind
      rw [e2, e1]
theorem bb_ne : fb * fb - 4 ≠ 0 := fun h => by
  have e : cl (bb * bb) = cl 4 := by
    have h1 : cl (bb * bb) = fb * fb := cl_mul _ _
    have h2 : cl 4 = 4 := rfl
    rw [h1, h2]; grind
  exact absurd (cl_eq.1 e) (by decide)
/-- No point is singular. -/
theorem no_sing {x : Fp} (h : onE x 0) (ht : x * x + x * x + x * x - 3 = 0) : False := by
  unfold onE at h
  have h3 : (3 : Fp) ≠ 0 := fun h => by
    have : cl 3 = cl 0 := h
    exact absurd (cl_inj (by decide) (by decide) this) (by decide)
  have h1 : x * x = 1 := fp_cancel h3 (by grind)
  refine bb_ne ?_
  have h2 : fb = 2 * x := by grind
  rw [h2]; grind
theorem sl_nonneg {x1 y1 x2 y2 s : Fp} (h1 : onE x1 y1) (hs : Sl x1 y1 x2 y2 s) : ¬ (x1 = x2 ∧ y1 = - y2) := fun ⟨hx, hy⟩ => by
  subst hx
  have a := hs.chord; have b := hs.tang
  have h0 : y2 = 0 := fp_cancel two_ne (by grind)
  have h0' : y1 = 0 := by grind
  subst h0'
  exact no_sing h1 (by grind)
/-- **What was added is taken back.** -/
theorem acancel {p q : Pt} (hp : onP p) (hq : onP q) : aadd (aneg p) (aadd p q) = q := by
  match p, q with
  | none, q => rw [none_aadd]; exact none_aadd _
  | some (x, y), none =>
    rw [aadd_none]
    show aadd (some (x, - y)) (some (x, y)) = none
    rw [aadd_some, if_pos ⟨rfl, rfl⟩]
  | some (x1, y1), some (x2, y2) =>
    by_cases h : x1 = x2 ∧ y1 = - y2
    · rw [aadd_some, if_pos h, aadd_none]
      show some (x1, - y1) = some (x2, y2)
      rw [h.1, h.2]; congr 2; grind
    · have hs := sl_of hp hq h
      rw [aadd_sl h hp hq hs]
      have h3 := on_slope hp hs
      have h1 : onE x1 y1 := hp
      generalize slope x1 y1 x2 y2 = s at hs h3
      have a := hs.chord; have b := hs.tang
      have hm : Sl x1 (- y1) (s * s - x1 - x2) (s * (x1 - (s * s - x1 - x2)) - y1) (- s) := by
        constructor
        · grind
        · grind
      have hn1 : onE x1 (- y1) := on_neg (p := some (x1, y1)) h1
      show aadd (some (x1, - y1)) _ = _
      rw [aadd_sl (sl_nonneg hn1 hm) hn1 h3 hm]
      have e1 : - s * - s - x1 - (s * s - x1 - x2) = x2 := by grind
      have e2 : - s * (x1 - x2) - - y1 = y2 := by grind
      rw [e1, e2]
theorem col_y {x1 y1 x2 y2 s : Fp} (cs : s * (x2 - x1) = y2 - y1) : y2 = y1 + s * (x2 - x1) := by grobner
theorem col_1 {x1 y1 x2 x3 s : Fp} (ts : 2 * y1 * s + s * s * (x2 - x1) = x1 * x1 + x1 * x2 + x2 * x2 - 3)
    (tt : 2 * (y1 + s * (x2 - x1)) * s + s * s * (x3 - x2) = x2 * x2 + x2 * x3 + x3 * x3 - 3) : (x1 - x3) * (s * s - x1 - x2 - x3) = 0 := by grobner
theorem col {x1 y1 x2 y2 x3 s : Fp} (cs : s * (x2 - x1) = y2 - y1) (ts : 2 * y1 * s + s * s * (x2 - x1) = x1 * x1 + x1 * x2 + x2 * x2 - 3)
    (tt : 2 * y2 * s + s * s * (x3 - x2) = x2 * x2 + x2 * x3 + x3 * x3 - 3) : (x1 - x3) * (s * s - x1 - x2 - x3) = 0 := by
  rw [col_y cs] at tt
  exact col_1 ts tt
theorem lin_0 {a b : Fp} (h : a - b = 0) : b = a := by grobner
theorem lin_1 {a b c d : Fp} (h : a - b - c - d = 0) : a - b - c = d := by grobner
theorem lin_2 {a b c d : Fp} (h : a - b - c - d = 0) : a - c - d = b := by grobner
theorem lin_3 {a b c d : Fp} (h : a * (b - c) = d) : a * (c - b) = - d := by grobner
theorem col_3 {x1 y1 x2 y2 x3 y3 s : Fp} (cs : s * (x2 - x1) = y2 - y1) (ct : s * (x3 - x2) = y3 - y2) : s * (x1 - x3) - y1 = - y3 := by grobner
theorem col_4 {x1 y1 x2 y2 s : Fp} (cs : s * (x2 - x1) = y2 - y1) : s * (x2 - x1) - y2 = - y1 := by grobner
theorem col_5 {x1 y1 x2 y2 y3 s : Fp} (cs : s * (x2 - x1) = y2 - y1) (ct : s * (x1 - x2) = y3 - y2) : y3 = y1 := by grobner
theorem col_6 {x1 y1 x2 y2 X s : Fp} (cs : s * (x2 - x1) = y2 - y1) : s * (x1 - X) - y1 = s * (x2 - X) - y2 := by grobner
theorem neg2 (a : Fp) : a = - - a := by grobner
theorem swap3 (a b c : Fp) : a - b - c = a - c - b := by grobner
theorem neg3 (a b c : Fp) : a = b - c - (b - a - c) := by grobner
theorem neg_sub' (a b : Fp) : - (a - b) = b - a := by grobner
theorem neg4 {x1 y1 x2 y2 s : Fp} (cs : s * (x2 - x1) = y2 - y1) : y1 = y2 - s * (x2 - x1) := by grobner
theorem neg5 {e d a b : Fp} (he : e * d = a - b) : a = b + e * d := by grobner
theorem ne_sub {s t : Fp} (h : ¬ s = t) : s - t ≠ 0 := fun e => h (by grobner)
theorem quo_1 {a i d : Fp} (hi : i * d = 1) : a * i * d = a := by grobner
theorem un_ts {x1 y1 x2 y2 s : Fp} (cs : s * (x2 - x1) = y2 - y1) (ts : 2 * y1 * s + s * s * (x2 - x1) = x1 * x1 + x1 * x2 + x2 * x2 - 3) :
    2 * y2 * s - s * s * (x2 - x1) = x1 * x1 + x1 * x2 + x2 * x2 - 3 := by grobner
theorem i4_1 {x1 x2 y2 x3 s t : Fp} (ts : 2 * y2 * s - s * s * (x2 - x1) = x1 * x1 + x1 * x2 + x2 * x2 - 3) (tt : 2 * y2 * t + t * t * (x3 - x2) = x2 * x2 + x2 * x3 + x3 * x3 - 3) :
    (x1 - x3) * (x3 - (s * s - x1 - x2)) = (s - t) * ((s + t) * (x3 - x2) + 2 * y2) := by grobner
theorem i4_2 {e d a b c : Fp} (he : e * d = a) (h : a * b = d * c) : e * b * d = c * d := by grobner
theorem u_chord {x2 y2 x3 y3 X s t e : Fp} (ct : t * (x3 - x2) = y3 - y2) (i4 : e * (x3 - X) = (s + t) * (x3 - x2) + 2 * y2) : (e - s) * (x3 - X) = y3 - (s * (x2 - X) - y2) := by grobner
theorem u_id (x2 y2 x3 X s t e : Fp) : (e - s) * ((y2 + t * (x3 - x2)) + (s * (x2 - X) - y2)) - (X * X + X * x3 + x3 * x3 - 3) =
    (s * (e * (x3 - X)) - s * ((s + t) * (x3 - x2) + 2 * y2)) - ((x3 - x2) * (e * (s - t)) - (x3 - x2) * ((s * s - x2 - X) - x3)) +
    ((2 * y2 * s - s * s * (x2 - (s * s - x2 - X))) - ((s * s - x2 - X) * (s * s - x2 - X) + (s * s - x2 - X) * x2 + x2 * x2 - 3)) := by grobner
theorem u_sub {a b c d e f g h : Fp} (hi : a - b = (c - d) - (e - f) + (g - h)) (h1 : c = d) (h2 : e = f) (h3 : g = h) : a = b := by
  subst h1; subst h2; subst h3
  grobner
theorem u_tang1 {x1 x2 y2 x3 X s t e : Fp} (ts : 2 * y2 * s - s * s * (x2 - x1) = x1 * x1 + x1 * x2 + x2 * x2 - 3) (hX : x1 = s * s - x2 - X)
    (i4 : s * (e * (x3 - X)) = s * ((s + t) * (x3 - x2) + 2 * y2)) (he : (x3 - x2) * (e * (s - t)) = (x3 - x2) * (x1 - x3)) :
    (e - s) * ((y2 + t * (x3 - x2)) + (s * (x2 - X) - y2)) = X * X + X * x3 + x3 * x3 - 3 := by
  subst hX
  exact u_sub (u_id x2 y2 x3 X s t e) i4 he ts
theorem u_tang2 {u X Y x3 y3 R : Fp} (c : u * (x3 - X) = y3 - Y) (h : u * (y3 + Y) = R) : 2 * Y * u + u * u * (x3 - X) = R := by grobner
/-- The slope of P1 + P2 and P3, out of those of P1, P2 and of P2, P3. -/
theorem sl_step {x1 y1 x2 y2 x3 y3 s t e : Fp} (hs : Sl x1 y1 x2 y2 s) (ht : Sl x2 y2 x3 y3 t) (hd : s - t ≠ 0) (he : e * (s - t) = x1 - x3) :
    Sl (s * s - x1 - x2) (s * (x2 - (s * s - x1 - x2)) - y2) x3 y3 (e - s) := by
  have ts := un_ts hs.chord hs.tang
  have i4 := fp_cancel hd (i4_2 he (i4_1 ts ht.tang))
  have c := u_chord ht.chord i4
  refine ⟨c, u_tang2 c ?_⟩
  rw [col_y ht.chord]
  exact u_tang1 ts (neg3 _ _ _) (congrArg (s * ·) i4) (congrArg ((x3 - x2) * ·) he)
theorem asc_x {x1 x2 x3 s t e : Fp} (he : e * (s - t) = x1 - x3) : (e - s) * (e - s) - (s * s - x1 - x2) - x3 = (e - t) * (e - t) - x1 - (t * t - x2 - x3) := by grobner
theorem asc_y {x1 y1 x2 y2 x3 y3 s t e : Fp} (cs : y1 = y2 - s * (x2 - x1)) (ct : y3 = y2 + t * (x3 - x2)) (he : x1 = x3 + e * (s - t)) :
    (e - s) * (x3 - ((e - s) * (e - s) - (s * s - x1 - x2) - x3)) - y3 = (e - t) * (x1 - ((e - s) * (e - s) - (s * s - x1 - x2) - x3)) - y1 := by
  subst cs; subst ct; subst he
  grobner
/-- **Sums don't hang on brackets.** -/
theorem aassoc {p q r : Pt} (hp : onP p) (hq : onP q) (hr : onP r) : aadd (aadd p q) r = aadd p (aadd q r) := by
  match p, q, r with
  | none, q, r => rw [none_aadd, none_aadd]
  | some p, none, r => rw [aadd_none, none_aadd]
  | some p, some q, none => rw [aadd_none, aadd_none]
  | some (x1, y1), some (x2, y2), some (x3, y3) =>
    have h1 : onE x1 y1 := hp
    have h2 : onE x2 y2 := hq
    have h3 : onE x3 y3 := hr
    by_cases hpq : x1 = x2 ∧ y1 = - y2
    · have e : some (x1, y1) = aneg (some (x2, y2)) := by rw [hpq.1, hpq.2]; rfl
      rw [aadd_some x1 y1 x2 y2, if_pos hpq, none_aadd, e, acancel hq hr]
    by_cases hqr : x2 = x3 ∧ y2 = - y3
    · have e : some (x3, y3) = aneg (some (x2, y2)) := by rw [hqr.1, hqr.2]; show _ = some (x3, - - y3); congr 2; grind
      rw [aadd_some x2 y2 x3 y3, if_pos hqr, aadd_none, aadd_comm (on_add hp hq) hr, e, aadd_comm hp hq, acancel hq hp]
    have hs := sl_of h1 h2 hpq
    have ht := sl_of h2 h3 hqr
    rw [aadd_sl hpq h1 h2 hs, aadd_sl hqr h2 h3 ht]
    have h12 := on_slope h1 hs
    have h23 := on_slope h2 ht
    generalize slope x1 y1 x2 y2 = s at hs h12
    generalize slope x2 y2 x3 y3 = t at ht h23
    have cs := hs.chord; have ts := hs.tang; have ct := ht.chord; have tt := ht.tang
    by_cases hst : s = t
    · subst hst
      have hz := col cs ts tt
      rcases fp_mul0 hz with h | h
      · have ex : x3 = x1 := lin_0 h
        subst ex
        have ey : y3 = y1 := col_5 cs ct
        subst ey
        have e1 := swap3 (s * s) x3 x2
        have e2 := col_6 (X := s * s - x2 - x3) cs
        rw [e1, e2] at h12 ⊢
        exact aadd_comm (p := some _) (q := some _) h12 h1
      · have ex : s * s - x1 - x2 = x3 := lin_1 h
        have ey : s * (x1 - x3) - y1 = - y3 := col_3 cs ct
        have ex' : s * s - x2 - x3 = x1 := lin_2 h
        have ey' : s * (x2 - x1) - y2 = - y1 := col_4 cs
        rw [ex, ey, ex', ey', aadd_some, if_pos ⟨rfl, rfl⟩, aadd_some, if_pos ⟨rfl, neg2 _⟩]
    · have hd := ne_sub hst
      have hi := fi_mul hd
      have he := quo_1 (a := x1 - x3) hi
      generalize (x1 - x3) * fi (s - t) = e at he
      have hd' : t - s ≠ 0 := ne_sub fun h => hst h.symm
      have he' : e * (t - s) = x3 - x1 := lin_3 he |>.trans (neg_sub' _ _)
      have e12 := col_6 (X := s * s - x1 - x2) cs
      have e23 := col_6 (X := t * t - x2 - x3) ct
      have hu := sl_step hs ht hd he
      have hv := sl_symm (sl_step (sl_symm ht) (sl_symm hs) hd' he')
      rw [swap3 (t * t) x3 x2] at hv
      rw [e12] at h12 ⊢
      have hA := aadd_sl (sl_nonneg h12 hu) h12 h3 hu
      have hB := aadd_sl (sl_nonneg h1 hv) h1 h23 hv
      rw [hA, hB]
      have f0 := col_6 (X := (e - s) * (e - s) - (s * s - x1 - x2) - x3) hu.chord
      have f1 := asc_x (x2 := x2) he
      have f2 := asc_y (y1 := y1) (y3 := y3) (neg4 cs) (col_y ct) (neg5 he)
      rw [f0, f2, f1]
end Go.Proofs.Ytmbcolbbekbccaa
