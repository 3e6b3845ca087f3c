/- The inverse by halving, and reading bytes as digits: plain lemmas. The product of two numbers modulo a prime: plain lemmas. The field of the prime P: numbers below it, as a commutative ring with inverses. The points of P-256 over the field: sums, and points under way (x by z z, y by z z z). Points of the curve as the program holds them: plain lemmas, and their equality. Memory of a walk, the second way: a part S of the memory that is only read any more, and resources of the call's own. What walks compute: plain functions with values in Option, and how Go's values stand for Lean's. Conditions: as each theorem says. -/
import Derived.Test.YtmbcolbbekbccaaGreatQsB
namespace Go.Proofs.YtmbcolbbekbccaaGreat
open Go Go.RowKit
theorem cancel2 {p X Y : Nat} (hp : p % 2 = 1) (h : 2 * X % p = 2 * Y % p) : X % p = Y % p := by
 have e : ∀ Z, Z % p = (p + 1) / 2 * (2 * Z % p) % p := fun Z => by
  rw [Nat.mul_mod, Nat.mod_mod, ← Nat.mul_mod, ← Nat.mul_assoc, show (p + 1) / 2 * 2 = p + 1 by omega, Nat.add_mul, Nat.one_mul, Nat.add_comm, Nat.add_mul_mod_self_left]
 rw [e X, e Y, h]
theorem cancelA {p X Y v : Nat} (hp : 0 < p) (h : (X + v) % p = (Y + v) % p) : X % p = Y % p := by
 have hv := Nat.mod_lt v hp
 have e : ∀ Z, Z % p = ((Z + v) % p + (p - v % p)) % p := fun Z => by
  rw [Nat.mod_add_mod]
  have h1 := Nat.div_add_mod v p
  have : Z + v + (p - v % p) = Z + p * (v / p + 1) := by rw [Nat.mul_add, Nat.mul_one]; omega
  rw [this, Nat.add_mul_mod_self_left]
 rw [e X, e Y, h]
def hav (p x : Nat) : Nat := (if x % 2 = 1 then x + p else x) / 2
theorem hav_lt {p x : Nat} (h : x < p) : hav p x < p := by unfold hav; split <;> omega
theorem hav_mod {p x a u : Nat} (hp : p % 2 = 1) (hu : u % 2 = 0) (h : x * a % p = u % p) : hav p x * a % p = u / 2 % p := by
 refine cancel2 hp ?_
 rw [show 2 * (u / 2) = u by omega, ← h, ← Nat.mul_assoc]
 unfold hav
 split
 ·rw [show 2 * ((x + p) / 2) = x + p by omega, Nat.add_mul, Nat.add_mul_mod_self_left]
 ·rw [show 2 * (x / 2) = x by omega]
def lev (p x y : Nat) : Nat := (if x < y then x + p else x) - y
theorem lev_lt {p x y : Nat} (h : x < p) : lev p x y < p := by unfold lev; split <;> omega
theorem lev_mod {p x y a u v : Nat} (hp : 0 < p) (hy : y < p) (hvu : v ≤ u) (hx : x * a % p = u % p) (hv : y * a % p = v % p) : lev p x y * a % p = (u - v) % p := by
 refine cancelA (v := v) hp ?_
 rw [show u - v + v = u by omega, ← hx, Nat.add_mod, ← hv, ← Nat.add_mod, ← Nat.add_mul]
 unfold lev
 split
 ·rw [show x + p - y + y = x + p by omega, Nat.add_mul, Nat.add_mul_mod_self_left]
 ·rw [show x - y + y = x by omega]
structure InvI (m : Int) (A u v x y : Nat) : Prop where
 u0 : 0 < u
 v0 : 0 < v
 cop : Nat.Coprime u v
 ul : u ≤ modN m
 vl : v ≤ modN m
 xl : x < modN m
 yl : y < modN m
 xa : x * A % modN m = u % modN m
 ya : y * A % modN m = v % modN m
theorem modN_odd (m : Int) : modN m % 2 = 1 := by rcases zlB m with h | h <;> rw [h] <;> decide
theorem zhL (m : Int) : 0 < modN m := (zbF m).pos
theorem InvI.init {m : Int} {A : Nat} (h : A % modN m ≠ 0) : InvI m A (A % modN m) (modN m) 1 0 := by
 have hp := zbF m
 have hl := Nat.mod_lt A hp.pos
 refine ⟨Nat.pos_of_ne_zero h, hp.pos, ?_, Nat.le_of_lt hl, Nat.le_refl _, zjH m, hp.pos, by rw [Nat.one_mul, Nat.mod_mod], by rw [Nat.zero_mul, Nat.zero_mod, Nat.mod_self]⟩
 refine ((pr_modN m).cop fun hd => ?_).symm
 have := Nat.le_of_dvd (Nat.pos_of_ne_zero h) hd
 omega
theorem InvI.swap {m : Int} {A u v x y : Nat} (h : InvI m A u v x y) : InvI m A v u y x := ⟨h.v0, h.u0, h.cop.symm, h.vl, h.ul, h.yl, h.xl, h.ya, h.xa⟩
theorem InvI.half {m : Int} {A u v x y : Nat} (h : InvI m A u v x y) (hu : u % 2 ≠ 1) : InvI m A (u / 2) v (hav (modN m) x) y := by
 have h0 := h.u0; have hl := h.ul
 have he : u % 2 = 0 := by omega
 exact ⟨by omega, h.v0, Nat.Coprime.coprime_dvd_left ⟨2, by omega⟩ h.cop, by omega, h.vl, hav_lt h.xl, h.yl, hav_mod (modN_odd m) he h.xa, h.ya⟩
theorem InvI.odd {m : Int} {A u v x y : Nat} (h : InvI m A u v x y) (hu : u % 2 ≠ 1) : v % 2 = 1 := by
 have h0 := h.u0
 refine Classical.byContradiction fun hv => ?_
 have h1 : 2 ∣ Nat.gcd u v := Nat.dvd_gcd ⟨u / 2, by omega⟩ ⟨v / 2, by omega⟩
 rw [h.cop] at h1
 exact absurd (Nat.le_of_dvd (by decide) h1) (by decide)
theorem InvI.ne {m : Int} {A u v x y : Nat} (h : InvI m A u v x y) (hu : u ≠ 1 ∨ v ≠ 1) : u ≠ v := fun e => by
 have h1 := h.cop
 rw [e, Nat.coprime_self] at h1
 omega
theorem InvI.sub {m : Int} {A u v x y : Nat} (h : InvI m A u v x y) (hvu : v < u) : InvI m A (u - v) v (lev (modN m) x y) y := by
 have hl := h.ul; have hv := h.v0
 refine ⟨by omega, h.v0, ?_, by omega, h.vl, lev_lt h.xl, h.yl, lev_mod (zhL m) h.yl (Nat.le_of_lt hvu) h.xa h.ya, h.ya⟩
 have := h.cop
 unfold Nat.Coprime at *
 rw [← this, Nat.gcd_sub_self_left (Nat.le_of_lt hvu)]
theorem InvI.len {m : Int} {A u v x y : Nat} (h : InvI m A u v x y) : (digs u).length ≤ 16 ∧ (digs v).length ≤ 16 ∧ (digs x).length ≤ 16 ∧ (digs y).length ≤ 16 := by
 have e := zjU m
 exact ⟨e ▸ digs_mono h.ul, e ▸ digs_mono h.vl, e ▸ digs_mono (Nat.le_of_lt h.xl), e ▸ digs_mono (Nat.le_of_lt h.yl)⟩
theorem inv_unique {p A x y : Nat} (hp : Pr p) (hx : x < p) (hy : y < p) (h1 : x * A % p = 1) (h2 : y * A % p = 1) : x = y := by
 have e : ∀ z t : Nat, z < p → t * A % p = 1 → z = z * (t * A) % p := fun z t hz h => by rw [Nat.mul_mod, h, Nat.mul_one, Nat.mod_mod, Nat.mod_eq_of_lt hz]
 rw [e x y hx h2]
 conv => rhs; rw [e y x hy h1]
 rw [Nat.mul_left_comm]
theorem inv_pow {p A : Nat} (hp : Pr p) (hA : A % p ≠ 0) : A ^ (p - 2) % p * A % p = 1 := by
 have h2 := hp.1
 rw [Nat.mod_mul_mod, ← Nat.pow_succ, show (p - 2).succ = p - 1 by omega]
 exact hp.fermat1 fun hd => hA (Nat.mod_eq_zero_of_dvd hd)
theorem InvI.fin {m : Int} {A u v x y : Nat} (h : InvI m A u v x y) (hA : A % modN m ≠ 0) (hu : u = 1) : x = A ^ (modN m - 2) % modN m := by
 subst hu
 refine inv_unique (pr_modN m) h.xl (Nat.mod_lt _ (zhL m)) ?_ (inv_pow (pr_modN m) hA)
 rw [h.xa, Nat.mod_eq_of_lt (zjH m)]
theorem quo2w {n : Nat} (h : n < 4611686018427387904) : IntKind.i64.wrap ((n : Int).tdiv 2) = ((n / 2 : Nat) : Int) := by
 rw [show (2 : Int) = ((2 : Nat) : Int) from rfl, ← Int.ofNat_tdiv]
 exact wr64 (by omega) (by omega)
theorem p256 (k : Nat) : k % 2 = 0 ∧ 256 ^ (k % 2) = 1 ∨ k % 2 = 1 ∧ 256 ^ (k % 2) = 256 := by
 rcases Nat.mod_two_eq_zero_or_one k with h | h <;> rw [h] <;> simp
theorem read_pow (k : Nat) : 256 ^ k = 256 ^ (k % 2) * 65536 ^ (k / 2) := by
 rw [show (65536 : Nat) = 256 ^ 2 from rfl, ← Nat.pow_mul, ← Nat.pow_add]
 congr 1; omega
theorem read_shl {b : UInt8} (k : Nat) : IntKind.u32.wrap ((b.toNat : Int) * 2 ^ (min (((8 * (k % 2) : Nat) : Int).toNat) IntKind.u32.bits)) = ((b.toNat * 256 ^ (k % 2) : Nat) : Int) := by
 have hb := b.toNat_lt
 rcases Nat.mod_two_eq_zero_or_one k with h | h <;> rw [h]
 ·have e : (2 : Int) ^ (min (((8 * 0 : Nat) : Int).toNat) IntKind.u32.bits) = 1 := by decide
  rw [e]
  exact (wrapS (k := .u32) rfl (n := b.toNat * 1) (Nat.lt_trans (by omega) (show 256 < 2 ^ IntKind.u32.bits by decide))) ▸ by simp
 ·have e : (2 : Int) ^ (min (((8 * 1 : Nat) : Int).toNat) IntKind.u32.bits) = 256 := by decide
  rw [e, show (b.toNat : Int) * 256 = ((b.toNat * 256 : Nat) : Int) by omega]
  exact wrapS rfl (Nat.lt_trans (show b.toNat * 256 < 65537 by omega) (by decide))
theorem dval_set {zs : List Nat} {i d c : Nat} (h : zs[i]? = some d) : dval (zs.set i (d + c)) = dval zs + c * 65536 ^ i := by
 induction zs generalizing i with
 | nil => cases h
 | cons x zs ih =>
  cases i with
  | zero => obtain rfl : x = d := by simpa using h
            simp [dval]; omega
  | succ i =>
   rw [List.set_cons_succ, dval, dval, ih (by simpa using h), Nat.pow_succ, Nat.mul_add, Nat.mul_left_comm 65536 c, Nat.mul_comm 65536 (65536 ^ i)]
   omega
theorem dval_ge {zs : List Nat} {i d : Nat} (h : zs[i]? = some d) : d * 65536 ^ i ≤ dval zs := by
 induction zs generalizing i with
 | nil => cases h
 | cons x zs ih =>
  cases i with
  | zero => obtain rfl : x = d := by simpa using h
            simp [dval]
  | succ i =>
   have := ih (i := i) (by simpa using h)
   rw [dval, Nat.pow_succ, ← Nat.mul_assoc]
   omega
theorem bval_cons (b : UInt8) (l : List UInt8) : bval (b :: l) = b.toNat * 256 ^ l.length + bval l := by
 rw [show b :: l = [b] ++ l from rfl, bval_append]
 simp [bval]
theorem read_step {l : List UInt8} {zs : List Nat} {k d : Nat} {b : UInt8} (hk : k < l.length) (hzd : DL zs) (hzv : dval zs = bval (l.drop (l.length - k))) (hd : zs[k / 2]? = some d) (hb : l[l.length - 1 - k]? = some b) :
  d < 256 ^ (k % 2) ∧ DL (zs.set (k / 2) (d + b.toNat * 256 ^ (k % 2))) ∧ dval (zs.set (k / 2) (d + b.toNat * 256 ^ (k % 2))) = bval (l.drop (l.length - (k + 1))) := by
 have hlt : bval (l.drop (l.length - k)) < 256 ^ k := bval_lt_of (by rw [List.length_drop]; omega)
 have hd1 : d < 256 ^ (k % 2) := by
  have h1 := dval_ge hd
  rw [hzv] at h1
  have h2 := Nat.lt_of_le_of_lt h1 hlt
  rw [read_pow k] at h2
  exact Nat.lt_of_mul_lt_mul_right h2
 have hb2 := b.toNat_lt
 refine ⟨hd1, fun x hx => ?_, ?_⟩
 ·rcases List.mem_or_eq_of_mem_set hx with h | h
  ·exact hzd x h
  ·rw [h]
   rcases p256 k with ⟨h0, e⟩ | ⟨h0, e⟩ <;> rw [e] at hd1 ⊢ <;> omega
 ·rw [dval_set hd, hzv, Nat.mul_assoc, ← read_pow]
  have h1 : l.drop (l.length - (k + 1)) = b :: l.drop (l.length - k) := by
   have hi : l.length - (k + 1) < l.length := by omega
   rw [List.drop_eq_getElem_cons hi]
   have h2 : l[l.length - (k + 1)]? = some b := by rw [← hb]; congr 1; omega
   rw [List.getElem?_eq_getElem hi] at h2
   injection h2 with h2
   rw [h2]
   congr 2; omega
  rw [h1, bval_cons, List.length_drop, show l.length - (l.length - k) = k by omega, Nat.add_comm]
theorem read_0 {zs : List Nat} {k : Nat} (hz : zs.length = (k + 1) / 2) (h2 : k % 2 = 0) : (zs ++ [0])[k / 2]? = some 0 ∧ (zs ++ [0]).length = k / 2 + 1 := by
 have e : k / 2 = zs.length := by omega
 rw [e]; simp
theorem read_1 {zs : List Nat} {k : Nat} (hz : zs.length = (k + 1) / 2) (h2 : k % 2 ≠ 0) : ∃ d, zs[k / 2]? = some d := ⟨_, List.getElem?_eq_getElem (by omega)⟩
theorem dval_snoc0 (zs : List Nat) : dval (zs ++ [0]) = dval zs := by rw [dval_snoc, Nat.mul_zero, Nat.add_zero]
theorem be_add (n : Nat) : ∀ (m A : Nat), be (n + m) A = be n (A / 256 ^ m) ++ be m A
 | 0, A => by simp [be]
 | m + 1, A => by
  rw [show n + (m + 1) = n + m + 1 from rfl, be_succ, be_add n m, be_succ, List.append_assoc, Nat.div_div_eq_div_mul, Nat.pow_succ, Nat.mul_comm]
theorem inv_f {m : Int} {A : Nat} (h : A % modN m ≠ 0) : invV m A = A ^ (modN m - 2) % modN m ∧ invE m A = 0 := by simp [invV, invE, h]
theorem bits_or_nat {a b : Int} (ha : U a) (hb : U b) : bits .or .u64 a b = ((a.toNat ||| b.toNat : Nat) : Int) := by
 obtain ⟨A, rfl⟩ := Int.eq_ofNat_of_zero_le ha.1
 obtain ⟨B, rfl⟩ := Int.eq_ofNat_of_zero_le hb.1
 have hA : A < 2 ^ 64 := by have := ha.2; omega
 have hB : B < 2 ^ 64 := by have := hb.2; omega
 have h : (BitVec.ofInt 64 (A : Int) ||| BitVec.ofInt 64 (B : Int)).toNat = A ||| B := by
  simp [BitVec.toNat_or, BitVec.toNat_ofInt]
  rw [Nat.mod_eq_of_lt (by omega), Nat.mod_eq_of_lt (by omega)]
 have h2 := Nat.or_lt_two_pow hA hB
 simp only [bits, Int.toNat_natCast]
 show IntKind.u64.wrap ((BitVec.ofInt 64 (A : Int) ||| BitVec.ofInt 64 (B : Int)).toNat : Int) = _
 rw [h]
 exact wru rfl (by omega) (by show _ < (2 : Int) ^ 64; omega)
theorem U_or {a b : Int} (ha : U a) (hb : U b) : U (bits .or .u64 a b) := by
 rw [bits_or_nat ha hb]
 have := Nat.or_lt_two_pow (n := 64) (show a.toNat < 2 ^ 64 by have := ha.2; have := ha.1; omega) (show b.toNat < 2 ^ 64 by have := hb.2; have := hb.1; omega)
 unfold U; omega
theorem or_zero {a b : Int} (ha : U a) (hb : U b) : bits .or .u64 a b = 0 ↔ a = 0 ∧ b = 0 := by
 rw [bits_or_nat ha hb]
 have h0 : (a.toNat ||| b.toNat) = 0 ↔ a.toNat = 0 ∧ b.toNat = 0 := Nat.or_eq_zero_iff
 have := ha.1; have := hb.1
 omega
theorem or4_ne (X : Nat) (h : X < zaE * zaE) : (bits .or .u64 (bits .or .u64 (bits .or .u64 (lm X 4) (lm X 5)) (lm X 6)) (lm X 7) != 0) = decide (zaE ≤ X) := by
 have h4 := U_lm X 4; have h5 := U_lm X 5; have h6 := U_lm X 6; have h7 := U_lm X 7
 have e : bits .or .u64 (bits .or .u64 (bits .or .u64 (lm X 4) (lm X 5)) (lm X 6)) (lm X 7) = 0 ↔ lm X 4 = 0 ∧ lm X 5 = 0 ∧ lm X 6 = 0 ∧ lm X 7 = 0 := by
  rw [or_zero (U_or (U_or h4 h5) h6) h7, or_zero (U_or h4 h5) h6, or_zero h4 h5]
  simp only [and_assoc]
 have e2 : (lm X 4 = 0 ∧ lm X 5 = 0 ∧ lm X 6 = 0 ∧ lm X 7 = 0) ↔ X < zaE := by
  unfold lm zaE at *
  simp only [pw4, pw5, pw6, pw7, pw64]
  omega
 rw [Bool.eq_iff_iff]
 simp only [bne_iff_ne, ne_eq, decide_eq_true_eq]
 rw [e, e2]; omega
theorem lm_hi (X i : Nat) : lm X (4 + i) = lm (X / zaE) i := by
 unfold lm
 rw [show 64 * (4 + i) = 256 + 64 * i by omega, Nat.pow_add, ← Nat.div_div_eq_div_mul]
 rfl
theorem numL_hi (X : Nat) : ([.int .u64 (lm X 4), .int .u64 (lm X 5), .int .u64 (lm X 6), .int .u64 (lm X 7)] : List Value) = numL (X / zaE) := by
 unfold numL
 rw [← lm_hi, ← lm_hi, ← lm_hi, ← lm_hi]
theorem numL_lo (X : Nat) : ([.int .u64 (lm X 0), .int .u64 (lm X 1), .int .u64 (lm X 2), .int .u64 (lm X 3)] : List Value) = numL X := rfl
theorem outL_of8 {d0 d1 d2 d3 d4 d5 d6 d7 : Int} (h0 : U d0) (h1 : U d1) (h2 : U d2) (h3 : U d3) (h4 : U d4) (h5 : U d5) (h6 : U d6) (h7 : U d7) {X : Nat}
  (h : d0 + d1 * wv 1 + d2 * wv 2 + d3 * wv 3 + d4 * wv 4 + d5 * wv 5 + d6 * wv 6 + d7 * wv 7 = (X : Int)) :
  ([.int .u64 d0, .int .u64 d1, .int .u64 d2, .int .u64 d3, .int .u64 d4, .int .u64 d5, .int .u64 d6, .int .u64 d7] : List Value) = outL (lm X) := by
 let f : Nat → Int := fun s => if s = 0 then d0 else if s = 1 then d1 else if s = 2 then d2 else if s = 3 then d3 else if s = 4 then d4 else if s = 5 then d5 else if s = 6 then d6 else d7
 have hf : ∀ s, U (f s) := fun s => by
  show U (if s = 0 then d0 else if s = 1 then d1 else if s = 2 then d2 else if s = 3 then d3 else if s = 4 then d4 else if s = 5 then d5 else if s = 6 then d6 else d7)
  repeat' (split; assumption)
  assumption
 exact outL_of (f := f) hf h
def add8L (y0 y1 y2 y3 y4 y5 y6 y7 x0 x1 x2 x3 : Int) : List Value :=
 [.int .u64 (ad y0 x0 0), .int .u64 (ad y1 x1 (ac y0 x0 0)), .int .u64 (ad y2 x2 (ac y1 x1 (ac y0 x0 0))), .int .u64 (ad y3 x3 (ac y2 x2 (ac y1 x1 (ac y0 x0 0)))),
  .int .u64 (ad y4 0 (ac y3 x3 (ac y2 x2 (ac y1 x1 (ac y0 x0 0))))), .int .u64 (ad y5 0 (ac y4 0 (ac y3 x3 (ac y2 x2 (ac y1 x1 (ac y0 x0 0)))))),
  .int .u64 (ad y6 0 (ac y5 0 (ac y4 0 (ac y3 x3 (ac y2 x2 (ac y1 x1 (ac y0 x0 0))))))), .int .u64 (ad y7 0 (ac y6 0 (ac y5 0 (ac y4 0 (ac y3 x3 (ac y2 x2 (ac y1 x1 (ac y0 x0 0))))))))]
theorem add8_fin (Y X : Nat) (hY : Y < zaE * zaE) (h : Y + X % zaE < zaE * zaE) :
  add8L (lm Y 0) (lm Y 1) (lm Y 2) (lm Y 3) (lm Y 4) (lm Y 5) (lm Y 6) (lm Y 7) (lm X 0) (lm X 1) (lm X 2) (lm X 3) = outL (lm (Y + X % zaE)) := by
 have vY := val8_lm hY
 have vX := lm_val X
 unfold val8 at vY
 have y0 := U_lm Y 0; have y1 := U_lm Y 1; have y2 := U_lm Y 2; have y3 := U_lm Y 3; have y4 := U_lm Y 4; have y5 := U_lm Y 5; have y6 := U_lm Y 6; have y7 := U_lm Y 7
 have x0 := U_lm X 0; have x1 := U_lm X 1; have x2 := U_lm X 2; have x3 := U_lm X 3
 unfold add8L
 generalize lm Y 0 = a0 at *; generalize lm Y 1 = a1 at *; generalize lm Y 2 = a2 at *; generalize lm Y 3 = a3 at *
 generalize lm Y 4 = a4 at *; generalize lm Y 5 = a5 at *; generalize lm Y 6 = a6 at *; generalize lm Y 7 = a7 at *
 generalize lm X 0 = b0 at *; generalize lm X 1 = b1 at *; generalize lm X 2 = b2 at *; generalize lm X 3 = b3 at *
 have c0 := C_ac a0 b0 0; have e0 := ad_eq y0 x0 C1_0; have u0 := U_ad a0 b0 0
 generalize ac a0 b0 0 = s0 at *; generalize ad a0 b0 0 = d0 at *
 have c1 := C_ac a1 b1 s0; have e1 := ad_eq y1 x1 c0; have u1 := U_ad a1 b1 s0
 generalize ac a1 b1 s0 = s1 at *; generalize ad a1 b1 s0 = d1 at *
 have c2 := C_ac a2 b2 s1; have e2 := ad_eq y2 x2 c1; have u2 := U_ad a2 b2 s1
 generalize ac a2 b2 s1 = s2 at *; generalize ad a2 b2 s1 = d2 at *
 have c3 := C_ac a3 b3 s2; have e3 := ad_eq y3 x3 c2; have u3 := U_ad a3 b3 s2
 generalize ac a3 b3 s2 = s3 at *; generalize ad a3 b3 s2 = d3 at *
 have c4 := C_ac a4 0 s3; have e4 := ad_eq y4 U_0 c3; have u4 := U_ad a4 0 s3
 generalize ac a4 0 s3 = s4 at *; generalize ad a4 0 s3 = d4 at *
 have c5 := C_ac a5 0 s4; have e5 := ad_eq y5 U_0 c4; have u5 := U_ad a5 0 s4
 generalize ac a5 0 s4 = s5 at *; generalize ad a5 0 s4 = d5 at *
 have c6 := C_ac a6 0 s5; have e6 := ad_eq y6 U_0 c5; have u6 := U_ad a6 0 s5
 generalize ac a6 0 s5 = s6 at *; generalize ad a6 0 s5 = d6 at *
 have c7 := C_ac a7 0 s6; have e7 := ad_eq y7 U_0 c6; have u7 := U_ad a7 0 s6
 generalize ac a7 0 s6 = s7 at *; generalize ad a7 0 s6 = d7 at *
 refine outL_of8 u0 u1 u2 u3 u4 u5 u6 u7 ?_
 have w1 : wv 1 = 18446744073709551616 := rfl
 have w2 : wv 2 = 340282366920938463463374607431768211456 := rfl
 have w3 : wv 3 = 6277101735386680763835789423207666416102355444464034512896 := rfl
 have w4 : wv 4 = 115792089237316195423570985008687907853269984665640564039457584007913129639936 := rfl
 have w5 : wv 5 = 2135987035920910082395021706169552114602704522356652769947041607822219725780640550022962086936576 := rfl
 have w6 : wv 6 = 39402006196394479212279040100143613805079739270465446667948293404245721771497210611414266254884915640806627990306816 := rfl
 have w7 : wv 7 = 726838724295606890549323807888004534353641360687318060281490199180639288113397923326191050713763565560762521606266177933534601628614656 := rfl
 rw [w1, w2, w3, w4, w5, w6, w7] at vY ⊢
 unfold zaE C1 U at *
 clear w1 w2 w3 w4 w5 w6 w7
 have hX : ((X % 115792089237316195423570985008687907853269984665640564039457584007913129639936 : Nat) : Int) = b0 + b1 * 18446744073709551616 + b2 * 340282366920938463463374607431768211456 + b3 * 6277101735386680763835789423207666416102355444464034512896 := vX.symm
 generalize X % 115792089237316195423570985008687907853269984665640564039457584007913129639936 = R at *
 clear x0 x1 x2 x3 y0 y1 y2 y3 y4 y5 y6 y7 vX c0 c1 c2 c3 c4 c5 c6
 omega
theorem fold_lt {X p : Nat} (hp : Mod p) (h : zaE ≤ X) : X / zaE * (zaE - p) + X % zaE < X := by
 have h1 := Nat.div_add_mod X zaE
 have h2 : 1 ≤ X / zaE := (Nat.le_div_iff_mul_le zcL).2 (by omega)
 have h3 := hp.lt; have h4 := hp.pos
 have h5 : X / zaE * (zaE - p) + X / zaE * p = X / zaE * zaE := by rw [← Nat.mul_add]; congr 1; omega
 have h6 : 1 ≤ X / zaE * p := Nat.mul_pos h2 h4
 rw [Nat.mul_comm] at h1
 omega
theorem fold_mod {X p : Nat} (hp : Mod p) : (X / zaE * (zaE - p) + X % zaE) % p = X % p := by
 have h1 := Nat.div_add_mod X zaE
 have h3 := hp.lt
 have h5 : X / zaE * (zaE - p) + X / zaE * p = X / zaE * zaE := by rw [← Nat.mul_add]; congr 1; omega
 rw [Nat.mul_comm] at h1
 have h7 : X = (X / zaE * (zaE - p) + X % zaE) + X / zaE * p := by omega
 calc (X / zaE * (zaE - p) + X % zaE) % p = ((X / zaE * (zaE - p) + X % zaE) + X / zaE * p) % p := by rw [Nat.add_mul_mod_self_right]
  _ = X % p := by rw [← h7]
theorem HP.recast {w0 w : World} {L : List Ent} {k b : Nat} {cs cs' : List Value} {T : TypeId} (h : HP w0 w L) (hk : lk L k = some (b, cs, T)) (e : cs = cs') : HP w0 w (st L k (b, cs', T)) := by
 subst e
 exact h.set hk rfl rfl rfl rfl (h.blk k b cs T hk).1 (fun _ _ => rfl)
instance : NeZero PP := ⟨by decide⟩
abbrev Fp : Type := Fin PP
def cl (a : Nat) : Fp := Fin.ofNat PP a
theorem cl_val (a : Nat) : (cl a).val = a % PP := rfl
theorem cl_eq {a b : Nat} : cl a = cl b ↔ a % PP = b % PP := by
 constructor
 ·intro h; exact congrArg Fin.val h
 ·intro h; exact Fin.ext h
theorem cl_inj {a b : Nat} (ha : a < PP) (hb : b < PP) (h : cl a = cl b) : a = b := by
 have := cl_eq.1 h
 rwa [Nat.mod_eq_of_lt ha, Nat.mod_eq_of_lt hb] at this
theorem cl_mod (a : Nat) : cl (a % PP) = cl a := cl_eq.2 (Nat.mod_mod _ _)
theorem zgU (x : Fp) : cl x.val = x := Fin.ext (Nat.mod_eq_of_lt x.isLt)
theorem cl_add (a b : Nat) : cl (a + b) = cl a + cl b := Fin.ext (by rw [cl_val, Fin.val_add, cl_val, cl_val, ← Nat.add_mod])
theorem cl_mul (a b : Nat) : cl (a * b) = cl a * cl b := Fin.ext (by rw [cl_val, Fin.val_mul, cl_val, cl_val, ← Nat.mul_mod])
theorem cl_0 : cl 0 = 0 := rfl
theorem cl_1 : cl 1 = 1 := rfl
theorem cl_PP : cl PP = 0 := cl_eq.2 (by rw [Nat.mod_self, Nat.zero_mod])
theorem cl_neg {a : Nat} (h : a ≤ PP) : cl (PP - a) = - cl a := by
 have e : cl (PP - a) + cl a = 0 := by rw [← cl_add, Nat.sub_add_cancel h, cl_PP]
 grind
theorem cl_eq0 {a : Nat} : cl a = 0 ↔ a % PP = 0 := by
 rw [← cl_0, cl_eq, Nat.zero_mod]
theorem cl_lt0 {a : Nat} (h : a < PP) : cl a = 0 ↔ a = 0 := by rw [cl_eq0, Nat.mod_eq_of_lt h]
theorem fp_mul0 {a b : Fp} (h : a * b = 0) : a = 0 ∨ b = 0 := by
 have h1 : a.val * b.val % PP = 0 := by
  have := congrArg Fin.val h
  rwa [Fin.val_mul] at this
 rcases pr_PP.mul (Nat.dvd_of_mod_eq_zero h1) with h2 | h2
 ·left; exact Fin.ext ((Nat.mod_eq_of_lt a.isLt) ▸ Nat.mod_eq_zero_of_dvd h2)
 ·right; exact Fin.ext ((Nat.mod_eq_of_lt b.isLt) ▸ Nat.mod_eq_zero_of_dvd h2)
def fi (a : Fp) : Fp := cl (a.val ^ (PP - 2))
theorem fi_mul {a : Fp} (h : a ≠ 0) : fi a * a = 1 := by
 have h0 : a.val % PP ≠ 0 := fun e => h (Fin.ext (by rw [Nat.mod_eq_of_lt a.isLt] at e; exact e))
 have e : fi a * a = cl (a.val ^ (PP - 2) * a.val) := by rw [cl_mul, zgU]; rfl
 rw [e]
 refine cl_eq.2 ?_
 have h2 := pr_PP.1
 rw [← Nat.pow_succ, show (PP - 2).succ = PP - 1 by omega, pr_PP.fermat1 fun hd => h0 (Nat.mod_eq_zero_of_dvd hd)]
 rfl
theorem fi_0 : fi 0 = 0 := by
 have h : 0 < PP - 2 := by have := pr_PP.1; unfold PP; decide
 have e : (0 : Fp).val = 0 := rfl
 unfold fi
 rw [e, Nat.zero_pow h, cl_0]
theorem zlG {a b c : Fp} (hc : c ≠ 0) (h : a * c = b * c) : a = b := by
 have h1 : (a - b) * c = 0 := by grind
 rcases fp_mul0 h1 with h2 | h2
 ·grind
 ·exact absurd h2 hc
theorem two_ne : (2 : Fp) ≠ 0 := fun h => by
 have : cl 2 = cl 0 := h
 exact absurd (cl_inj (by decide) (by decide) this) (by decide)
theorem fi_unique {a i : Fp} (h : i * a = 1) : i = fi a := by
 have ha : a ≠ 0 := fun e => by
  rw [e] at h
  have : cl 0 = cl 1 := by rw [cl_0, cl_1, ← h]; grind
  exact absurd (cl_inj (by decide) (by decide) this) (by decide)
 exact zlG ha (by rw [h, fi_mul ha])
theorem one_ne : (1 : Fp) ≠ 0 := fun h => by
 have : cl 1 = cl 0 := h
 exact absurd (cl_inj (by decide) (by decide) this) (by decide)
def bb : Nat := 41058363725152142129326129780047268409114441015993725554835256314039467401291
def fb : Fp := cl bb
def onE (x y : Fp) : Prop := y * y = x * (x * x) - 3 * x + fb
abbrev Pt : Type := Option (Fp × Fp)
def onP : Pt → Prop
 | none => True
 | some (x, y) => onE x y
def zkZ (x1 y1 x2 y2 : Fp) : Fp := if x1 = x2 ∧ y1 = y2 then (3 * (x1 * x1) - 3) * fi (y1 + y1) else (y2 - y1) * fi (x2 - x1)
def aadd : Pt → Pt → Pt
 | none, q => q
 | p, none => p
 | some (x1, y1), some (x2, y2) => if x1 = x2 ∧ y1 = - y2 then none else
  some (zkZ x1 y1 x2 y2 * zkZ x1 y1 x2 y2 - x1 - x2, zkZ x1 y1 x2 y2 * (x1 - (zkZ x1 y1 x2 y2 * zkZ x1 y1 x2 y2 - x1 - x2)) - y1)
def aneg : Pt → Pt
 | none => none
 | some (x, y) => some (x, - y)
theorem zgL (p : Pt) : aadd p none = p := by cases p <;> rfl
theorem zgJ (p : Pt) : aadd none p = p := by cases p <;> rfl
structure Sl (x1 y1 x2 y2 s : Fp) : Prop where
 chord : s * (x2 - x1) = y2 - y1
 tang : 2 * y1 * s + s * s * (x2 - x1) = x1 * x1 + x1 * x2 + x2 * x2 - 3
theorem ne_neg {x1 y1 x2 y2 : Fp} (h1 : onE x1 y1) (h2 : onE x2 y2) (hx : x1 = x2) : y1 = y2 ∨ y1 = - y2 := by
 unfold onE at h1 h2
 subst hx
 have h3 : (y1 - y2) * (y1 + y2) = 0 := by grind
 rcases fp_mul0 h3 with h | h
 ·left; grind
 ·right; grind
theorem sl_of {x1 y1 x2 y2 : Fp} (h1 : onE x1 y1) (h2 : onE x2 y2) (hn : ¬ (x1 = x2 ∧ y1 = - y2)) : Sl x1 y1 x2 y2 (zkZ x1 y1 x2 y2) := by
 unfold zkZ
 by_cases hx : x1 = x2
 ·have hy : y1 = y2 := (ne_neg h1 h2 hx).resolve_right fun h => hn ⟨hx, h⟩
  subst hx; subst hy
  rw [if_pos ⟨rfl, rfl⟩]
  have hz : y1 + y1 ≠ 0 := fun h => hn ⟨rfl, by grind⟩
  have hi := fi_mul hz
  constructor
  ·grind
  ·grind
 ·rw [if_neg fun h => hx h.1]
  have hd : x2 - x1 ≠ 0 := fun h => hx (by grind)
  have hi := fi_mul hd
  generalize fi (x2 - x1) = i at hi
  have hc : (y2 - y1) * i * (x2 - x1) = y2 - y1 := by grind
  generalize (y2 - y1) * i = s at hc
  refine ⟨hc, zlG hd ?_⟩
  unfold onE at h1 h2
  have e : y2 = y1 + s * (x2 - x1) := by grind
  subst e
  grind
theorem on_slope {x1 y1 x2 y2 s : Fp} (h1 : onE x1 y1) (hs : Sl x1 y1 x2 y2 s) : onE (s * s - x1 - x2) (s * (x1 - (s * s - x1 - x2)) - y1) := by
 have hk := hs.tang
 unfold onE at *
 grind
theorem zeW (x1 y1 x2 y2 : Fp) : aadd (some (x1, y1)) (some (x2, y2)) = if x1 = x2 ∧ y1 = - y2 then none else
  some (zkZ x1 y1 x2 y2 * zkZ x1 y1 x2 y2 - x1 - x2, zkZ x1 y1 x2 y2 * (x1 - (zkZ x1 y1 x2 y2 * zkZ x1 y1 x2 y2 - x1 - x2)) - y1) := rfl
theorem on_add {p q : Pt} (hp : onP p) (hq : onP q) : onP (aadd p q) := by
 match p, q with
 | none, q => rw [zgJ]; exact hq
 | some p, none => rw [zgL]; exact hp
 | some (x1, y1), some (x2, y2) =>
  rw [zeW]
  by_cases h : x1 = x2 ∧ y1 = - y2
  ·rw [if_pos h]; trivial
  ·rw [if_neg h]; exact on_slope hp (sl_of hp hq h)
theorem on_neg {p : Pt} (hp : onP p) : onP (aneg p) := by
 match p with
 | none => trivial
 | some (x, y) =>
  show onE x (- y)
  have h : onE x y := hp
  unfold onE at *
  grind
theorem sl_unique {x1 y1 x2 y2 s t : Fp} (hn : ¬ (x1 = x2 ∧ y1 = - y2)) (h1 : onE x1 y1) (h2 : onE x2 y2) (hs : Sl x1 y1 x2 y2 s) (ht : Sl x1 y1 x2 y2 t) : s = t := by
 by_cases hx : x1 = x2
 ·have hy : y1 = y2 := (ne_neg h1 h2 hx).resolve_right fun h => hn ⟨hx, h⟩
  have hz : y1 + y1 ≠ 0 := fun h => hn ⟨hx, by grind⟩
  have a := hs.tang; have b := ht.tang
  subst hx
  exact zlG hz (by grind)
 ·have hd : x2 - x1 ≠ 0 := fun h => hx (by grind)
  exact zlG hd (hs.chord.trans ht.chord.symm)
theorem aadd_sl {x1 y1 x2 y2 s : Fp} (hn : ¬ (x1 = x2 ∧ y1 = - y2)) (h1 : onE x1 y1) (h2 : onE x2 y2) (hs : Sl x1 y1 x2 y2 s) : aadd (some (x1, y1)) (some (x2, y2)) = some (s * s - x1 - x2, s * (x1 - (s * s - x1 - x2)) - y1) := by
 rw [zeW, if_neg hn, sl_unique hn h1 h2 (sl_of h1 h2 hn) hs]
theorem sl_symm {x1 y1 x2 y2 s : Fp} (hs : Sl x1 y1 x2 y2 s) : Sl x2 y2 x1 y1 s := by
 have a := hs.chord; have b := hs.tang
 constructor
 ·grind
 ·grind
theorem aadd_comm {p q : Pt} (hp : onP p) (hq : onP q) : aadd p q = aadd q p := by
 match p, q with
 | none, q => rw [zgJ, zgL]
 | some p, none => rw [zgJ, zgL]
 | some (x1, y1), some (x2, y2) =>
  by_cases h : x1 = x2 ∧ y1 = - y2
  ·have h' : x2 = x1 ∧ y2 = - y1 := ⟨h.1.symm, by have := h.2; grind⟩
   rw [zeW, if_pos h, zeW, if_pos h']
  ·have h' : ¬ (x2 = x1 ∧ y2 = - y1) := fun e => h ⟨e.1.symm, by have := e.2; grind⟩
   have hs := sl_of hp hq h
   rw [aadd_sl h hp hq hs, aadd_sl h' hq hp (sl_symm hs)]
   have hc := hs.chord
   generalize zkZ x1 y1 x2 y2 = s at hc
   have e1 : s * s - x1 - x2 = s * s - x2 - x1 := by grind
   have e2 : s * (x1 - (s * s - x1 - x2)) - y1 = s * (x2 - (s * s - x2 - x1)) - y2 := by grind
   rw [e2, e1]
theorem bb_ne : fb * fb - 4 ≠ 0 := fun h => by
 have e : cl (bb * bb) = cl 4 := by
  have h1 : cl (bb * bb) = fb * fb := cl_mul _ _
  have h2 : cl 4 = 4 := rfl
  rw [h1, h2]; grind
 exact absurd (cl_eq.1 e) (by decide)
theorem no_sing {x : Fp} (h : onE x 0) (ht : x * x + x * x + x * x - 3 = 0) : False := by
 unfold onE at h
 have h3 : (3 : Fp) ≠ 0 := fun h => by
  have : cl 3 = cl 0 := h
  exact absurd (cl_inj (by decide) (by decide) this) (by decide)
 have h1 : x * x = 1 := zlG h3 (by grind)
 refine bb_ne ?_
 have h2 : fb = 2 * x := by grind
 rw [h2]; grind
theorem sl_nonneg {x1 y1 x2 y2 s : Fp} (h1 : onE x1 y1) (hs : Sl x1 y1 x2 y2 s) : ¬ (x1 = x2 ∧ y1 = - y2) := fun ⟨hx, hy⟩ => by
 subst hx
 have a := hs.chord; have b := hs.tang
 have h0 : y2 = 0 := zlG two_ne (by grind)
 have h0' : y1 = 0 := by grind
 subst h0'
 exact no_sing h1 (by grind)
theorem acancel {p q : Pt} (hp : onP p) (hq : onP q) : aadd (aneg p) (aadd p q) = q := by
 match p, q with
 | none, q => rw [zgJ]; exact zgJ _
 | some (x, y), none =>
  rw [zgL]
  show aadd (some (x, - y)) (some (x, y)) = none
  rw [zeW, if_pos ⟨rfl, rfl⟩]
 | some (x1, y1), some (x2, y2) =>
  by_cases h : x1 = x2 ∧ y1 = - y2
  ·rw [zeW, if_pos h, zgL]
   show some (x1, - y1) = some (x2, y2)
   rw [h.1, h.2]; congr 2; grind
  ·have hs := sl_of hp hq h
   rw [aadd_sl h hp hq hs]
   have h3 := on_slope hp hs
   have h1 : onE x1 y1 := hp
   generalize zkZ x1 y1 x2 y2 = s at hs h3
   have a := hs.chord; have b := hs.tang
   have hm : Sl x1 (- y1) (s * s - x1 - x2) (s * (x1 - (s * s - x1 - x2)) - y1) (- s) := by
    constructor
    ·grind
    ·grind
   have hn1 : onE x1 (- y1) := on_neg (p := some (x1, y1)) h1
   show aadd (some (x1, - y1)) _ = _
   rw [aadd_sl (sl_nonneg hn1 hm) hn1 h3 hm]
   have e1 : - s * - s - x1 - (s * s - x1 - x2) = x2 := by grind
   have e2 : - s * (x1 - x2) - - y1 = y2 := by grind
   rw [e1, e2]
theorem col_y {x1 y1 x2 y2 s : Fp} (cs : s * (x2 - x1) = y2 - y1) : y2 = y1 + s * (x2 - x1) := by grobner
theorem col_1 {x1 y1 x2 x3 s : Fp} (ts : 2 * y1 * s + s * s * (x2 - x1) = x1 * x1 + x1 * x2 + x2 * x2 - 3)
  (tt : 2 * (y1 + s * (x2 - x1)) * s + s * s * (x3 - x2) = x2 * x2 + x2 * x3 + x3 * x3 - 3) : (x1 - x3) * (s * s - x1 - x2 - x3) = 0 := by grobner
theorem col {x1 y1 x2 y2 x3 s : Fp} (cs : s * (x2 - x1) = y2 - y1) (ts : 2 * y1 * s + s * s * (x2 - x1) = x1 * x1 + x1 * x2 + x2 * x2 - 3)
  (tt : 2 * y2 * s + s * s * (x3 - x2) = x2 * x2 + x2 * x3 + x3 * x3 - 3) : (x1 - x3) * (s * s - x1 - x2 - x3) = 0 := by
 rw [col_y cs] at tt
 exact col_1 ts tt
theorem lin_0 {a b : Fp} (h : a - b = 0) : b = a := by grobner
theorem lin_1 {a b c d : Fp} (h : a - b - c - d = 0) : a - b - c = d := by grobner
theorem lin_2 {a b c d : Fp} (h : a - b - c - d = 0) : a - c - d = b := by grobner
theorem lin_3 {a b c d : Fp} (h : a * (b - c) = d) : a * (c - b) = - d := by grobner
theorem col_3 {x1 y1 x2 y2 x3 y3 s : Fp} (cs : s * (x2 - x1) = y2 - y1) (ct : s * (x3 - x2) = y3 - y2) : s * (x1 - x3) - y1 = - y3 := by grobner
theorem col_4 {x1 y1 x2 y2 s : Fp} (cs : s * (x2 - x1) = y2 - y1) : s * (x2 - x1) - y2 = - y1 := by grobner
theorem col_5 {x1 y1 x2 y2 y3 s : Fp} (cs : s * (x2 - x1) = y2 - y1) (ct : s * (x1 - x2) = y3 - y2) : y3 = y1 := by grobner
theorem col_6 {x1 y1 x2 y2 X s : Fp} (cs : s * (x2 - x1) = y2 - y1) : s * (x1 - X) - y1 = s * (x2 - X) - y2 := by grobner
theorem neg2 (a : Fp) : a = - - a := by grobner
theorem swap3 (a b c : Fp) : a - b - c = a - c - b := by grobner
theorem neg3 (a b c : Fp) : a = b - c - (b - a - c) := by grobner
theorem neg_sub' (a b : Fp) : - (a - b) = b - a := by grobner
theorem neg4 {x1 y1 x2 y2 s : Fp} (cs : s * (x2 - x1) = y2 - y1) : y1 = y2 - s * (x2 - x1) := by grobner
theorem neg5 {e d a b : Fp} (he : e * d = a - b) : a = b + e * d := by grobner
theorem ne_sub {s t : Fp} (h : ¬ s = t) : s - t ≠ 0 := fun e => h (by grobner)
theorem quo_1 {a i d : Fp} (hi : i * d = 1) : a * i * d = a := by grobner
theorem un_ts {x1 y1 x2 y2 s : Fp} (cs : s * (x2 - x1) = y2 - y1) (ts : 2 * y1 * s + s * s * (x2 - x1) = x1 * x1 + x1 * x2 + x2 * x2 - 3) :
  2 * y2 * s - s * s * (x2 - x1) = x1 * x1 + x1 * x2 + x2 * x2 - 3 := by grobner
theorem i4_1 {x1 x2 y2 x3 s t : Fp} (ts : 2 * y2 * s - s * s * (x2 - x1) = x1 * x1 + x1 * x2 + x2 * x2 - 3) (tt : 2 * y2 * t + t * t * (x3 - x2) = x2 * x2 + x2 * x3 + x3 * x3 - 3) :
  (x1 - x3) * (x3 - (s * s - x1 - x2)) = (s - t) * ((s + t) * (x3 - x2) + 2 * y2) := by grobner
theorem i4_2 {e d a b c : Fp} (he : e * d = a) (h : a * b = d * c) : e * b * d = c * d := by grobner
theorem u_chord {x2 y2 x3 y3 X s t e : Fp} (ct : t * (x3 - x2) = y3 - y2) (i4 : e * (x3 - X) = (s + t) * (x3 - x2) + 2 * y2) : (e - s) * (x3 - X) = y3 - (s * (x2 - X) - y2) := by grobner
theorem u_id (x2 y2 x3 X s t e : Fp) : (e - s) * ((y2 + t * (x3 - x2)) + (s * (x2 - X) - y2)) - (X * X + X * x3 + x3 * x3 - 3) =
  (s * (e * (x3 - X)) - s * ((s + t) * (x3 - x2) + 2 * y2)) - ((x3 - x2) * (e * (s - t)) - (x3 - x2) * ((s * s - x2 - X) - x3)) +
  ((2 * y2 * s - s * s * (x2 - (s * s - x2 - X))) - ((s * s - x2 - X) * (s * s - x2 - X) + (s * s - x2 - X) * x2 + x2 * x2 - 3)) := by grobner
theorem u_sub {a b c d e f g h : Fp} (hi : a - b = (c - d) - (e - f) + (g - h)) (h1 : c = d) (h2 : e = f) (h3 : g = h) : a = b := by
 subst h1; subst h2; subst h3
 grobner
theorem u_tang1 {x1 x2 y2 x3 X s t e : Fp} (ts : 2 * y2 * s - s * s * (x2 - x1) = x1 * x1 + x1 * x2 + x2 * x2 - 3) (hX : x1 = s * s - x2 - X)
  (i4 : s * (e * (x3 - X)) = s * ((s + t) * (x3 - x2) + 2 * y2)) (he : (x3 - x2) * (e * (s - t)) = (x3 - x2) * (x1 - x3)) :
  (e - s) * ((y2 + t * (x3 - x2)) + (s * (x2 - X) - y2)) = X * X + X * x3 + x3 * x3 - 3 := by
 subst hX
 exact u_sub (u_id x2 y2 x3 X s t e) i4 he ts
theorem u_tang2 {u X Y x3 y3 R : Fp} (c : u * (x3 - X) = y3 - Y) (h : u * (y3 + Y) = R) : 2 * Y * u + u * u * (x3 - X) = R := by grobner
theorem sl_step {x1 y1 x2 y2 x3 y3 s t e : Fp} (hs : Sl x1 y1 x2 y2 s) (ht : Sl x2 y2 x3 y3 t) (hd : s - t ≠ 0) (he : e * (s - t) = x1 - x3) :
  Sl (s * s - x1 - x2) (s * (x2 - (s * s - x1 - x2)) - y2) x3 y3 (e - s) := by
 have ts := un_ts hs.chord hs.tang
 have i4 := zlG hd (i4_2 he (i4_1 ts ht.tang))
 have c := u_chord ht.chord i4
 refine ⟨c, u_tang2 c ?_⟩
 rw [col_y ht.chord]
 exact u_tang1 ts (neg3 _ _ _) (congrArg (s * ·) i4) (congrArg ((x3 - x2) * ·) he)
theorem asc_x {x1 x2 x3 s t e : Fp} (he : e * (s - t) = x1 - x3) : (e - s) * (e - s) - (s * s - x1 - x2) - x3 = (e - t) * (e - t) - x1 - (t * t - x2 - x3) := by grobner
theorem asc_y {x1 y1 x2 y2 x3 y3 s t e : Fp} (cs : y1 = y2 - s * (x2 - x1)) (ct : y3 = y2 + t * (x3 - x2)) (he : x1 = x3 + e * (s - t)) :
  (e - s) * (x3 - ((e - s) * (e - s) - (s * s - x1 - x2) - x3)) - y3 = (e - t) * (x1 - ((e - s) * (e - s) - (s * s - x1 - x2) - x3)) - y1 := by
 subst cs; subst ct; subst he
 grobner
theorem aassoc {p q r : Pt} (hp : onP p) (hq : onP q) (hr : onP r) : aadd (aadd p q) r = aadd p (aadd q r) := by
 match p, q, r with
 | none, q, r => rw [zgJ, zgJ]
 | some p, none, r => rw [zgL, zgJ]
 | some p, some q, none => rw [zgL, zgL]
 | some (x1, y1), some (x2, y2), some (x3, y3) =>
  have h1 : onE x1 y1 := hp
  have h2 : onE x2 y2 := hq
  have h3 : onE x3 y3 := hr
  by_cases hpq : x1 = x2 ∧ y1 = - y2
  ·have e : some (x1, y1) = aneg (some (x2, y2)) := by rw [hpq.1, hpq.2]; rfl
   rw [zeW x1 y1 x2 y2, if_pos hpq, zgJ, e, acancel hq hr]
  by_cases hqr : x2 = x3 ∧ y2 = - y3
  ·have e : some (x3, y3) = aneg (some (x2, y2)) := by rw [hqr.1, hqr.2]; show _ = some (x3, - - y3); congr 2; grind
   rw [zeW x2 y2 x3 y3, if_pos hqr, zgL, aadd_comm (on_add hp hq) hr, e, aadd_comm hp hq, acancel hq hp]
  have hs := sl_of h1 h2 hpq
  have ht := sl_of h2 h3 hqr
  rw [aadd_sl hpq h1 h2 hs, aadd_sl hqr h2 h3 ht]
  have h12 := on_slope h1 hs
  have h23 := on_slope h2 ht
  generalize zkZ x1 y1 x2 y2 = s at hs h12
  generalize zkZ x2 y2 x3 y3 = t at ht h23
  have cs := hs.chord; have ts := hs.tang; have ct := ht.chord; have tt := ht.tang
  by_cases hst : s = t
  ·subst hst
   have hz := col cs ts tt
   rcases fp_mul0 hz with h | h
   ·have ex : x3 = x1 := lin_0 h
    subst ex
    have ey : y3 = y1 := col_5 cs ct
    subst ey
    have e1 := swap3 (s * s) x3 x2
    have e2 := col_6 (X := s * s - x2 - x3) cs
    rw [e1, e2] at h12 ⊢
    exact aadd_comm (p := some _) (q := some _) h12 h1
   ·have ex : s * s - x1 - x2 = x3 := lin_1 h
    have ey : s * (x1 - x3) - y1 = - y3 := col_3 cs ct
    have ex' : s * s - x2 - x3 = x1 := lin_2 h
    have ey' : s * (x2 - x1) - y2 = - y1 := col_4 cs
    rw [ex, ey, ex', ey', zeW, if_pos ⟨rfl, rfl⟩, zeW, if_pos ⟨rfl, neg2 _⟩]
  ·have hd := ne_sub hst
   have hi := fi_mul hd
   have he := quo_1 (a := x1 - x3) hi
   generalize (x1 - x3) * fi (s - t) = e at he
   have hd' : t - s ≠ 0 := ne_sub fun h => hst h.symm
   have he' : e * (t - s) = x3 - x1 := lin_3 he |>.trans (neg_sub' _ _)
   have e12 := col_6 (X := s * s - x1 - x2) cs
   have e23 := col_6 (X := t * t - x2 - x3) ct
   have hu := sl_step hs ht hd he
   have hv := sl_symm (sl_step (sl_symm ht) (sl_symm hs) hd' he')
   rw [swap3 (t * t) x3 x2] at hv
   rw [e12] at h12 ⊢
   have hA := aadd_sl (sl_nonneg h12 hu) h12 h3 hu
   have hB := aadd_sl (sl_nonneg h1 hv) h1 h23 hv
   rw [hA, hB]
   have f0 := col_6 (X := (e - s) * (e - s) - (s * s - x1 - x2) - x3) hu.chord
   have f1 := asc_x (x2 := x2) he
   have f2 := asc_y (y1 := y1) (y3 := y3) (neg4 cs) (col_y ct) (neg5 he)
   rw [f0, f2, f1]
theorem HP.name {w0 w : World} {L : List Ent} {k b A : Nat} {T : TypeId} {G : Prop} (H : HP w0 w L) (hk : lk L k = some (b, numL A, T)) (h : ∀ x, x = A → HP w0 w (st L k (b, numL x, T)) → G) : G :=
 h A rfl (HP.recast H hk rfl)
def fm (a b : Nat) : Nat := a * b % modN 0
def fa (a b : Nat) : Nat := (a + b) % modN 0
def fs (a b : Nat) : Nat := (a + (modN 0 - b % modN 0)) % modN 0
theorem fm_def (a b : Nat) : a * b % modN 0 = fm a b := rfl
theorem fa_def (a b : Nat) : (a + b) % modN 0 = fa a b := rfl
theorem fs_def (a b : Nat) : (a + (modN 0 - b % modN 0)) % modN 0 = fs a b := rfl
theorem fm_lt (a b : Nat) : fm a b < PP := Nat.mod_lt _ (zhL 0)
theorem fa_lt (a b : Nat) : fa a b < PP := Nat.mod_lt _ (zhL 0)
theorem fs_lt (a b : Nat) : fs a b < PP := Nat.mod_lt _ (zhL 0)
theorem PP_lt : PP < zaE := mod_PP.lt
theorem zeT (a b : Nat) : fm a b < zaE := Nat.lt_trans (fm_lt a b) PP_lt
theorem zgK (a b : Nat) : fa a b < zaE := Nat.lt_trans (fa_lt a b) PP_lt
theorem zeR (a b : Nat) : fs a b < zaE := Nat.lt_trans (fs_lt a b) PP_lt
theorem zfB (a b : Nat) : cl (fm a b) = cl a * cl b := (cl_mod _).trans (cl_mul a b)
theorem cl_fa (a b : Nat) : cl (fa a b) = cl a + cl b := (cl_mod _).trans (cl_add a b)
theorem cl_fs (a b : Nat) : cl (fs a b) = cl a - cl b := by
 have h : b % modN 0 ≤ PP := Nat.le_of_lt (Nat.mod_lt _ (zhL 0))
 have e : cl (fs a b) = cl a + cl (PP - b % modN 0) := (cl_mod _).trans (cl_add a _)
 rw [e, cl_neg h, show cl (b % modN 0) = cl b from cl_mod b]
 grobner
theorem fa_0 {a : Nat} (h : a < PP) : fa a 0 = a := Nat.mod_eq_of_lt h
theorem fa_0' {a : Nat} : (fa a 0 != a) = false ↔ a < PP := by
 constructor
 ·intro h
  have h1 : fa a 0 = a := by simpa using h
  rw [← h1]; exact fa_lt a 0
 ·intro h; rw [fa_0 h]; simp
theorem cl_inv (a : Nat) : cl (invV 0 a) = fi (cl a) := by
 unfold invV
 by_cases h : a % modN 0 = 0
 ·rw [if_pos h]
  have : cl a = 0 := cl_eq0.2 h
  rw [this, fi_0, cl_0]
 ·rw [if_neg h]
  have h2 := inv_pow (pr_modN 0) h
  refine fi_unique ?_
  rw [← cl_mul]
  exact cl_eq.2 (h2.trans (Nat.mod_eq_of_lt (zjH 0)).symm)
abbrev ptL (x y : Nat) (i : Bool) : List Value := numL x ++ (numL y ++ [.bool i])
abbrev ptV (x y : Nat) (i : Bool) : Value := .agg (ptL x y i).toArray
abbrev jcL (x y z : Nat) : List Value := numL x ++ (numL y ++ numL z)
abbrev jcV (x y z : Nat) : Value := .agg (jcL x y z).toArray
def onB (x y : Nat) (i : Bool) : Bool := bif i then x == 0 && y == 0 else decide (x < PP) && decide (y < PP) && (fm y y == fa (fs (fm x (fm x x)) (fm 3 x)) bb)
theorem onB_inf {x y : Nat} : onB x y true = (x == 0 && y == 0) := rfl
theorem onB_out1 {x y : Nat} (h : (fa x 0 != x) = true) : onB x y false = false := by
 have h1 : ¬ x < PP := fun hl => by rw [(fa_0').2 hl] at h; cases h
 simp [onB, h1]
theorem onB_out2 {x y : Nat} (h : (fa y 0 != y) = true) : onB x y false = false := by
 have h1 : ¬ y < PP := fun hl => by rw [(fa_0').2 hl] at h; cases h
 simp [onB, h1]
theorem onB_in {x y : Nat} (hx : (fa x 0 != x) = false) (hy : (fa y 0 != y) = false) : onB x y false = (fm y y == fa (fs (fm x (fm x x)) (fm 3 x)) bb) := by
 simp [onB, fa_0'.1 hx, fa_0'.1 hy]
theorem onB_lt {x y : Nat} (h : onB x y false = true) : x < PP ∧ y < PP := by
 simp [onB] at h; exact h.1
theorem onB_on {x y : Nat} (h : onB x y false = true) : onE (cl x) (cl y) := by
 have h1 : fm y y = fa (fs (fm x (fm x x)) (fm 3 x)) bb := by
  simp [onB] at h; exact h.2
 have h2 := congrArg cl h1
 rw [zfB, cl_fa, cl_fs, zfB, zfB, zfB] at h2
 exact h2
def jtwX (x y z : Nat) : Nat := fs (fm (fm 3 (fm (fs x (fm z z)) (fa x (fm z z)))) (fm 3 (fm (fs x (fm z z)) (fa x (fm z z))))) (fa (fm 4 (fm x (fm y y))) (fm 4 (fm x (fm y y))))
def jtwY (x y z : Nat) : Nat := fs (fm (fm 3 (fm (fs x (fm z z)) (fa x (fm z z)))) (fs (fm 4 (fm x (fm y y))) (jtwX x y z))) (fm 8 (fm (fm y y) (fm y y)))
def jtwZ (y z : Nat) : Nat := fm 2 (fm y z)
abbrev Tr : Type := Nat × Nat × Nat
abbrev jcT (t : Tr) : List Value := jcL t.1 t.2.1 t.2.2
def jtw (t : Tr) : Tr := (jtwX t.1 t.2.1 t.2.2, jtwY t.1 t.2.1 t.2.2, jtwZ t.2.1 t.2.2)
def jad2 (p q : Tr) (u s h r : Nat) : Tr :=
 if h = 0 then (if r = 0 then jtw p else (0, 0, 0)) else
 (fs (fs (fm r r) (fm h (fm h h))) (fa (fm u (fm h h)) (fm u (fm h h))),
  fs (fm r (fs (fm u (fm h h)) (fs (fs (fm r r) (fm h (fm h h))) (fa (fm u (fm h h)) (fm u (fm h h)))))) (fm s (fm h (fm h h))),
  fm h (fm p.2.2 q.2.2))
def jad (p q : Tr) : Tr := if p.2.2 = 0 then q else if q.2.2 = 0 then p else
 jad2 p q (fm p.1 (fm q.2.2 q.2.2)) (fm p.2.1 (fm (fm q.2.2 q.2.2) q.2.2))
  (fs (fm q.1 (fm p.2.2 p.2.2)) (fm p.1 (fm q.2.2 q.2.2))) (fs (fm q.2.1 (fm (fm p.2.2 p.2.2) p.2.2)) (fm p.2.1 (fm (fm q.2.2 q.2.2) q.2.2)))
def jend (t : Tr) : Nat × Nat × Bool := if t.2.2 % modN 0 = 0 then (0, 0, true) else
 (fm t.1 (fm (invV 0 t.2.2) (invV 0 t.2.2)), fm t.2.1 (fm (fm (invV 0 t.2.2) (invV 0 t.2.2)) (invV 0 t.2.2)), false)
def jof (x y : Nat) (i : Bool) : Tr := bif i then (0, 0, 0) else (x, y, 1)
abbrev ptT (t : Nat × Nat × Bool) : List Value := ptL t.1 t.2.1 t.2.2
def fn (a : Nat) : Nat := (modN 0 - a % modN 0) % modN 0
theorem fn_lt (a : Nat) : fn a < PP := Nat.mod_lt _ (zhL 0)
theorem zfV (a : Nat) : fn a < zaE := Nat.lt_trans (fn_lt a) PP_lt
theorem cl_fn (a : Nat) : cl (fn a) = - cl a := by
 have h : a % modN 0 ≤ PP := Nat.le_of_lt (Nat.mod_lt _ (zhL 0))
 have e : cl (fn a) = cl (PP - a % modN 0) := cl_mod _
 rw [e, cl_neg h, show cl (a % modN 0) = cl a from cl_mod a]
abbrev Ap : Type := Nat × Nat × Bool
def onT (t : Ap) : Bool := onB t.1 t.2.1 t.2.2
def cneg (t : Ap) : Ap := bif onT t then (t.1, fn t.2.1, t.2.2) else (0, 0, false)
def cerr (t : Ap) : Int := bif onT t then 0 else 70
def cadd (p q : Ap) : Ap := bif onT p && onT q then jend (jad (jof p.1 p.2.1 p.2.2) (jof q.1 q.2.1 q.2.2)) else (0, 0, false)
def cadde (p q : Ap) : Int := bif onT p && onT q then 0 else 70
theorem jtw_0 : jtw (0, 0, 0) = (0, 0, 0) := by kernel_rfl
def jmul (p : Tr) (n : Nat) : Tr := if h : n = 0 then (0, 0, 0) else
 if n % 2 = 1 then jad (jtw (jmul p (n / 2))) p else jtw (jmul p (n / 2))
termination_by n
decreasing_by all_goals exact Nat.div_lt_self (Nat.pos_of_ne_zero h) (by decide)
theorem jmul_0 (p : Tr) : jmul p 0 = (0, 0, 0) := by rw [jmul]; simp
theorem jmul_1 {p : Tr} {n : Nat} (h : n % 2 = 1) : jmul p n = jad (jtw (jmul p (n / 2))) p := by
 rw [jmul, dif_neg (by omega), if_pos h]
theorem jmul_2 {p : Tr} {n : Nat} (h : n % 2 ≠ 1) : jmul p n = jtw (jmul p (n / 2)) := by
 by_cases h0 : n = 0
 ·subst h0; rw [jmul_0]; exact jtw_0.symm
 ·rw [jmul, dif_neg h0, if_neg h]
theorem half_pow (K : Nat) {k : Nat} (hk : 0 < k) : K / 2 ^ (k - 1) / 2 = K / 2 ^ k := by
 rw [Nat.div_div_eq_div_mul, ← Nat.pow_succ]
 congr 2; omega
theorem jmul_b1 {p : Tr} {K k : Nat} (hk : 0 < k) (hb : K / 2 ^ (k - 1) % 2 = 1) : jad (jtw (jmul p (K / 2 ^ k))) p = jmul p (K / 2 ^ (k - 1)) := by
 rw [jmul_1 hb, half_pow K hk]
theorem jmul_b0 {p : Tr} {K k : Nat} (hk : 0 < k) (hb : K / 2 ^ (k - 1) % 2 ≠ 1) : jtw (jmul p (K / 2 ^ k)) = jmul p (K / 2 ^ (k - 1)) := by
 rw [jmul_2 hb, half_pow K hk]
theorem jmul_top {p : Tr} {K : Nat} (hK : K < zaE) : jmul p (K / 2 ^ 256) = (0, 0, 0) := by
 rw [Nat.div_eq_of_lt (show K < 2 ^ 256 from hK), jmul_0]
def cmul (k : Nat) (p : Ap) : Ap := bif onT p then jend (jmul (jof p.1 p.2.1 p.2.2) k) else (0, 0, false)
def TL (t : Tr) : Prop := t.1 < zaE ∧ t.2.1 < zaE ∧ t.2.2 < zaE
theorem TL_0 : TL (0, 0, 0) := ⟨zcL, zcL, zcL⟩
theorem TL_jtw (t : Tr) : TL (jtw t) := ⟨zeR _ _, zeR _ _, zeT _ _⟩
theorem TL_jad {p q : Tr} (hp : TL p) (hq : TL q) : TL (jad p q) := by
 unfold jad
 split
 ·exact hq
 ·split
  ·exact hp
  ·unfold jad2
   split
   ·split
    ·exact TL_jtw _
    ·exact TL_0
   ·exact ⟨zeR _ _, zeR _ _, zeT _ _⟩
theorem TL_jmul {p : Tr} (hp : TL p) (n : Nat) : TL (jmul p n) := by
 rw [jmul]
 split
 ·exact TL_0
 ·split
  ·exact TL_jad (TL_jtw _) hp
  ·exact TL_jtw _
theorem one_lt2 : 1 < zaE := by decide
theorem TL_jof {x y : Nat} {i : Bool} (hx : x < zaE) (hy : y < zaE) : TL (jof x y i) := by
 cases i
 ·exact ⟨hx, hy, one_lt2⟩
 ·exact TL_0
def AL (t : Ap) : Prop := t.1 < zaE ∧ t.2.1 < zaE
theorem AL_0 (i : Bool) : AL (0, 0, i) := ⟨zcL, zcL⟩
theorem AL_jend (t : Tr) : AL (jend t) := by
 unfold jend
 split
 ·exact AL_0 _
 ·exact ⟨zeT _ _, zeT _ _⟩
theorem zkM (p q : Ap) : AL (cadd p q) := by
 unfold cadd
 cases onT p && onT q
 ·exact AL_0 _
 ·exact AL_jend _
theorem ziP (k : Nat) (p : Ap) : AL (cmul k p) := by
 unfold cmul
 cases onT p
 ·exact AL_0 _
 ·exact AL_jend _
theorem zkL {p : Ap} (hp : AL p) : AL (cneg p) := by
 unfold cneg
 cases onT p
 ·exact AL_0 _
 ·exact ⟨hp.1, zfV _⟩
theorem zero_jc : ([.int .u64 0, .int .u64 0, .int .u64 0, .int .u64 0, .int .u64 0, .int .u64 0, .int .u64 0, .int .u64 0, .int .u64 0, .int .u64 0, .int .u64 0, .int .u64 0] : List Value) = jcT (0, 0, 0) := by
 show ([.int .u64 0, .int .u64 0, .int .u64 0, .int .u64 0] ++ ([.int .u64 0, .int .u64 0, .int .u64 0, .int .u64 0] ++ [.int .u64 0, .int .u64 0, .int .u64 0, .int .u64 0]) : List Value) = _
 rw [num_0]
section
variable {P : Program} {T N B E T' : TypeId} {fs0 : Array Field}
theorem run_eqpt (hu : P.underlying T = some (.struct fs0)) (hf : fs0.toList.map (fun f => (f.name, f.type, f.offset)) = [("X", N, 0), ("Y", N, 4), ("Inf", B, 8)]) (hst : P.stoodInHeld T = false)
  (hN : P.underlying N = some (.array 4 E)) (he : P.underlying E = some (.int .u64)) (hs : ∀ w, (sizeOf E).run P w = .ok 1 w) (ha : ∀ w, (isAgg E).run P w = .ok false w)
  (gN : ∀ w, (isAgg N).run P w = .ok true w) (sN : ∀ w, (sizeOf N).run P w = .ok 4 w) (hB : P.underlying B = some .bool) (gB : ∀ w, (isAgg B).run P w = .ok false w)
  {x y x' y' : Nat} {i i' : Bool} (hx : x < zaE) (hy : y < zaE) (hx' : x' < zaE) (hy' : y' < zaE) (d : Nat) (w : World) :
  (Op.equalIn (d + 3) T (ptV x y i) (ptV x' y' i')).run P w = .ok (x == x' && (y == y' && i == i')) w := by
 obtain ⟨f0, f1, f2, rfl⟩ : ∃ f0 f1 f2, fs0 = #[f0, f1, f2] := by
  match fs0 with
  | ⟨[a, b, c]⟩ => exact ⟨a, b, c, rfl⟩
  | ⟨[]⟩ => simp at hf
  | ⟨[_]⟩ => simp at hf
  | ⟨[_, _]⟩ => simp at hf
  | ⟨_ :: _ :: _ :: _ :: _⟩ => simp at hf
 simp only [List.map_cons, List.map_nil, List.cons.injEq, Prod.mk.injEq, and_true] at hf
 obtain ⟨⟨n0, t0, o0⟩, ⟨n1, t1, o1⟩, ⟨n2, t2, o2⟩⟩ := hf
 have e1 := run_eqnumIn hN he hs ha x x' hx hx' d
 have e2 := run_eqnumIn hN he hs ha y y' hy hy' d
 have e3 : ∀ w, (Op.equalIn (d + 2) B (.bool i) (.bool i')).run P w = .ok (i == i') w := fun w => by simp [Op.equalIn, Go.underlying, hB]
 have p1 : ∀ (a b : Nat) (k : Bool) w, (part N (ptL a b k).toArray 0).run P w = .ok (.agg (numL a).toArray) w := fun a b k w => by
  simp [part, gN, sN, numL]
 have p2 : ∀ (a b : Nat) (k : Bool) w, (part N (ptL a b k).toArray 4).run P w = .ok (.agg (numL b).toArray) w := fun a b k w => by
  simp [part, gN, sN, numL]
 have p3 : ∀ (a b : Nat) (k : Bool) w, (part B (ptL a b k).toArray 8).run P w = .ok (.bool k) w := fun a b k w => by
  simp [part, gB, numL]
 unfold Op.equalIn
 simp only [Sem.run_bind, Go.underlying, run_program, Result.andThen_ok, hu, Sem.run_pure, hst, Bool.false_eq_true, if_false]
 simp [n0, n1, n2, t0, t1, t2, o0, o1, o2, p1, p2, p3, e1, e2, e3]
 cases h0 : x == x' <;> cases h1 : y == y' <;> cases h2 : i == i' <;> simp_all
variable {e : Operand → Value} {dst : Option Tmp} {g : Option (Nat × Bool)} {ty : TypeId} {pos : String} {aft : Array Edge} {a b : Operand} {w : World} {t : Bool}
theorem r_eqpt (hu : P.underlying T = some (.struct fs0)) (hf : fs0.toList.map (fun f => (f.name, f.type, f.offset)) = [("X", N, 0), ("Y", N, 4), ("Inf", B, 8)]) (hst : P.stoodInHeld T = false)
  (hN : P.underlying N = some (.array 4 E)) (he : P.underlying E = some (.int .u64)) (hs : ∀ w, (sizeOf E).run P w = .ok 1 w) (ha : ∀ w, (isAgg E).run P w = .ok false w)
  (gN : ∀ w, (isAgg N).run P w = .ok true w) (sN : ∀ w, (sizeOf N).run P w = .ok 4 w) (hB : P.underlying B = some .bool) (gB : ∀ w, (isAgg B).run P w = .ok false w) (hg : P.eqGuardType P.depth T = false)
  {x y x' y' : Nat} {i i' : Bool} (h1 : e a = ptV x y i) (h2 : e b = ptV x' y' i') (hx : x < zaE) (hy : y < zaE) (hx' : x' < zaE) (hy' : y' < zaE) (h : (x == x' && (y == y' && i == i')) = t) :
  (execOp e ⟨dst, .binOp .eql T a b T', ty, pos, aft, g⟩).run P w = .ok (.value (.bool t)) w := by
 have key : (Op.equal T (ptV x y i) (ptV x' y' i')).run P w = .ok (x == x' && (y == y' && i == i')) w := run_eqpt hu hf hst hN he hs ha gN sN hB gB hx hy hx' hy' 9997 w
 rw [← h]
 simp only [execOp, h1, h2, eqGuard, binOp, Sem.run_bind, run_program, Result.andThen_ok, hg]
 simp [hg, key]
end
theorem r_makeFunc {P : Program} {e : Operand → Value} {dst : Option Tmp} {g : Option (Nat × Bool)} {ty : TypeId} {pos : String} {aft : Array Edge} {w : World} {f : FuncId} {fs : List Operand} {first : List Value} (h : fs.map e = first) :
  (execOp e ⟨dst, .makeFunc (.func f) fs.toArray #[], ty, pos, aft, g⟩).run P w = .ok (.value (.func (.func f) first.toArray #[])) w := by
 rw [← h]; simp [execOp, Instr.makeFunc]
theorem jtw_of {x y z zz yy m1 s1 x3 y3 : Nat} (hzz : zz = fm z z) (hyy : yy = fm y y) (hm : m1 = fm 3 (fm (fs x zz) (fa x zz))) (hs : s1 = fm 4 (fm x yy))
  (hx : x3 = fs (fm m1 m1) (fa s1 s1)) (hy : y3 = fs (fm m1 (fs s1 x3)) (fm 8 (fm yy yy))) : jtw (x, y, z) = (x3, y3, fm 2 (fm y z)) := by
 subst hzz hyy hm hs hx hy; rfl
theorem jad_z1 {p q : Tr} (h : (p.2.2 == 0) = true) : jad p q = q := by rw [jad, if_pos (by simpa using h)]
theorem jad_z2 {p q : Tr} (h1 : (p.2.2 == 0) = false) (h : (q.2.2 == 0) = true) : jad p q = p := by rw [jad, if_neg (by simpa using h1), if_pos (by simpa using h)]
theorem jad_of {x y z a b c pz qz u v s1 t1 hd rd : Nat} (h1 : (z == 0) = false) (h2 : (c == 0) = false) (hpz : pz = fm z z) (hqz : qz = fm c c) (hu : u = fm x qz) (hv : v = fm a pz)
  (hs1 : s1 = fm y (fm qz c)) (ht1 : t1 = fm b (fm pz z)) (hhd : hd = fs v u) (hrd : rd = fs t1 s1) : jad (x, y, z) (a, b, c) = jad2 (x, y, z) (a, b, c) u s1 hd rd := by
 subst hpz hqz hu hv hs1 ht1 hhd hrd
 rw [jad, if_neg (by simpa using h1), if_neg (by simpa using h2)]
theorem jad2_t {p q : Tr} {u s hd rd : Nat} (h : (hd == 0) = true) (h1 : (rd == 0) = true) : jad2 p q u s hd rd = jtw p := by rw [jad2, if_pos (by simpa using h), if_pos (by simpa using h1)]
theorem jad2_0 {p q : Tr} {u s hd rd : Nat} (h : (hd == 0) = true) (h1 : (rd == 0) = false) : jad2 p q u s hd rd = (0, 0, 0) := by rw [jad2, if_pos (by simpa using h), if_neg (by simpa using h1)]
theorem jad2_of {x y z a b c u s1 hd rd h2 h3 uh x3 y3 : Nat} (h : (hd == 0) = false) (hh2 : h2 = fm hd hd) (hh3 : h3 = fm hd h2) (huh : uh = fm u h2) (hx3 : x3 = fs (fs (fm rd rd) h3) (fa uh uh))
  (hy3 : y3 = fs (fm rd (fs uh x3)) (fm s1 h3)) : jad2 (x, y, z) (a, b, c) u s1 hd rd = (x3, y3, fm hd (fm z c)) := by
 subst hh2 hh3 huh hx3 hy3
 rw [jad2, if_neg (by simpa using h)]
theorem invE_t {z : Nat} (h : (invE 0 z != 0) = true) : z % modN 0 = 0 := by
 by_cases hz : z % modN 0 = 0
 ·exact hz
 ·rw [invE, if_neg hz] at h; exact absurd h (by decide)
theorem invE_f {z : Nat} (h : (invE 0 z != 0) = false) : z % modN 0 ≠ 0 := by
 intro hz; rw [invE, if_pos hz] at h; exact absurd h (by decide)
theorem jend_t {x y z : Nat} (h : (invE 0 z != 0) = true) : jend (x, y, z) = (0, 0, true) := by rw [jend, if_pos (invE_t h)]
theorem jend_f {x y z : Nat} (h : (invE 0 z != 0) = false) : jend (x, y, z) = (fm x (fm (invV 0 z) (invV 0 z)), fm y (fm (fm (invV 0 z) (invV 0 z)) (invV 0 z)), false) := by rw [jend, if_neg (invE_f h)]
theorem cadd_t {p q : Ap} (h : onT p = true) (h' : onT q = true) : cadd p q = jend (jad (jof p.1 p.2.1 p.2.2) (jof q.1 q.2.1 q.2.2)) ∧ cadde p q = 0 := by rw [cadd, cadde, h, h']; exact ⟨rfl, rfl⟩
theorem cadd_f1 {p q : Ap} (h : onT p = false) : cadd p q = (0, 0, false) ∧ cadde p q = 70 := by rw [cadd, cadde, h]; exact ⟨rfl, rfl⟩
theorem cadd_f2 {p q : Ap} (h : onT q = false) : cadd p q = (0, 0, false) ∧ cadde p q = 70 := by rw [cadd, cadde, h, Bool.and_false]; exact ⟨rfl, rfl⟩
theorem cmul_t {k : Nat} {p : Ap} (h : onT p = true) : cmul k p = jend (jmul (jof p.1 p.2.1 p.2.2) k) ∧ cerr p = 0 := by rw [cmul, cerr, h]; exact ⟨rfl, rfl⟩
theorem cmul_f {k : Nat} {p : Ap} (h : onT p = false) : cmul k p = (0, 0, false) ∧ cerr p = 70 := by rw [cmul, cerr, h]; exact ⟨rfl, rfl⟩
def cofX (l : List UInt8) : Nat := ofV 0 ((l.drop 1).take 32)
def cofY (l : List UInt8) : Nat := ofV 0 (l.drop 33)
def cofB (l : List UInt8) : Bool := l.length == 65 && (l[0]? == some 4) && (ofE 0 ((l.drop 1).take 32) == 0 && (ofE 0 (l.drop 33) == 0 && onB (cofX l) (cofY l) false))
def cofV (l : List UInt8) : Ap := bif l == [0] then (0, 0, true) else bif cofB l then (cofX l, cofY l, false) else (0, 0, false)
def GX : Nat := 48439561293906451759052585252797914202762949526041747995844080717082404635286
def GY : Nat := 36134250956749795798585127919587881956611106672985015071877198253568414405109
section
abbrev Mem := Nat → Option Obj
def Mem.le (S T : Mem) : Prop := ∀ b o, S b = some o → T b = some o
theorem Mem.le_refl (S : Mem) : Mem.le S S := fun _ _ h => h
theorem Mem.le_trans {S T U : Mem} (h : Mem.le S T) (k : Mem.le T U) : Mem.le S U := fun b o e => k b o (h b o e)
def Sub (S : Mem) (w : World) : Prop := ∀ b o, S b = some o → w.heap[b]? = some o
theorem lt_of_heap {w : World} {b : Nat} {o : Obj} (h : w.heap[b]? = some o) : b < w.heap.size := zhF h
theorem Sub.lt {S : Mem} {w : World} (h : Sub S w) {b : Nat} {o : Obj} (hb : S b = some o) : b < w.heap.size := lt_of_heap (h b o hb)
theorem Sub.none {S : Mem} {w : World} (h : Sub S w) {b : Nat} (hb : w.heap.size ≤ b) : S b = none := by
 cases e : S b with
 | none => rfl
 | some o => have := h.lt e; omega
theorem Sub.ext {S : Mem} {w w' : World} (h : Sub S w) (hx : Ext w w') : Sub S w' := fun b o e => by
 rw [Below.block hx b (h.lt e)]; exact h b o e
def gr (S : Mem) (w w' : World) : Mem := fun b => if b < w.heap.size then S b else w'.heap[b]?
theorem gr_le {S : Mem} {w w' : World} (h : Sub S w) : Mem.le S (gr S w w') := fun b o e => by
 unfold gr; rw [if_pos (h.lt e)]; exact e
theorem gr_sub {S : Mem} {w w' : World} (h : Sub S w) (hx : Ext w w') : Sub (gr S w w') w' := fun b o e => by
 unfold gr at e
 split at e
 ·exact h.ext hx b o e
 ·exact e
theorem gr_up {S T : Mem} {w w' : World} (h : Mem.le S T) : Mem.le (gr S w w') (gr T w w') := fun b o e => by
 unfold gr at *
 split at e
 ·rename_i h1; rw [if_pos h1]; exact h b o e
 ·rename_i h1; rw [if_neg h1]; exact e
def gf (S : Mem) (W : World) (F : Nat → Bool) (w : World) : Mem := fun b => if b < W.heap.size then S b else if F b = true then w.heap[b]? else none
theorem zdD {S : Mem} {W w : World} {F : Nat → Bool} (h : Sub S W) (hx : Ext W w) : Sub (gf S W F w) w := fun b o e => by
 unfold gf at e
 split at e
 ·exact h.ext hx b o e
 ·split at e
  ·exact e
  ·cases e
theorem zcZ {S : Mem} {W w : World} {F : Nat → Bool} (h : Sub S W) : Mem.le S (gf S W F w) := fun b o e => by
 unfold gf; rw [if_pos (h.lt e)]; exact e
theorem gf_mono {S : Mem} {W w w' : World} {F : Nat → Bool} (hx : Ext w w') : Mem.le (gf S W F w) (gf S W F w') := fun b o e => by
 unfold gf at *
 split at e
 ·rename_i h; rw [if_pos h]; exact e
 ·rename_i h
  split at e
  ·rename_i h2; rw [if_neg h, if_pos h2, Below.block hx b (lt_of_heap e)]; exact e
  ·cases e
theorem gf_up {S : Mem} {W w : World} {F G : Nat → Bool} (hF : ∀ b, F b = true → G b = true) : Mem.le (gf S W F w) (gf S W G w) := fun b o e => by
 unfold gf at *
 split at e
 ·rename_i h; rw [if_pos h]; exact e
 ·rename_i h
  split at e
  ·rename_i h2; rw [if_neg h, if_pos (hF b h2)]; exact e
  ·cases e
theorem gf_none {S : Mem} {W w : World} {F : Nat → Bool} {b : Nat} (h : W.heap.size ≤ b) (hF : F b = false) : gf S W F w b = none := by
 unfold gf; rw [if_neg (by omega), hF]; rfl
def newF (F : Nat → Bool) (w w' : World) : Nat → Bool := fun b => decide (b < w'.heap.size) && (F b || decide (w.heap.size ≤ b))
theorem gr_gf {S : Mem} {W w w' : World} {F : Nat → Bool} (hx : Ext W w) (hx2 : Ext w w') : Mem.le (gr (gf S W F w) w w') (gf S W (newF F w w') w') := fun b o e => by
 have hs := hx.size
 unfold gr gf at *
 by_cases h1 : b < W.heap.size
 ·rw [if_pos (by omega), if_pos h1] at e; rw [if_pos h1]; exact e
 ·rw [if_neg h1]
  by_cases h2 : b < w.heap.size
  ·rw [if_pos h2, if_neg h1] at e
   split at e
   ·rename_i h3
    have h4 : b < w'.heap.size := Nat.lt_of_lt_of_le h2 hx2.size
    rw [if_pos (by simp [newF, h3, h4]), Below.block hx2 b h2]; exact e
   ·cases e
  ·rw [if_neg h2] at e
   have h4 := lt_of_heap e
   rw [if_pos (by simp [newF, h4, Nat.le_of_not_lt h2])]; exact e
def okfz (fz : Nat × Nat) (n : Nat) : Prop := fz = (0, 0) ∨ n ≤ fz.1
inductive Res where
 /-- a block -/
 | blk (b : Nat) (cs : List Value) (T : TypeId)
 /-- an object of another kind -/
 | obj (b : Nat) (o : Obj)
 /-- a slice from a block's head on, and what lies behind its end: n elements of sz cells; or the nil one -/
 | osl (v : Value) (n sz : Nat) (cs rs : List Value) (T : TypeId)
def Res.holds (w : World) : Res → Prop
 | .blk b cs T => w.heap[b]? = some (.cells cs.toArray T (0, 0))
 | .obj b o => w.heap[b]? = some o
 | .osl v n sz cs rs T => (v = .slice none 0 0 ∧ n = 0 ∧ cs = [] ∧ rs = []) ∨
   ∃ b c fz, v = sl b 0 n c ∧ n ≤ c ∧ cs.length = n * sz ∧ c * sz ≤ (cs ++ rs).length ∧ w.heap[b]? = some (.cells (cs ++ rs).toArray T fz) ∧ okfz fz (cs ++ rs).length
def vkey : Value → Option Nat
 | .slice (some a) _ _ => some a.block
 | _ => none
def Res.key : Res → Option Nat
 | .blk b _ _ => some b
 | .obj b _ => some b
 | .osl v _ _ _ _ _ => vkey v
theorem Res.key_lt {w : World} {r : Res} {b : Nat} (h : r.holds w) (hk : r.key = some b) : b < w.heap.size := by
 cases r with
 | blk b' cs T => cases hk; exact lt_of_heap h
 | obj b' o => cases hk; exact lt_of_heap h
 | osl v n sz cs rs T =>
  rcases h with ⟨rfl, _⟩ | ⟨b', c, fz, rfl, _, _, _, hh, _⟩
  ·cases hk
  ·cases hk; exact lt_of_heap hh
theorem Res.holds_of {w w' : World} {r : Res} (h : r.holds w) (hk : ∀ b, r.key = some b → w'.heap[b]? = w.heap[b]?) : r.holds w' := by
 cases r with
 | blk b' cs T => show w'.heap[b']? = _; rw [hk b' rfl]; exact h
 | obj b' o => show w'.heap[b']? = _; rw [hk b' rfl]; exact h
 | osl v n sz cs rs T =>
  rcases h with h | ⟨b', c, fz, rfl, h1, h2, h3, hh, hf⟩
  ·exact .inl h
  ·exact .inr ⟨b', c, fz, rfl, h1, h2, h3, by rw [hk b' rfl]; exact hh, hf⟩
structure Fr (X : List Nat) (w0 w : World) : Prop where
 os : w.os = w0.os
 tape : w.tape = w0.tape
 output : w.output = w0.output
 size : w0.heap.size ≤ w.heap.size
 block : ∀ k, k < w0.heap.size → k ∉ X → w.heap[k]? = w0.heap[k]?
theorem Fr.refl (X : List Nat) (w : World) : Fr X w w := ⟨rfl, rfl, rfl, Nat.le_refl _, fun _ _ _ => rfl⟩
theorem Fr.ext {w0 w : World} (h : Fr [] w0 w) : Ext w0 w := ⟨h.os, h.tape, h.output, h.size, fun k hk => h.block k hk (by simp)⟩
theorem Fr.of {w0 w : World} (h : Ext w0 w) : Fr [] w0 w := ⟨h.os, h.tape, h.output, h.size, fun k hk _ => h.block k hk⟩
structure Bas where
 S0 : Mem
 X : List Nat
 w0 : World
def lkR : List Res → Nat → Option Res
 | [], _ => none
 | e :: _, 0 => some e
 | _ :: l, k + 1 => lkR l k
def stR : List Res → Nat → Res → List Res
 | [], _, _ => []
 | _ :: l, 0, e => e :: l
 | x :: l, k + 1, e => x :: stR l k e
def rmR : List Res → Nat → List Res
 | [], _ => []
 | _ :: l, 0 => l
 | x :: l, k + 1 => x :: rmR l k
theorem lkR_eq : ∀ (l : List Res) (k : Nat), lkR l k = l[k]?
 | [], _ => by simp [lkR]
 | _ :: _, 0 => by simp [lkR]
 | _ :: l, k + 1 => by simp [lkR, lkR_eq l k]
theorem lkR_st_same {e : Res} : ∀ {l : List Res} {k : Nat} {x : Res}, lkR l k = some x → lkR (stR l k e) k = some e
 | [], _, _, h => by cases h
 | _ :: _, 0, _, _ => rfl
 | _ :: l, k + 1, _, h => lkR_st_same (l := l) (k := k) h
theorem ziH {e : Res} : ∀ {l : List Res} {k j : Nat}, j ≠ k → lkR (stR l k e) j = lkR l j
 | [], _, _, _ => rfl
 | _ :: _, 0, 0, h => absurd rfl h
 | _ :: _, 0, _ + 1, _ => rfl
 | _ :: _, _ + 1, 0, _ => rfl
 | _ :: l, k + 1, j + 1, h => ziH (l := l) (by omega)
theorem lkR_rm : ∀ {l : List Res} {k j : Nat}, lkR (rmR l k) j = if j < k then lkR l j else lkR l (j + 1)
 | [], _, _ => by simp [rmR, lkR]
 | _ :: l, 0, j => by simp [rmR, lkR]
 | _ :: l, k + 1, 0 => by simp [rmR, lkR]
 | _ :: l, k + 1, j + 1 => by simp [rmR, lkR, lkR_rm (l := l) (k := k) (j := j)]
structure HS (B : Bas) (S : Mem) (w : World) (L : List Res) : Prop where
 fr : Fr B.X B.w0 w
 sub : Sub S w
 keep : ∀ b, b < B.w0.heap.size → b ∉ B.X → S b = B.S0 b
 own : ∀ k r, lkR L k = some r → r.holds w
 old : ∀ k r b, lkR L k = some r → r.key = some b → (B.w0.heap.size ≤ b ∨ b ∈ B.X) ∧ S b = none
 inj : ∀ i j r s b, lkR L i = some r → lkR L j = some s → r.key = some b → s.key = some b → i = j
theorem HS.start {S : Mem} {w : World} (h : Sub S w) : HS ⟨S, [], w⟩ S w [] :=
 ⟨Fr.refl _ _, h, fun _ _ _ => rfl, fun _ _ h => by simp [lkR] at h, fun _ _ _ h => by simp [lkR] at h, fun _ _ _ _ _ h => by simp [lkR] at h⟩
theorem HS.toExt {S0 S : Mem} {w0 w : World} {L : List Res} (H : HS ⟨S0, [], w0⟩ S w L) : Ext w0 w := H.fr.ext
theorem HS.gr {S0 S : Mem} {w0 w : World} {L : List Res} (H : HS ⟨S0, [], w0⟩ S w L) : Mem.le S (gr S0 w0 w) := fun b o e => by
 unfold Go.Proofs.YtmbcolbbekbccaaGreat.gr
 by_cases h : b < w0.heap.size
 ·rw [if_pos h]; have h2 : S b = S0 b := H.keep b h (by simp); rw [← h2]; exact e
 ·rw [if_neg h]; exact H.sub b o e
section
variable {B : Bas} {S S' : Mem} {w w' : World} {L : List Res}
theorem HS.res_lt (H : HS B S w L) {k b : Nat} {r : Res} (hk : lkR L k = some r) (hb : r.key = some b) : b < w.heap.size := Res.key_lt (H.own k r hk) hb
theorem Fr.more {X : List Nat} {a b c : World} (h : Fr X a b) (k : Ext b c) : Fr X a c :=
 ⟨k.os.trans h.os, k.tape.trans h.tape, k.output.trans h.output, Nat.le_trans h.size k.size, fun i hi hx => (k.block i (Nat.lt_of_lt_of_le hi h.size)).trans (h.block i hi hx)⟩
theorem HS.ext (H : HS B S w L) (hx : Ext w w') : HS B S w' L :=
 ⟨H.fr.more hx, H.sub.ext hx, H.keep, fun k r hk => Res.holds_of (H.own k r hk) fun b hb => hx.block b (H.res_lt hk hb), H.old, H.inj⟩
theorem HS.call (H : HS B S w L) (hx : Ext w w') : HS B (Go.Proofs.YtmbcolbbekbccaaGreat.gr S w w') w' L :=
 ⟨H.fr.more hx, gr_sub H.sub hx, fun b hb hx => by
   unfold Go.Proofs.YtmbcolbbekbccaaGreat.gr; rw [if_pos (Nat.lt_of_lt_of_le hb H.fr.size)]; exact H.keep b hb hx,
  fun k r hk => Res.holds_of (H.own k r hk) fun b hb => hx.block b (H.res_lt hk hb),
  fun k r b hk hb => ⟨(H.old k r b hk hb).1, by unfold Go.Proofs.YtmbcolbbekbccaaGreat.gr; rw [if_pos (H.res_lt hk hb)]; exact (H.old k r b hk hb).2⟩, H.inj⟩
theorem HS.callF {F : Nat → Bool} (H : HS B S w L) (hx : Ext w w') : HS B (Go.Proofs.YtmbcolbbekbccaaGreat.gf S w F w') w' L :=
 ⟨H.fr.more hx, zdD H.sub hx, fun b hb hx => by
   unfold Go.Proofs.YtmbcolbbekbccaaGreat.gf; rw [if_pos (Nat.lt_of_lt_of_le hb H.fr.size)]; exact H.keep b hb hx,
  fun k r hk => Res.holds_of (H.own k r hk) fun b hb => hx.block b (H.res_lt hk hb),
  fun k r b hk hb => ⟨(H.old k r b hk hb).1, by unfold Go.Proofs.YtmbcolbbekbccaaGreat.gf; rw [if_pos (H.res_lt hk hb)]; exact (H.old k r b hk hb).2⟩, H.inj⟩
theorem HS.drew (H : HS B S w L) : HS B S w.drew L := H.ext (Ext.drew w)
theorem HS.push (H : HS B S w L) (hx : Ext w w') {r : Res} (hr : r.holds w') (hn : ∀ b, r.key = some b → w.heap.size ≤ b) : HS B S w' (r :: L) := by
 have H' := H.ext hx
 refine ⟨H'.fr, H'.sub, H'.keep, ?_, ?_, ?_⟩
 ·intro k s hk
  cases k with
  | zero => cases hk; exact hr
  | succ k => exact H'.own k s hk
 ·intro k s b hk hb
  cases k with
  | zero => cases hk; exact ⟨.inl (Nat.le_trans H.fr.size (hn b hb)), H.sub.none (hn b hb)⟩
  | succ k => exact H.old k s b hk hb
 ·intro i j s t b hi hj h1 h2
  cases i with
  | zero =>
   cases j with
   | zero => rfl
   | succ j => cases hi; have a1 := hn b h1; have a2 := H.res_lt hj h2; omega
  | succ i =>
   cases j with
   | zero => cases hj; have a1 := hn b h2; have a2 := H.res_lt hi h1; omega
   | succ j => rw [H.inj i j s t b hi hj h1 h2]
theorem HS.upd (H : HS B S w L) {k : Nat} {r r' : Res} (hk : lkR L k = some r) (hsz : w.heap.size ≤ w'.heap.size) (hos : w'.os = w.os) (htp : w'.tape = w.tape) (hop : w'.output = w.output)
  (hb : ∀ i, i < w.heap.size → r.key ≠ some i → w'.heap[i]? = w.heap[i]?) (hr : r'.holds w') (hkey : ∀ b, r'.key = some b → r.key = some b ∨ w.heap.size ≤ b) : HS B S w' (stR L k r') := by
 refine ⟨⟨hos.trans H.fr.os, htp.trans H.fr.tape, hop.trans H.fr.output, Nat.le_trans H.fr.size hsz, ?_⟩, ?_, H.keep, ?_, ?_, ?_⟩
 ·intro i hi hx
  rw [hb i (Nat.lt_of_lt_of_le hi H.fr.size) (fun e => ?_)]
  ·exact H.fr.block i hi hx
  ·rcases (H.old k r i hk e).1 with h | h
   ·omega
   ·exact hx h
 ·intro b o e
  rw [hb b (H.sub.lt e) (fun e2 => ?_)]
  ·exact H.sub b o e
  ·rw [(H.old k r b hk e2).2] at e; cases e
 ·intro j s hj
  by_cases hjk : j = k
  ·subst hjk; rw [lkR_st_same hk] at hj; cases hj; exact hr
  ·rw [ziH hjk] at hj
   exact Res.holds_of (H.own j s hj) fun b hbs => hb b (H.res_lt hj hbs) fun e => hjk (H.inj j k s r b hj hk hbs e)
 ·intro j s b hj hbs
  by_cases hjk : j = k
  ·subst hjk; rw [lkR_st_same hk] at hj; cases hj
   rcases hkey b hbs with h | h
   ·exact H.old j r b hk h
   ·exact ⟨.inl (Nat.le_trans H.fr.size h), H.sub.none h⟩
  ·rw [ziH hjk] at hj; exact H.old j s b hj hbs
 ·intro i j s t b hi hj h1 h2
  by_cases hik : i = k
  ·by_cases hjk : j = k
   ·omega
   ·subst hik
    rw [lkR_st_same hk] at hi; cases hi
    rw [ziH hjk] at hj
    rcases hkey b h1 with h | h
    ·exact absurd (H.inj j i t r b hj hk h2 h) hjk
    ·have := H.res_lt hj h2; omega
  ·rw [ziH hik] at hi
   by_cases hjk : j = k
   ·subst hjk
    rw [lkR_st_same hk] at hj; cases hj
    rcases hkey b h2 with h | h
    ·exact absurd (H.inj i j s r b hi hk h1 h) hik
    ·have := H.res_lt hi h1; omega
   ·rw [ziH hjk] at hj; exact H.inj i j s t b hi hj h1 h2
theorem HS.rm (H : HS B S w L) (k : Nat) : HS B S w (rmR L k) := by
 refine ⟨H.fr, H.sub, H.keep, fun j r hj => ?_, fun j r b hj => ?_, fun i j r s b hi hj h1 h2 => ?_⟩
 ·rw [lkR_rm] at hj; split at hj
  ·exact H.own _ _ hj
  ·exact H.own _ _ hj
 ·rw [lkR_rm] at hj; split at hj
  ·exact H.old _ _ _ hj
  ·exact H.old _ _ _ hj
 ·rw [lkR_rm] at hi hj
  split at hi <;> split at hj <;> have := H.inj _ _ _ _ _ hi hj h1 h2 <;> omega
def selR (L : List Res) : List Nat → List Res
 | [] => []
 | j :: js => match lkR L j with
  | some r => r :: selR L js
  | none => selR L js
def okSel (L : List Res) : List Nat → Bool
 | [] => true
 | j :: js => Nat.blt j L.length && !(js.any (Nat.beq j)) && okSel L js
theorem lkR_lt {l : List Res} {k : Nat} : k < l.length → ∃ r, lkR l k = some r := fun h => ⟨l[k], by rw [lkR_eq]; simp [h]⟩
theorem selR_lk {L : List Res} : ∀ {js : List Nat}, okSel L js = true → ∀ {i : Nat} {r : Res}, lkR (selR L js) i = some r → ∃ j, js[i]? = some j ∧ lkR L j = some r
 | [], _, i, r, h => by simp [selR, lkR] at h
 | j :: js, hok, i, r, h => by
  simp only [okSel, Bool.and_eq_true] at hok
  have hj : j < L.length := by have := hok.1.1; rw [nat_blt] at this; simpa using this
  obtain ⟨x, hx⟩ := lkR_lt hj
  simp only [selR, hx] at h
  cases i with
  | zero => simp only [lkR, Option.some.injEq] at h; subst h; exact ⟨j, rfl, hx⟩
  | succ i =>
   simp only [lkR] at h
   obtain ⟨j', h1, h2⟩ := selR_lk hok.2 h
   exact ⟨j', by simpa using h1, h2⟩
theorem okSel_inj {L : List Res} : ∀ {js : List Nat}, okSel L js = true → ∀ {i k j : Nat}, js[i]? = some j → js[k]? = some j → i = k
 | [], _, i, k, j, h, _ => by simp at h
 | x :: js, hok, i, k, j, hi, hk => by
  simp only [okSel, Bool.and_eq_true, Bool.not_eq_true'] at hok
  have hx : ∀ y ∈ js, y ≠ x := fun y hy e => by
   have := List.any_eq_false.1 hok.1.2 y hy
   subst e; simp at this
  cases i with
  | zero =>
   cases k with
   | zero => rfl
   | succ k => simp at hi hk; subst hi; exact absurd rfl (hx _ (List.mem_of_getElem? hk))
  | succ i =>
   cases k with
   | zero => simp at hi hk; subst hk; exact absurd rfl (hx _ (List.mem_of_getElem? hi))
   | succ k => rw [okSel_inj hok.2 (i := i) (k := k) (by simpa using hi) (by simpa using hk)]
theorem HS.sel (H : HS B S w L) (js : List Nat) (hok : okSel L js = true) : HS B S w (selR L js) := by
 refine ⟨H.fr, H.sub, H.keep, fun i r hi => ?_, fun i r b hi hb => ?_, fun i k r s b hi hk h1 h2 => ?_⟩
 ·obtain ⟨j, _, h⟩ := selR_lk hok hi; exact H.own j r h
 ·obtain ⟨j, _, h⟩ := selR_lk hok hi; exact H.old j r b h hb
 ·obtain ⟨j, e1, g1⟩ := selR_lk hok hi
  obtain ⟨j', e2, g2⟩ := selR_lk hok hk
  obtain rfl := H.inj j j' r s b g1 g2 h1 h2
  exact okSel_inj hok e1 e2
def zeO : List Res → List Nat
 | [] => []
 | r :: l => match r.key with
  | some b => b :: zeO l
  | none => zeO l
theorem zkF {b : Nat} : ∀ {l : List Res}, b ∈ zeO l ↔ ∃ k r, lkR l k = some r ∧ r.key = some b
 | [] => by simp [zeO, lkR]
 | x :: l => by
  have ih := zkF (b := b) (l := l)
  constructor
  ·intro h
   unfold zeO at h
   cases hx : x.key with
   | none => rw [hx] at h; obtain ⟨k, r, h1, h2⟩ := ih.1 h; exact ⟨k + 1, r, h1, h2⟩
   | some c =>
    rw [hx] at h
    rcases List.mem_cons.1 h with rfl | h
    ·exact ⟨0, x, rfl, hx⟩
    ·obtain ⟨k, r, h1, h2⟩ := ih.1 h; exact ⟨k + 1, r, h1, h2⟩
  ·rintro ⟨k, r, h1, h2⟩
   unfold zeO
   cases k with
   | zero => simp only [lkR, Option.some.injEq] at h1; subst h1; rw [h2]; exact List.mem_cons_self
   | succ k =>
    have := ih.2 ⟨k, r, h1, h2⟩
    cases hx : x.key with
    | none => exact this
    | some c => exact List.mem_cons_of_mem _ this
theorem HS.keys_lt (H : HS B S w L) {b : Nat} (h : w.heap.size ≤ b) : ∀ c ∈ zeO L, c ≠ b := fun c hc e => by
 obtain ⟨k, r, hk, hr⟩ := zkF.1 hc
 have := H.res_lt hk hr
 omega
theorem HS.adopt (H : HS B S w L) {b : Nat} {l : List Value} {T : TypeId} (hb : B.w0.heap.size ≤ b) (hS : S b = none) (hh : w.heap[b]? = some (.cells l.toArray T (0, 0))) (hn : ∀ c ∈ zeO L, c ≠ b) : HS B S w (.blk b l T :: L) := by
 refine ⟨H.fr, H.sub, H.keep, ?_, ?_, ?_⟩
 ·intro k s hk
  cases k with
  | zero => cases hk; exact hh
  | succ k => exact H.own k s hk
 ·intro k s c hk hc
  cases k with
  | zero => cases hk; cases hc; exact ⟨.inl hb, hS⟩
  | succ k => exact H.old k s c hk hc
 ·intro i j s t c hi hj h1 h2
  cases i with
  | zero =>
   cases j with
   | zero => rfl
   | succ j => cases hi; cases h1; exact absurd rfl (hn b (zkF.2 ⟨j, t, hj, h2⟩))
  | succ i =>
   cases j with
   | zero => cases hj; cases h2; exact absurd rfl (hn b (zkF.2 ⟨i, s, hi, h1⟩))
   | succ j => rw [H.inj i j s t c hi hj h1 h2]
theorem HS.hand (H : HS B S w L) (js : List Nat) (hok : okSel L js = true) : HS ⟨S, zeO (selR L js), w⟩ S w (selR L js) := by
 have h := H.sel js hok
 exact ⟨Fr.refl _ _, h.sub, fun _ _ _ => rfl, h.own, fun k r b hk hb => ⟨.inr (zkF.2 ⟨k, r, hk, hb⟩), (h.old k r b hk hb).2⟩, h.inj⟩
theorem HS.frame {S' : Mem} {N : List Res} (H : HS B S w L) (js ks : List Nat) (hok : okSel L (js ++ ks) = true) (H' : HS ⟨S, zeO (selR L js), w⟩ S' w' N) : HS B S' w' (N ++ selR L ks) ∧ Mem.le S S' := by
 have hokj : okSel L js = true := by
  clear H'
  induction js with
  | nil => rfl
  | cons j js ih =>
   simp only [List.cons_append, okSel, Bool.and_eq_true, Bool.not_eq_true', List.any_append, Bool.or_eq_false_iff] at hok ⊢
   exact ⟨⟨hok.1.1, hok.1.2.1⟩, ih hok.2⟩
 have hokk : okSel L ks = true := by
  clear H' hokj
  induction js with
  | nil => exact hok
  | cons j js ih =>
   simp only [List.cons_append, okSel, Bool.and_eq_true] at hok
   exact ih hok.2
 have apart : ∀ {i k j : Nat}, js[i]? = some j → ks[k]? = some j → False := fun {i k j} hi hk => by
  have h1 : (js ++ ks)[i]? = some j := by rw [List.getElem?_append_left (List.getElem?_eq_some_iff.1 hi).1]; exact hi
  have h2 : (js ++ ks)[js.length + k]? = some j := by rw [List.getElem?_append_right (by omega)]; simpa using hk
  have := okSel_inj hok h1 h2
  have := (List.getElem?_eq_some_iff.1 hi).1
  omega
 have hfr := H'.fr
 have nokey : ∀ b, S b ≠ none → b ∉ zeO (selR L js) := fun b hb hm => by
  obtain ⟨i, s, h1, h2⟩ := zkF.1 hm
  obtain ⟨j', _, h'⟩ := selR_lk hokj h1
  exact hb (H.old j' s b h' h2).2
 have hle : Mem.le S S' := fun b o e => by rw [H'.keep b (H.sub.lt e) (nokey b (by rw [e]; simp))]; exact e
 -- a resource that stays
 have stay : ∀ {k : Nat} {r : Res}, lkR (selR L ks) k = some r → ∃ j, lkR L j = some r ∧ ∀ b, r.key = some b → b < w.heap.size ∧ b ∉ zeO (selR L js) := fun {k r} hk => by
  obtain ⟨j, e, h⟩ := selR_lk hokk hk
  refine ⟨j, h, fun b hb => ⟨H.res_lt h hb, fun hm => ?_⟩⟩
  obtain ⟨i, s, h1, h2⟩ := zkF.1 hm
  obtain ⟨j', e', h'⟩ := selR_lk hokj h1
  obtain rfl := H.inj j j' r s b h h' hb h2
  exact apart e' e
 have gone : ∀ {b : Nat}, b ∈ zeO (selR L js) → B.w0.heap.size ≤ b ∨ b ∈ B.X := fun {b} hm => by
  obtain ⟨i, s, h1, h2⟩ := zkF.1 hm
  obtain ⟨j', _, h'⟩ := selR_lk hokj h1
  exact (H.old j' s b h' h2).1
 have lkA : ∀ k, lkR (N ++ selR L ks) k = if k < N.length then lkR N k else lkR (selR L ks) (k - N.length) := fun k => by
  rw [lkR_eq, lkR_eq, lkR_eq, List.getElem?_append]
 refine ⟨⟨⟨hfr.os.trans H.fr.os, hfr.tape.trans H.fr.tape, hfr.output.trans H.fr.output, Nat.le_trans H.fr.size hfr.size, fun i hi hx => ?_⟩, H'.sub, fun b hb hbx => ?_, fun k r hk => ?_, fun k r b hk hb => ?_, fun i j r s b hi hj h1 h2 => ?_⟩, hle⟩
 ·rw [hfr.block i (Nat.lt_of_lt_of_le hi H.fr.size) (fun hm => ?_)]
  ·exact H.fr.block i hi hx
  ·rcases gone hm with h | h
   ·omega
   ·exact hx h
 ·rw [H'.keep b (Nat.lt_of_lt_of_le hb H.fr.size) (fun hm => ?_)]
  ·exact H.keep b hb hbx
  ·rcases gone hm with h | h
   ·omega
   ·exact hbx h
 ·rw [lkA] at hk
  split at hk
  ·exact H'.own k r hk
  ·obtain ⟨j, h, hs⟩ := stay hk
   exact Res.holds_of (H.own j r h) fun b hb => hfr.block b (hs b hb).1 (hs b hb).2
 ·rw [lkA] at hk
  split at hk
  ·have h := H'.old k r b hk hb
   refine ⟨?_, h.2⟩
   rcases h.1 with h1 | h1
   ·exact .inl (Nat.le_trans H.fr.size h1)
   ·exact gone h1
  ·obtain ⟨j, h, hs⟩ := stay hk
   exact ⟨(H.old j r b h hb).1, by rw [H'.keep b (hs b hb).1 (hs b hb).2]; exact (H.old j r b h hb).2⟩
 ·rw [lkA] at hi hj
  split at hi <;> split at hj
  ·exact H'.inj i j r s b hi hj h1 h2
  ·obtain ⟨j', h, hs⟩ := stay hj
   rcases (H'.old i r b hi h1).1 with g | g
   ·have := (hs b h2).1; have g' : w.heap.size ≤ b := g; omega
   ·exact absurd g (hs b h2).2
  ·obtain ⟨j', h, hs⟩ := stay hi
   rcases (H'.old j s b hj h2).1 with g | g
   ·have := (hs b h1).1; have g' : w.heap.size ≤ b := g; omega
   ·exact absurd g (hs b h1).2
  ·have := (H.sel ks hokk).inj _ _ r s b hi hj h1 h2
   omega
theorem HS.fix (H : HS B S w L) {k : Nat} {r : Res} (hk : lkR L k = some r) {b : Nat} {o : Obj} (hb : r.key = some b) (ho : w.heap[b]? = some o) : ∃ S', Mem.le S S' ∧ S' b = some o ∧ HS B S' w (rmR L k) := by
 refine ⟨fun i => if i = b then some o else S i, fun i p e => ?_, by simp, ?_⟩
 ·by_cases h : i = b
  ·subst h; rw [(H.old k r i hk hb).2] at e; cases e
  ·simp [h, e]
 ·have h' := H.rm k
  have hold := (H.old k r b hk hb).1
  refine ⟨h'.fr, fun i p e => ?_, fun i hi hx => ?_, h'.own, fun j s i hj hs => ?_, h'.inj⟩
  ·by_cases h : i = b
   ·subst h; simp at e; subst e; exact ho
   ·simp [h] at e; exact H.sub i p e
  ·have : i ≠ b := fun e => by
    subst e
    rcases hold with h | h
    ·omega
    ·exact hx h
   simp [this, H.keep i hi hx]
  ·have h1 := h'.old j s i hj hs
   refine ⟨h1.1, ?_⟩
   have : i ≠ b := fun e => by
    subst e
    rw [lkR_rm] at hj
    split at hj <;> have := H.inj _ _ _ _ _ hj hk hs hb <;> omega
   simp [this, h1.2]
end
def SlS (S : Mem) (v : Value) (n sz : Nat) (cs : List Value) : Prop :=
 (v = .slice none 0 0 ∧ n = 0 ∧ cs = []) ∨ ∃ b o c ds T fz, v = sl b o n c ∧ n ≤ c ∧ S b = some (.cells ds.toArray T fz) ∧ o + n * sz ≤ ds.length ∧ piece ds o (n * sz) = cs
theorem SlS.mono {S T : Mem} {v : Value} {n sz : Nat} {cs : List Value} (h : SlS S v n sz cs) (hl : Mem.le S T) : SlS T v n sz cs := by
 rcases h with h | ⟨b, o, c, ds, E, fz, h1, h2, h3, h4, h5⟩
 ·exact .inl h
 ·exact .inr ⟨b, o, c, ds, E, fz, h1, h2, hl _ _ h3, h4, h5⟩
def SlW (w : World) (v : Value) (n sz : Nat) (cs : List Value) : Prop :=
 (v = .slice none 0 0 ∧ n = 0 ∧ cs = []) ∨ ∃ b o c ds T fz, v = sl b o n c ∧ n ≤ c ∧ w.heap[b]? = some (.cells ds.toArray T fz) ∧ o + n * sz ≤ ds.length ∧ piece ds o (n * sz) = cs
theorem SlS.w {S : Mem} {w : World} {v : Value} {n sz : Nat} {cs : List Value} (h : SlS S v n sz cs) (hs : Sub S w) : SlW w v n sz cs := by
 rcases h with h | ⟨b, o, c, ds, E, fz, h1, h2, h3, h4, h5⟩
 ·exact .inl h
 ·exact .inr ⟨b, o, c, ds, E, fz, h1, h2, hs _ _ h3, h4, h5⟩
theorem zlI {l : List Value} {o n : Nat} (h : o + n ≤ l.length) : (piece l o n).length = n := by rw [zbV]; simp; omega
theorem SlW.len {w : World} {v : Value} {n sz : Nat} {cs : List Value} (h : SlW w v n sz cs) : cs.length = n * sz := by
 rcases h with ⟨_, rfl, rfl⟩ | ⟨b, o, c, ds, E, fz, h1, h2, h3, h4, rfl⟩
 ·simp
 ·exact zlI h4
theorem SlS.len {S : Mem} {v : Value} {n sz : Nat} {cs : List Value} (h : SlS S v n sz cs) : cs.length = n * sz := by
 rcases h with ⟨_, rfl, rfl⟩ | ⟨b, o, c, ds, E, fz, h1, h2, h3, h4, rfl⟩
 ·simp
 ·exact zlI h4
theorem Res.slW {w : World} {v : Value} {n sz : Nat} {cs rs : List Value} {T : TypeId} (h : (Res.osl v n sz cs rs T).holds w) : SlW w v n sz cs := by
 rcases h with ⟨h1, h2, h3, _⟩ | ⟨b, c, fz, rfl, h1, h2, h3, h4, _⟩
 ·exact .inl ⟨h1, h2, h3⟩
 ·refine .inr ⟨b, 0, c, cs ++ rs, T, fz, rfl, h1, h4, by simp; omega, ?_⟩
  rw [zbV, List.drop_zero, ← h2, List.take_left']
  rfl
theorem SlS.nil (S : Mem) (sz : Nat) : SlS S (.slice none 0 0) 0 sz [] := .inl ⟨rfl, rfl, rfl⟩
theorem HS.slW {B : Bas} {S : Mem} {w : World} {L : List Res} (H : HS B S w L) {k : Nat} {v : Value} {n sz : Nat} {cs rs : List Value} {T : TypeId} (hk : lkR L k = some (.osl v n sz cs rs T)) : SlW w v n sz cs := Res.slW (H.own k _ hk)
theorem HS.fixS {B : Bas} {S : Mem} {w : World} {L : List Res} (H : HS B S w L) {k : Nat} {v : Value} {n sz : Nat} {cs rs : List Value} {T : TypeId} (hk : lkR L k = some (.osl v n sz cs rs T)) :
  ∃ S', Mem.le S S' ∧ SlS S' v n sz cs ∧ HS B S' w (rmR L k) := by
 have hh := H.own k _ hk
 rcases hh with ⟨h1, h2, h3, _⟩ | ⟨b, c, fz, rfl, h1, h2, h3, h4, _⟩
 ·exact ⟨S, Mem.le_refl S, .inl ⟨h1, h2, h3⟩, H.rm k⟩
 ·obtain ⟨S', hle, hb, H'⟩ := H.fix hk (b := b) rfl h4
  refine ⟨S', hle, .inr ⟨b, 0, c, cs ++ rs, T, fz, rfl, h1, hb, by simp; omega, ?_⟩, H'⟩
  rw [zbV, List.drop_zero, ← h2, List.take_left']
  rfl
theorem HS.fixB {B : Bas} {S : Mem} {w : World} {L : List Res} (H : HS B S w L) {k b : Nat} {cs : List Value} {T : TypeId} (hk : lkR L k = some (.blk b cs T)) :
  ∃ S', Mem.le S S' ∧ S' b = some (.cells cs.toArray T (0, 0)) ∧ HS B S' w (rmR L k) :=
 H.fix hk (b := b) rfl (H.own k _ hk)
def subN : Value → Nat → Nat → Nat → Value
 | .slice a _ c, sz, lo, hi => .slice (if c = lo then a else a.map (·.add (lo * sz))) (hi - lo) (c - lo)
 | v, _, _, _ => v
theorem piece_piece (l : List Value) (o n p m : Nat) (h : p + m ≤ n) : piece (piece l o n) p m = piece l (o + p) m := by
 simp only [zbV]
 rw [List.drop_take, List.take_take, List.drop_drop]
 congr 1
 omega
theorem SlS.sub {S : Mem} {v : Value} {n sz : Nat} {cs : List Value} (h : SlS S v n sz cs) {lo hi : Nat} (h1 : lo ≤ hi) (h2 : hi ≤ n) : SlS S (subN v sz lo hi) (hi - lo) sz (piece cs (lo * sz) ((hi - lo) * sz)) := by
 rcases h with ⟨rfl, rfl, rfl⟩ | ⟨b, o, c, ds, T, fz, rfl, h3, h4, h5, rfl⟩
 ·obtain rfl : hi = 0 := by omega
  obtain rfl : lo = 0 := by omega
  exact .inl ⟨rfl, rfl, by simp [piece]⟩
 ·have hm : lo * sz + (hi - lo) * sz ≤ n * sz := by rw [← Nat.add_mul]; exact Nat.mul_le_mul_right sz (by omega)
  by_cases hc : c = lo
  ·obtain rfl : hi = lo := by omega
   refine .inr ⟨b, o, c - hi, ds, T, fz, ?_, by omega, h4, by simp; omega, ?_⟩
   ·simp [subN, sl, hc]
   ·simp [piece]
  ·refine .inr ⟨b, o + lo * sz, c - lo, ds, T, fz, ?_, by omega, h4, by omega, ?_⟩
   ·simp [subN, sl, hc, zdW]
   ·rw [piece_piece _ _ _ _ _ hm]
def CellAt (S : Mem) (b o : Nat) (c : List Value) : Prop := ∃ ds T fz, S b = some (.cells ds.toArray T fz) ∧ o + c.length ≤ ds.length ∧ piece ds o c.length = c
theorem CellAt.mono {S T : Mem} {b o : Nat} {c : List Value} (h : CellAt S b o c) (hl : Mem.le S T) : CellAt T b o c := by
 obtain ⟨ds, E, fz, h1, h2⟩ := h
 exact ⟨ds, E, fz, hl _ _ h1, h2⟩
theorem SlS.at {S : Mem} {v : Value} {n sz i : Nat} {cs : List Value} (h : SlS S v n sz cs) (hi : i < n) : ∃ b o c, v = sl b o n c ∧ CellAt S b (o + i * sz) (piece cs (i * sz) sz) := by
 rcases h with ⟨rfl, rfl, rfl⟩ | ⟨b, o, c, ds, T, fz, rfl, h3, h4, h5, rfl⟩
 ·omega
 ·have hm : i * sz + sz ≤ n * sz := by
   have := Nat.mul_le_mul_right sz (show i + 1 ≤ n by omega)
   rw [Nat.add_mul, Nat.one_mul] at this
   exact this
  have hl : (piece (piece ds o (n * sz)) (i * sz) sz).length = sz := zlI (by rw [zlI h5]; exact hm)
  refine ⟨b, o, c, rfl, ds, T, fz, h4, by rw [hl]; omega, ?_⟩
  rw [hl, piece_piece _ _ _ _ _ hm]
end
section
section
variable {α β γ σ : Type}
theorem bnd {o : Option α} {f : α → Option β} {r : β} (h : o.bind f = some r) : ∃ x, o = some x ∧ f x = some r := by
 cases o with
 | none => cases h
 | some x => exact ⟨x, rfl, h⟩
theorem zfK {c : Bool} {a b r : α} (h : (bif c then a else b) = r) (hc : c = true) : a = r := by subst hc; exact h
theorem zfR {c : Bool} {a b r : α} (h : (bif c then a else b) = r) (hc : c = false) : b = r := by subst hc; exact h
def jnO (o : α ⊕ β) (f : α → Option γ) (g : β → Option γ) : Option γ := match o with
 | .inl a => f a
 | .inr b => g b
def jn (o : Option (α ⊕ β)) (f : α → Option γ) (g : β → Option γ) : Option γ := o.bind fun o => jnO o f g
theorem jn_some {o : Option (α ⊕ β)} {f : α → Option γ} {g : β → Option γ} {r : γ} (h : jn o f g = some r) : ∃ x, o = some x ∧ jnO x f g = some r := bnd h
theorem jnO_l {a : α} {x : α ⊕ β} {f : α → Option γ} {g : β → Option γ} {r : Option γ} (h : jnO x f g = r) (hx : x = .inl a) : f a = r := by subst hx; exact h
def iterN (body : σ → Option (σ ⊕ β)) : Nat → σ → Option β
 | 0, _ => none
 | k + 1, s => jn (body s) (iterN body k) some
def FU : Nat := 1099511627776
def iter (body : σ → Option (σ ⊕ β)) (s : σ) : Option β := iterN body FU s
theorem zjM {body : σ → Option (σ ⊕ β)} {k : Nat} {s s' : σ} (h : body s = some (.inl s')) : iterN body (k + 1) s = iterN body k s' := by
 simp only [iterN, jn, h, Option.bind_some, jnO]
theorem zkD {body : σ → Option (σ ⊕ β)} {k : Nat} {s : σ} {b : β} (h : body s = some (.inr b)) : iterN body (k + 1) s = some b := by
 simp only [iterN, jn, h, Option.bind_some, jnO]
theorem iterN_ind {body : σ → Option (σ ⊕ β)} (I : σ → Prop) (m : σ → Nat) (G : β → Prop) (hr : ∀ s, I s → (∃ s', body s = some (.inl s') ∧ I s' ∧ m s' < m s) ∨ ∃ b, body s = some (.inr b) ∧ G b) :
  ∀ (k : Nat) (s : σ), I s → m s < k → ∃ b, iterN body k s = some b ∧ G b
 | 0, _, _, h => by omega
 | k + 1, s, hI, hk => by
  rcases hr s hI with ⟨s', h1, h2, h3⟩ | ⟨b, h1, h2⟩
  ·rw [zjM h1]; exact iterN_ind I m G hr k s' h2 (by omega)
  ·exact ⟨b, zkD h1, h2⟩
theorem zfI {body : σ → Option (σ ⊕ β)} (I : σ → Prop) (m : σ → Nat) (G : β → Prop) (s : σ) (h0 : I s) (hm : m s < 1099511627776) (hr : ∀ s, I s → (∃ s', body s = some (.inl s') ∧ I s' ∧ m s' < m s) ∨ ∃ b, body s = some (.inr b) ∧ G b) :
  ∃ b, iter body s = some b ∧ G b := iterN_ind I m G hr FU s h0 hm
def idx (l : List α) (i : Int) : Option α := bif decide (i < 0) then none else l[i.toNat]?
theorem zaD {l : List α} {i : Int} {x : α} (h : idx l i = some x) : i = (i.toNat : Int) ∧ l[i.toNat]? = some x := by
 unfold idx at h
 by_cases hi : i < 0
 ·simp [hi] at h
 ·simp only [hi, decide_false, cond_false] at h; exact ⟨by omega, h⟩
theorem idx_nat {l : List α} (i : Nat) : idx l (i : Int) = l[i]? := by
 have h : ¬ ((i : Int) < 0) := by omega
 simp only [idx, h, decide_false, cond_false, Int.toNat_natCast]
theorem zbA {l : List α} {i : Int} {x : α} (h : idx l i = some x) : i.toNat < l.length := (List.getElem?_eq_some_iff.1 (zaD h).2).1
def sub3 (l : List α) (lo hi : Int) : Option (List α) := bif decide (0 ≤ lo) && decide (lo ≤ hi) && decide (hi ≤ (l.length : Int)) then some ((l.take hi.toNat).drop lo.toNat) else none
theorem sub3_some {l r : List α} {lo hi : Int} (h : sub3 l lo hi = some r) : lo = (lo.toNat : Int) ∧ hi = (hi.toNat : Int) ∧ lo.toNat ≤ hi.toNat ∧ hi.toNat ≤ l.length ∧ (l.take hi.toNat).drop lo.toNat = r := by
 unfold sub3 at h
 by_cases hc : decide (0 ≤ lo) && decide (lo ≤ hi) && decide (hi ≤ (l.length : Int))
 ·rw [hc] at h
  simp only [Bool.and_eq_true, decide_eq_true_eq] at hc
  simp only [cond_true, Option.some.injEq] at h
  exact ⟨by omega, by omega, by omega, by omega, h⟩
 ·simp only [Bool.not_eq_true] at hc; rw [hc] at h; cases h
def subL (l : List α) (lo : Int) : Option (List α) := bif decide (0 ≤ lo) && decide (lo ≤ (l.length : Int)) then some (l.drop lo.toNat) else none
theorem zjE {l r : List α} {lo : Int} (h : subL l lo = some r) : lo = (lo.toNat : Int) ∧ lo.toNat ≤ l.length ∧ l.drop lo.toNat = r := by
 unfold subL at h
 by_cases hc : decide (0 ≤ lo) && decide (lo ≤ (l.length : Int))
 ·rw [hc] at h
  simp only [Bool.and_eq_true, decide_eq_true_eq] at hc
  simp only [cond_true, Option.some.injEq] at h
  exact ⟨by omega, by omega, h⟩
 ·simp only [Bool.not_eq_true] at hc; rw [hc] at h; cases h
def subH (l : List α) (hi : Int) : Option (List α) := bif decide (0 ≤ hi) && decide (hi ≤ (l.length : Int)) then some (l.take hi.toNat) else none
theorem zeI {l r : List α} {hi : Int} (h : subH l hi = some r) : hi = (hi.toNat : Int) ∧ hi.toNat ≤ l.length ∧ l.take hi.toNat = r := by
 unfold subH at h
 by_cases hc : decide (0 ≤ hi) && decide (hi ≤ (l.length : Int))
 ·rw [hc] at h
  simp only [Bool.and_eq_true, decide_eq_true_eq] at hc
  simp only [cond_true, Option.some.injEq] at h
  exact ⟨by omega, by omega, h⟩
 ·simp only [Bool.not_eq_true] at hc; rw [hc] at h; cases h
theorem subL_ok {l : List α} {n : Nat} (h : n ≤ l.length) : subL l (n : Int) = some (l.drop n) := by
 unfold subL
 rw [show (decide (0 ≤ (n : Int)) && decide ((n : Int) ≤ (l.length : Int))) = true by simp; omega]; rfl
theorem subH_ok {l : List α} {n : Nat} (h : n ≤ l.length) : subH l (n : Int) = some (l.take n) := by
 unfold subH
 rw [show (decide (0 ≤ (n : Int)) && decide ((n : Int) ≤ (l.length : Int))) = true by simp; omega]; rfl
theorem sub3_ok {l : List α} {n m : Nat} (h : n ≤ m) (h2 : m ≤ l.length) : sub3 l (n : Int) (m : Int) = some ((l.take m).drop n) := by
 unfold sub3
 rw [show (decide (0 ≤ (n : Int)) && decide ((n : Int) ≤ (m : Int)) && decide ((m : Int) ≤ (l.length : Int))) = true by simp; omega]; rfl
def LIM : Nat := 68719476736
def app (a b : List α) : Option (List α) := bif decide (a.length + b.length ≤ LIM) then some (a ++ b) else none
theorem zcC {a b r : List α} (h : app a b = some r) : a.length + b.length ≤ 68719476736 ∧ a ++ b = r := by
 unfold app at h
 by_cases hc : a.length + b.length ≤ LIM
 ·simp only [hc, decide_true, cond_true, Option.some.injEq] at h; exact ⟨hc, h⟩
 ·simp only [hc, decide_false, cond_false] at h; cases h
theorem zeH {a b : List α} (h : a.length + b.length ≤ 68719476736) : app a b = some (a ++ b) := by
 have h' : a.length + b.length ≤ LIM := h
 simp only [app, h', decide_true, cond_true]
def mkL (n : Int) (z : α) : Option (List α) := bif decide (0 ≤ n) && decide (n ≤ (LIM : Int)) then some (List.replicate n.toNat z) else none
theorem mkL_some {n : Int} {z : α} {r : List α} (h : mkL n z = some r) : 0 ≤ n ∧ n ≤ 68719476736 ∧ List.replicate n.toNat z = r := by
 unfold mkL at h
 by_cases hc : decide (0 ≤ n) && decide (n ≤ (LIM : Int))
 ·rw [hc] at h
  simp only [Bool.and_eq_true, decide_eq_true_eq] at hc
  simp only [cond_true, Option.some.injEq] at h
  exact ⟨hc.1, hc.2, h⟩
 ·simp only [Bool.not_eq_true] at hc; rw [hc] at h; cases h
def setL (l : List α) (i : Int) (x : α) : Option (List α) := bif decide (0 ≤ i) && decide (i < (l.length : Int)) then some (l.set i.toNat x) else none
theorem setL_some {l r : List α} {i : Int} {x : α} (h : setL l i x = some r) : i = (i.toNat : Int) ∧ i.toNat < l.length ∧ l.set i.toNat x = r := by
 unfold setL at h
 by_cases hc : decide (0 ≤ i) && decide (i < (l.length : Int))
 ·rw [hc] at h
  simp only [Bool.and_eq_true, decide_eq_true_eq] at hc
  simp only [cond_true, Option.some.injEq] at h
  exact ⟨by omega, by omega, h⟩
 ·simp only [Bool.not_eq_true] at hc; rw [hc] at h; cases h
def chk (c : Bool) : Option Unit := bif c then some () else none
theorem zdT {c : Bool} {u : Unit} (h : chk c = some u) : c = true := by cases c with
 | true => rfl
 | false => cases h
end
abbrev w64 (x : Int) : Int := IntKind.i64.wrap x
def i8 (x : Int) : UInt8 := UInt8.ofNat (x % 256).toNat
def i32 (x : Int) : UInt32 := UInt32.ofNat (x % 4294967296).toNat
def i64 (x : Int) : UInt64 := UInt64.ofNat (x % 18446744073709551616).toNat
theorem i8_wrap (x : Int) : IntKind.u8.wrap x = ((i8 x).toNat : Int) := by
 have e : IntKind.u8.wrap x = x % 256 := by simp [IntKind.wrap, IntKind.signed, IntKind.bits]
 rw [e]; simp [i8]; omega
theorem zbN (x : Int) : IntKind.u32.wrap x = ((i32 x).toNat : Int) := by
 have e : IntKind.u32.wrap x = x % 4294967296 := by simp [IntKind.wrap, IntKind.signed, IntKind.bits]
 rw [e]; simp [i32]; omega
theorem zbT (x : Int) : IntKind.u64.wrap x = ((i64 x).toNat : Int) := by
 have e : IntKind.u64.wrap x = x % 18446744073709551616 := by simp [IntKind.wrap, IntKind.signed, IntKind.bits]
 rw [e]; simp [i64]; omega
theorem i32_of {x : Int} (h : 0 ≤ x) (h2 : x < 4294967296) : ((i32 x).toNat : Int) = x := by simp [i32]; omega
theorem i64_of {x : Int} (h : 0 ≤ x) (h2 : x < 18446744073709551616) : ((i64 x).toNat : Int) = x := by simp [i64]; omega
theorem i8_xor (a b : UInt8) : bits .xor .u8 (a.toNat : Int) (b.toNat : Int) = ((a ^^^ b).toNat : Int) := xorN rfl a.toNat_lt b.toNat_lt
theorem ziY (a b : UInt32) : bits .and .u32 (a.toNat : Int) (b.toNat : Int) = ((a &&& b).toNat : Int) := andN rfl a.toNat_lt b.toNat_lt
theorem i32_or (a b : UInt32) : bits .or .u32 (a.toNat : Int) (b.toNat : Int) = ((a ||| b).toNat : Int) := orN rfl a.toNat_lt b.toNat_lt
theorem zeB (a b : UInt32) : bits .xor .u32 (a.toNat : Int) (b.toNat : Int) = ((a ^^^ b).toNat : Int) := xorN rfl a.toNat_lt b.toNat_lt
theorem zjO (a b : UInt64) : bits .and .u64 (a.toNat : Int) (b.toNat : Int) = ((a &&& b).toNat : Int) := andN rfl a.toNat_lt b.toNat_lt
theorem i64_or (a b : UInt64) : bits .or .u64 (a.toNat : Int) (b.toNat : Int) = ((a ||| b).toNat : Int) := orN rfl a.toNat_lt b.toNat_lt
theorem w64_u8 (a : UInt8) : w64 (a.toNat : Int) = (a.toNat : Int) := by have := a.toNat_lt; exact wr64 (by omega) (by omega)
def shlI (k : IntKind) (a b : Int) : Int := k.wrap (a * 2 ^ (min b.toNat k.bits))
def shrI (k : IntKind) (a b : Int) : Int := a.fdiv (2 ^ (min b.toNat k.bits))
theorem fdiv_pow {a : Nat} (k : Nat) : (a : Int).fdiv (2 ^ k) = ((a / 2 ^ k : Nat) : Int) := by
 rw [show ((2 : Int) ^ k) = ((2 ^ k : Nat) : Int) by rw [Int.natCast_pow]; rfl]
 exact (Int.ofNat_fdiv a (2 ^ k)).symm
theorem zjJ (a : UInt32) (b : Int) : Int.fdiv (a.toNat : Int) (2 ^ (min b.toNat IntKind.u32.bits)) = ((i32 (shrI .u32 (a.toNat : Int) b)).toNat : Int) := by
 have h1 := a.toNat_lt
 unfold shrI
 rw [fdiv_pow, i32_of (Int.natCast_nonneg _) (by have := Nat.div_le_self a.toNat (2 ^ (min b.toNat IntKind.u32.bits)); omega)]
theorem zjC (a : UInt64) (b : Int) : Int.fdiv (a.toNat : Int) (2 ^ (min b.toNat IntKind.u64.bits)) = ((i64 (shrI .u64 (a.toNat : Int) b)).toNat : Int) := by
 have h1 := a.toNat_lt
 unfold shrI
 rw [fdiv_pow, i64_of (Int.natCast_nonneg _) (by have := Nat.div_le_self a.toNat (2 ^ (min b.toNat IntKind.u64.bits)); omega)]
theorem i32_nat (b : UInt32) : i32 (b.toNat : Int) = b := by
 apply UInt32.toNat.inj; have := i32_of (x := (b.toNat : Int)) (by omega) (by have := b.toNat_lt; omega); omega
theorem i64_nat (b : UInt64) : i64 (b.toNat : Int) = b := by
 apply UInt64.toNat.inj; have := i64_of (x := (b.toNat : Int)) (by omega) (by have := b.toNat_lt; omega); omega
theorem i32_shl (a : UInt32) (b : Int) : IntKind.u32.wrap ((a.toNat : Int) * 2 ^ (min b.toNat IntKind.u32.bits)) = ((i32 (shlI .u32 (a.toNat : Int) b)).toNat : Int) := by
 have e : shlI .u32 (a.toNat : Int) b = IntKind.u32.wrap ((a.toNat : Int) * 2 ^ (min b.toNat IntKind.u32.bits)) := rfl
 rw [← e, e, zbN, i32_nat]
theorem i64_shl (a : UInt64) (b : Int) : IntKind.u64.wrap ((a.toNat : Int) * 2 ^ (min b.toNat IntKind.u64.bits)) = ((i64 (shlI .u64 (a.toNat : Int) b)).toNat : Int) := by
 have e : shlI .u64 (a.toNat : Int) b = IntKind.u64.wrap ((a.toNat : Int) * 2 ^ (min b.toNat IntKind.u64.bits)) := rfl
 rw [← e, e, zbT, i64_nat]
theorem not_true {b : Bool} (h : b = true) : (!b) = false := by rw [h]; rfl
theorem not_false {b : Bool} (h : b = false) : (!b) = true := by rw [h]; rfl
class Rp (α : Type) where
 sz : Nat
 rep : Mem → List Value → α → Prop
 len : ∀ {S c x}, rep S c x → c.length = sz
 mono : ∀ {S T c x}, rep S c x → Mem.le S T → rep T c x
 one : ∀ {S c x}, rep S c x → ∀ v ∈ c, v.oneCell' = true
def RL {α : Type} [Rp α] (S : Mem) : List Value → List α → Prop
 | cs, [] => cs = []
 | cs, x :: xs => ∃ c d, cs = c ++ d ∧ Rp.rep S c x ∧ RL S d xs
section
variable {α β : Type} [Rp α] [Rp β] {S T : Mem}
theorem RL.mono : ∀ {xs : List α} {cs : List Value}, RL S cs xs → Mem.le S T → RL T cs xs
 | [], _, h, _ => h
 | _ :: _, _, ⟨c, d, e, h1, h2⟩, hl => ⟨c, d, e, Rp.mono h1 hl, RL.mono h2 hl⟩
theorem RL.len : ∀ {xs : List α} {cs : List Value}, RL S cs xs → cs.length = xs.length * Rp.sz α
 | [], _, h => by rw [show _ = [] from h]; simp
 | x :: xs, _, ⟨c, d, e, h1, h2⟩ => by rw [e, List.length_append, Rp.len h1, RL.len h2, List.length_cons, Nat.add_mul]; omega
theorem RL.one : ∀ {xs : List α} {cs : List Value}, RL S cs xs → ∀ v ∈ cs, v.oneCell' = true
 | [], _, h, v, hv => by rw [show _ = [] from h] at hv; cases hv
 | x :: xs, _, ⟨c, d, e, h1, h2⟩, v, hv => by
  rw [e] at hv
  rcases List.mem_append.1 hv with h | h
  ·exact Rp.one h1 v h
  ·exact RL.one h2 v h
theorem RL.nil : RL S [] ([] : List α) := rfl
theorem RL.cons {c d : List Value} {x : α} {xs : List α} (h1 : Rp.rep S c x) (h2 : RL S d xs) : RL S (c ++ d) (x :: xs) := ⟨c, d, rfl, h1, h2⟩
theorem RL.append : ∀ {xs : List α} {cs ds : List Value} {ys : List α}, RL S cs xs → RL S ds ys → RL S (cs ++ ds) (xs ++ ys)
 | [], cs, _, _, h, k => by rw [show cs = [] from h]; exact k
 | x :: xs, _, ds, ys, ⟨c, d, e, h1, h2⟩, k => by rw [e, List.append_assoc]; exact ⟨c, d ++ ds, rfl, h1, RL.append h2 k⟩
theorem RL.get : ∀ {xs : List α} {cs : List Value} {i : Nat} {x : α}, RL S cs xs → xs[i]? = some x → Rp.rep S (piece cs (i * Rp.sz α) (Rp.sz α)) x
 | [], _, _, _, _, h => by simp at h
 | y :: xs, _, 0, x, ⟨c, d, e, h1, h2⟩, h => by
  simp at h; subst h
  rw [e, zbV, Nat.zero_mul, List.drop_zero, ← Rp.len h1, List.take_left]; exact h1
 | y :: xs, _, i + 1, x, ⟨c, d, e, h1, h2⟩, h => by
  have ih := RL.get h2 (i := i) (by simpa using h)
  rw [e, zbV, Nat.add_mul, Nat.one_mul, Nat.add_comm, ← Rp.len h1, ← List.drop_drop, List.drop_left, Rp.len h1, ← zbV]; exact ih
theorem RL.take : ∀ {xs : List α} {cs : List Value} (n : Nat), RL S cs xs → RL S (cs.take (n * Rp.sz α)) (xs.take n)
 | [], cs, n, h => by rw [show cs = [] from h]; simp [RL]
 | x :: xs, _, 0, _ => by simp [RL]
 | x :: xs, _, n + 1, ⟨c, d, e, h1, h2⟩ => by
  refine ⟨c, d.take (n * Rp.sz α), ?_, h1, RL.take n h2⟩
  rw [e, Nat.add_mul, Nat.one_mul, Nat.add_comm, ← Rp.len h1, List.take_length_add_append]
theorem RL.drop : ∀ {xs : List α} {cs : List Value} (n : Nat), RL S cs xs → RL S (cs.drop (n * Rp.sz α)) (xs.drop n)
 | [], cs, n, h => by rw [show cs = [] from h]; simp [RL]
 | x :: xs, cs, 0, h => by simpa using h
 | x :: xs, _, n + 1, ⟨c, d, e, h1, h2⟩ => by
  have ih := RL.drop n h2
  rw [e, Nat.add_mul, Nat.one_mul, Nat.add_comm, ← Rp.len h1, List.drop_length_add_append, Rp.len h1]
  exact ih
theorem RL.sub {xs : List α} {cs : List Value} {lo hi : Nat} (h : RL S cs xs) (h1 : lo ≤ hi) : RL S (piece cs (lo * Rp.sz α) ((hi - lo) * Rp.sz α)) ((xs.take hi).drop lo) := by
 have := RL.drop lo (RL.take hi h)
 rw [List.drop_take] at this
 rw [zbV, Nat.sub_mul]
 exact this
theorem RL.set : ∀ {xs : List α} {cs c : List Value} {i : Nat} {x : α}, RL S cs xs → Rp.rep S c x → i < xs.length → RL S (lay cs (i * Rp.sz α) c) (xs.set i x)
 | [], _, _, _, _, _, _, h => by simp at h
 | y :: xs, _, c', 0, x, ⟨c, d, e, h1, h2⟩, hx, _ => by
  refine ⟨c', d, ?_, hx, h2⟩
  have hl : c.length = c'.length := by rw [Rp.len h1, Rp.len hx]
  rw [e, Nat.zero_mul]
  apply List.ext_getElem?
  intro j
  rw [zfJ]
  by_cases hj : j < c'.length
  ·rw [if_pos (by simp; omega), List.getElem?_append_left hj]; simp
  ·rw [if_neg (by omega), List.getElem?_append_right (by omega), List.getElem?_append_right (by omega), hl]
 | y :: xs, _, c', i + 1, x, ⟨c, d, e, h1, h2⟩, hx, hi => by
  refine ⟨c, lay d (i * Rp.sz α) c', ?_, h1, RL.set h2 hx (by simpa using hi)⟩
  rw [e]
  apply List.ext_getElem?
  intro j
  have hs : (i + 1) * Rp.sz α = c.length + i * Rp.sz α := by rw [Nat.add_mul, Nat.one_mul, Rp.len h1]; omega
  rw [zfJ, hs]
  by_cases hj : j < c.length
  ·rw [if_neg (by omega), List.getElem?_append_left hj, List.getElem?_append_left hj]
  ·rw [List.getElem?_append_right (by omega), List.getElem?_append_right (by omega), zfJ, List.length_append]
   by_cases hc : i * Rp.sz α ≤ j - c.length ∧ j - c.length < i * Rp.sz α + c'.length ∧ j - c.length < d.length
   ·rw [if_pos (by omega), if_pos hc]; congr 1; omega
   ·rw [if_neg (by omega), if_neg hc]
theorem RL.replicate {c : List Value} {x : α} (h : Rp.rep S c x) : ∀ n, RL S (List.replicate n c).flatten (List.replicate n x)
 | 0 => rfl
 | n + 1 => ⟨c, _, by simp [List.replicate_succ], h, RL.replicate h n⟩
def RdS {α : Type} [Rp α] (S : Mem) (v : Value) (xs : List α) : Prop := ∃ cs, SlS S v xs.length (Rp.sz α) cs ∧ RL S cs xs
theorem RdS.mono {v : Value} {xs : List α} (h : RdS S v xs) (hl : Mem.le S T) : RdS T v xs := by
 obtain ⟨cs, h1, h2⟩ := h
 exact ⟨cs, h1.mono hl, h2.mono hl⟩
theorem RdS.nil : RdS S (.slice none 0 0) ([] : List α) := ⟨[], SlS.nil S _, rfl⟩
theorem RdS.sub {v : Value} {xs : List α} (h : RdS S v xs) {lo hi : Nat} (h1 : lo ≤ hi) (h2 : hi ≤ xs.length) : RdS S (subN v (Rp.sz α) lo hi) ((xs.take hi).drop lo) := by
 obtain ⟨cs, k1, k2⟩ := h
 refine ⟨_, ?_, k2.sub h1⟩
 have hl : ((xs.take hi).drop lo).length = hi - lo := by simp; omega
 rw [hl]
 exact k1.sub h1 h2
theorem RdS.subLH {v : Value} {xs r : List α} {lo hi : Int} {sz : Nat} (h : RdS S v xs) (e : sub3 xs lo hi = some r) (hs : Rp.sz α = sz := by rfl) : RdS S (subN v sz lo.toNat hi.toNat) r := by
 obtain ⟨_, _, h1, h2, h3⟩ := sub3_some e
 subst hs; rw [← h3]; exact h.sub h1 h2
theorem RdS.subL {v : Value} {xs r : List α} {lo : Int} {sz : Nat} (h : RdS S v xs) (e : Go.Proofs.YtmbcolbbekbccaaGreat.subL xs lo = some r) (hs : Rp.sz α = sz := by rfl) : RdS S (subN v sz lo.toNat xs.length) r := by
 obtain ⟨_, h1, h3⟩ := zjE e
 subst hs; have := h.sub h1 (Nat.le_refl _); rw [List.take_length, h3] at this; exact this
theorem RdS.subH {v : Value} {xs r : List α} {hi : Int} {sz : Nat} (h : RdS S v xs) (e : Go.Proofs.YtmbcolbbekbccaaGreat.subH xs hi = some r) (hs : Rp.sz α = sz := by rfl) : RdS S (subN v sz 0 hi.toNat) r := by
 obtain ⟨_, h1, h3⟩ := zeI e
 subst hs; have := h.sub (Nat.zero_le _) h1; rw [List.drop_zero, h3] at this; exact this
theorem setL_RL {cs c : List Value} {xs r : List α} {i : Int} {x : α} {sz : Nat} (h : RL S cs xs) (hx : Rp.rep S c x) (e : setL xs i x = some r) (hs : Rp.sz α = sz := by rfl) : RL S (lay cs (i.toNat * sz) c) r := by
 obtain ⟨_, h1, h2⟩ := setL_some e
 subst hs; rw [← h2]; exact h.set hx h1
theorem RdS.get {v : Value} {xs : List α} {i : Nat} {x : α} (h : RdS S v xs) (hx : xs[i]? = some x) : ∃ b o n c cs, v = sl b o n c ∧ i < n ∧ CellAt S b (o + i * Rp.sz α) cs ∧ Rp.rep S cs x := by
 obtain ⟨ds, k1, k2⟩ := h
 have hi := (List.getElem?_eq_some_iff.1 hx).1
 obtain ⟨b, o, c, e, hc⟩ := k1.at hi
 exact ⟨b, o, _, c, _, e, hi, hc, k2.get hx⟩
theorem RdS.oneCell {v : Value} {xs : List α} (h : RdS S v xs) : v.oneCell' = true := by
 obtain ⟨cs, k1, _⟩ := h
 rcases k1 with ⟨rfl, _⟩ | ⟨b, o, c, ds, T, fz, rfl, _⟩ <;> rfl
theorem RdS.cells {v : Value} {xs : List α} (h : RdS S v xs) : v.cells.toList = [v] := by
 obtain ⟨cs, k1, _⟩ := h
 rcases k1 with ⟨rfl, _⟩ | ⟨b, o, c, ds, T, fz, rfl, _⟩ <;> rfl
end
section
variable {α β : Type} [Rp α] [Rp β] {S : Mem}
instance (priority := low) instRpList : Rp (List α) where
 sz := 1
 rep S c xs := ∃ v, c = [v] ∧ RdS S v xs
 len := fun ⟨_, e, _⟩ => by rw [e]; rfl
 mono := fun ⟨v, e, h⟩ hl => ⟨v, e, h.mono hl⟩
 one := fun ⟨v, e, h⟩ u hu => by rw [e, List.mem_singleton] at hu; rw [hu]; exact h.oneCell
instance instRpStr : Rp (List UInt8) where
 sz := 1
 rep _ c x := c = [str x]
 len := fun e => by rw [e]; rfl
 mono := fun e _ => e
 one := fun e u hu => by rw [e, List.mem_singleton] at hu; rw [hu]; rfl
instance instRpInt : Rp Int where
 sz := 1
 rep _ c x := c = [.int .i64 x]
 len := fun e => by rw [e]; rfl
 mono := fun e _ => e
 one := fun e u hu => by rw [e, List.mem_singleton] at hu; rw [hu]; rfl
instance instRpU8 : Rp UInt8 where
 sz := 1
 rep _ c x := c = [.int .u8 (x.toNat : Int)]
 len := fun e => by rw [e]; rfl
 mono := fun e _ => e
 one := fun e u hu => by rw [e, List.mem_singleton] at hu; rw [hu]; rfl
instance instRpU32 : Rp UInt32 where
 sz := 1
 rep _ c x := c = [.int .u32 (x.toNat : Int)]
 len := fun e => by rw [e]; rfl
 mono := fun e _ => e
 one := fun e u hu => by rw [e, List.mem_singleton] at hu; rw [hu]; rfl
instance instRpU64 : Rp UInt64 where
 sz := 1
 rep _ c x := c = [.int .u64 (x.toNat : Int)]
 len := fun e => by rw [e]; rfl
 mono := fun e _ => e
 one := fun e u hu => by rw [e, List.mem_singleton] at hu; rw [hu]; rfl
instance instRpBool : Rp Bool where
 sz := 1
 rep _ c x := c = [.bool x]
 len := fun e => by rw [e]; rfl
 mono := fun e _ => e
 one := fun e u hu => by rw [e, List.mem_singleton] at hu; rw [hu]; rfl
instance instRpUnit : Rp Unit where
 sz := 0
 rep _ c _ := c = []
 len := fun e => by rw [e]; rfl
 mono := fun e _ => e
 one := fun e u hu => by rw [e] at hu; cases hu
instance instRpProd : Rp (α × β) where
 sz := Rp.sz α + Rp.sz β
 rep S c x := ∃ c1 c2, c = c1 ++ c2 ∧ Rp.rep S c1 x.1 ∧ Rp.rep S c2 x.2
 len := fun ⟨c1, c2, e, h1, h2⟩ => by rw [e, List.length_append, Rp.len h1, Rp.len h2]
 mono := fun ⟨c1, c2, e, h1, h2⟩ hl => ⟨c1, c2, e, Rp.mono h1 hl, Rp.mono h2 hl⟩
 one := fun ⟨c1, c2, e, h1, h2⟩ u hu => by
  rw [e] at hu
  rcases List.mem_append.1 hu with h | h
  ·exact Rp.one h1 u h
  ·exact Rp.one h2 u h
theorem rpU8 {x : UInt8} : Rp.rep S [.int .u8 (x.toNat : Int)] x := rfl
theorem rpU8c {x : UInt8} {c : List Value} (h : c = [.int .u8 (x.toNat : Int)]) : Rp.rep S c x := h
theorem zkE {x : UInt32} {c : List Value} (h : c = [.int .u32 (x.toNat : Int)]) : Rp.rep S c x := h
theorem rpU64c {x : UInt64} {c : List Value} (h : c = [.int .u64 (x.toNat : Int)]) : Rp.rep S c x := h
theorem zkO {x : UInt32} : Rp.rep S [.int .u32 (x.toNat : Int)] x := rfl
theorem rpU64 {x : UInt64} : Rp.rep S [.int .u64 (x.toNat : Int)] x := rfl
theorem rpB {x : Bool} : Rp.rep S [.bool x] x := rfl
theorem rpT {x : List UInt8} : Rp.rep S [str x] x := rfl
theorem rpP {c1 c2 : List Value} {x : α} {y : β} (h1 : Rp.rep S c1 x) (h2 : Rp.rep S c2 y) : Rp.rep S (c1 ++ c2) (x, y) := ⟨c1, c2, rfl, h1, h2⟩
theorem rpL {v : Value} {xs : List α} (h : RdS S v xs) : Rp.rep (α := List α) (self := instRpList) S [v] xs := ⟨v, rfl, h⟩
theorem elU8 {c : List Value} {x : UInt8} (h : Rp.rep S c x) : c = [.int .u8 (x.toNat : Int)] := h
theorem zeG {c : List Value} {x : UInt32} (h : Rp.rep S c x) : c = [.int .u32 (x.toNat : Int)] := h
theorem elU64 {c : List Value} {x : UInt64} (h : Rp.rep S c x) : c = [.int .u64 (x.toNat : Int)] := h
theorem elB {c : List Value} {x : Bool} (h : Rp.rep S c x) : c = [.bool x] := h
theorem elT {c : List Value} {x : List UInt8} (h : Rp.rep S c x) : c = [str x] := h
theorem elP {c : List Value} {x : α × β} (h : Rp.rep S c x) : ∃ c1 c2, c = c1 ++ c2 ∧ Rp.rep S c1 x.1 ∧ Rp.rep S c2 x.2 := h
theorem elL {c : List Value} {xs : List α} (h : Rp.rep (α := List α) (self := instRpList) S c xs) : ∃ v, c = [v] ∧ RdS S v xs := h
theorem RL.is_u8s : ∀ {xs : List UInt8} {cs : List Value}, RL S cs xs → cs = u8s xs
 | [], _, h => h
 | x :: xs, _, ⟨c, d, e, h1, h2⟩ => by rw [e, elU8 h1, RL.is_u8s h2]; rfl
theorem RL.of_u8s : ∀ (xs : List UInt8), RL S (u8s xs) xs
 | [] => rfl
 | x :: xs => ⟨_, _, rfl, rpU8, RL.of_u8s xs⟩
end
end
section
variable {P : Program} {ops : Array Oper} {Q : Exit → Act → World → Prop} {rest : List Oper} {n : Nat} {m : FM} {w : World} {d : Nat} {ty : TypeId} {pos : String} {aft : Array Edge} {x : Operand} {nh : Nat} {Φ : zgS} {W : World} {vs : Nat → Gv} {Fin : Act → Prop} {i : Nat}
theorem mvT {l : List UInt8} (hx : ev n m x = str l) (hr : wpList P ops Q rest (fr n ((d, str l) :: m)) w) : wpList P ops Q (⟨some d, .move x, ty, pos, aft, none⟩ :: rest) (fr n m) w := p_mv hx hr
theorem asT {l : List UInt8} (hx : ev n m x = str l) (hr : wpList P ops Q rest (fr n ((d, str l) :: m)) w) : wpList P ops Q (⟨some d, .assign x, ty, pos, aft, none⟩ :: rest) (fr n m) w := p_as hx hr
theorem hsn {B : Bas} {S : Mem} {w : World} {L L' : List Res} (H : HS B S w L) (e : L = L' := by ((try dsimp only [stR, rmR, selR, lkR]) <;> exact rfl)) : HS B S w L' := e ▸ H
theorem zbR {α : Type} {P : Program} {Q : Exit → Act → World → Prop} {n : Nat} {m : FM} {w : World} {c : Operand} {x y : Code} {t : Bool} {a b r : α} (h : (bif t then a else b) = r) (hc : ev n m c = .bool t) (ht : a = r → t = true → x.wp P Q (fr n m) w) (hf : b = r → t = false → y.wp P Q (fr n m) w) : (Code.cond c x y).wp P Q (fr n m) w :=
 zcG hc (fun e => ht (zfK h e) e) fun e => hf (zfR h e) e
theorem bn {α β : Type} {o : Option α} {f : α → Option β} {r : β} {G : Prop} (h : o.bind f = some r) (k : ∀ x, o = some x → f x = some r → G) : G := by obtain ⟨x, h1, h2⟩ := bnd h; exact k x h1 h2
theorem HS.xe {B : Bas} {S : Mem} {w : World} {L : List Res} {v : Value} {Ψ : Ending → World → Prop} (H : HS B S w L) (k : ∀ w', HS B S w' L → Ψ (.returned v) w') : ∀ e w', (e = .returned v ∧ Ext w w') → Ψ e w' := by rintro _ w' ⟨rfl, hx⟩; exact k w' (H.ext hx)
theorem HS.ye {α : Type} [Rp α] {B : Bas} {S : Mem} {w : World} {L : List Res} {xs : List α} {Ψ : Ending → World → Prop} (H : HS B S w L) (k : ∀ w' v S', Mem.le S S' → HS B S' w' L → RdS S' v xs → Ψ (.returned v) w') : ∀ e w', (Ext w w' ∧ ∃ v, e = .returned v ∧ RdS (Go.Proofs.YtmbcolbbekbccaaGreat.gr S w w') v xs) → Ψ e w' := by
 rintro _ w' ⟨hx, v, rfl, g⟩; exact k w' v _ (gr_le H.sub) (H.call hx) g
theorem HS.yc {α : Type} [Rp α] {B : Bas} {S : Mem} {w : World} {L : List Res} {x : α} {F : List Value → Value} {Ψ : Ending → World → Prop} (H : HS B S w L) (k : ∀ w' c S', Mem.le S S' → HS B S' w' L → Rp.rep S' c x → Ψ (.returned (F c)) w') : ∀ e w', (Ext w w' ∧ ∃ c, e = .returned (F c) ∧ Rp.rep (Go.Proofs.YtmbcolbbekbccaaGreat.gr S w w') c x) → Ψ e w' := by
 rintro _ w' ⟨hx, v, rfl, g⟩; exact k w' v _ (gr_le H.sub) (H.call hx) g
theorem HS.yv {α : Type} [Rp α] {B : Bas} {S : Mem} {w : World} {L : List Res} {x : α} {Ψ : Ending → World → Prop} (H : HS B S w L) (k : ∀ w' v S', Mem.le S S' → HS B S' w' L → Rp.rep S' [v] x → Ψ (.returned v) w') : ∀ e w', (Ext w w' ∧ ∃ v, e = .returned v ∧ Rp.rep (Go.Proofs.YtmbcolbbekbccaaGreat.gr S w w') [v] x) → Ψ e w' := by
 rintro _ w' ⟨hx, v, rfl, g⟩; exact k w' v _ (gr_le H.sub) (H.call hx) g
theorem RL.u32s {S : Mem} : ∀ (xs : List UInt32), RL S (xs.map fun x => Value.int .u32 (x.toNat : Int)) xs
 | [] => RL.nil
 | x :: xs => ⟨_, _, rfl, zkO, RL.u32s xs⟩
end
end Go.Proofs.YtmbcolbbekbccaaGreat
