/- The product of two numbers modulo a prime: plain lemmas. -/
import Derived.Test.YtmbcolbbekbccaaWd
namespace Go.Proofs.Ytmbcolbbekbccaa
open Go Go.RowKit

theorem bits_or_nat {a b : Int} (ha : U a) (hb : U b) : bits .or .u64 a b = ((a.toNat ||| b.toNat : Nat) : Int) := by
  obtain ⟨A, rfl⟩ := Int.eq_ofNat_of_zero_le ha.1
  obtain ⟨B, rfl⟩ := Int.eq_ofNat_of_zero_le hb.1
  have hA : A < 2 ^ 64 := by have := ha.2; omega
  have hB : B < 2 ^ 64 := by have := hb.2; omega
  have h : (BitVec.ofInt 64 (A : Int) ||| BitVec.ofInt 64 (B : Int)).toNat = A ||| B := by
    simp [BitVec.toNat_or, BitVec.toNat_ofInt]
    rw [Nat.mod_eq_of_lt (by omega), Nat.mod_eq_of_lt (by omega)]
  have h2 := Nat.or_lt_two_pow hA hB
  simp only [bits, Int.toNat_natCast]
  show IntKind.u64.wrap ((BitVec.ofInt 64 (A : Int) ||| BitVec.ofInt 64 (B : Int)).toNat : Int) = _
  rw [h]
  exact wru rfl (by omega) (by show _ < (2 : Int) ^ 64; omega)
theorem U_or {a b : Int} (ha : U a) (hb : U b) : U (bits .or .u64 a b) := by
  rw [bits_or_nat ha hb]
  have := Nat.or_lt_two_pow (n := 64) (show a.toNat < 2 ^ 64 by have := ha.2; have := ha.1; omega) (show b.toNat < 2 ^ 64 by have := hb.2; have := hb.1; omega)
  unfold U; omega
theorem or_zero {a b : Int} (ha : U a) (hb : U b) : bits .or .u64 a b = 0 ↔ a = 0 ∧ b = 0 := by
  rw [bits_or_nat ha hb]
  have h0 : (a.toNat ||| b.toNat) = 0 ↔ a.toNat = 0 ∧ b.toNat = 0 := Nat.or_eq_zero_iff
  have := ha.1; have := hb.1
  omega
theorem or4_ne (X : Nat) (h : X < two256 * two256) : (bits .or .u64 (bits .or .u64 (bits .or .u64 (lm X 4) (lm X 5)) (lm X 6)) (lm X 7) != 0) = decide (two256 ≤ X) := by
  have h4 := U_lm X 4; have h5 := U_lm X 5; have h6 := U_lm X 6; have h7 := U_lm X 7
  have e : bits .or .u64 (bits .or .u64 (bits .or .u64 (lm X 4) (lm X 5)) (lm X 6)) (lm X 7) = 0 ↔ lm X 4 = 0 ∧ lm X 5 = 0 ∧ lm X 6 = 0 ∧ lm X 7 = 0 := by
    rw [or_zero (U_or (U_or h4 h5) h6) h7, or_zero (U_or h4 h5) h6, or_zero h4 h5]
    simp only [and_assoc]
  have e2 : (lm X 4 = 0 ∧ lm X 5 = 0 ∧ lm X 6 = 0 ∧ lm X 7 = 0) ↔ X < two256 := by
    unfold lm two256 at *
    simp only [pw4, pw5, pw6, pw7, pw64]
    omega
  rw [Bool.eq_iff_iff]
  simp only [bne_iff_ne, ne_eq, decide_eq_true_eq]
  rw [e, e2]; omega
theorem lm_hi (X i : Nat) : lm X (4 + i) = lm (X / two256) i := by
  unfold lm
  rw [show 64 * (4 + i) = 256 + 64 * i by omega, Nat.pow_add, ← Nat.div_div_eq_div_mul]
  rfl
theorem numL_hi (X : Nat) : ([.int .u64 (lm X 4), .int .u64 (lm X 5), .int .u64 (lm X 6), .int .u64 (lm X 7)] : List Value) = numL (X / two256) := by
  unfold numL
  rw [← lm_hi, ← lm_hi, ← lm_hi, ← lm_hi]
theorem numL_lo (X : Nat) : ([.int .u64 (lm X 0), .int .u64 (lm X 1), .int .u64 (lm X 2), .int .u64 (lm X 3)] : List Value) = numL X := rfl

theorem outL_of8 {d0 d1 d2 d3 d4 d5 d6 d7 : Int} (h0 : U d0) (h1 : U d1) (h2 : U d2) (h3 : U d3) (h4 : U d4) (h5 : U d5) (h6 : U d6) (h7 : U d7) {X : Nat}
    (h : d0 + d1 * wv 1 + d2 * wv 2 + d3 * wv 3 + d4 * wv 4 + d5 * wv 5 + d6 * wv 6 + d7 * wv 7 = (X : Int)) :
    ([.int .u64 d0, .int .u64 d1, .int .u64 d2, .int .u64 d3, .int .u64 d4, .int .u64 d5, .int .u64 d6, .int .u64 d7] : List Value) = outL (lm X) := by
  let f : Nat → Int := fun s => if s = 0 then d0 else if s = 1 then d1 else if s = 2 then d2 else if s = 3 then d3 else if s = 4 then d4 else if s = 5 then d5 else if s = 6 then d6 else d7
  have hf : ∀ s, U (f s) := fun s => by
    show U (if s = 0 then d0 else if s = 1 then d1 else if s = 2 then d2 else if s = 3 then d3 else if s = 4 then d4 else if s = 5 then d5 else if s = 6 then d6 else d7)
    repeat' (split; assumption)
    assumption
  exact outL_of (f := f) hf h
def add8L (y0 y1 y2 y3 y4 y5 y6 y7 x0 x1 x2 x3 : Int) : List Value :=
  [.int .u64 (ad y0 x0 0), .int .u64 (ad y1 x1 (ac y0 x0 0)), .int .u64 (ad y2 x2 (ac y1 x1 (ac y0 x0 0))), .int .u64 (ad y3 x3 (ac y2 x2 (ac y1 x1 (ac y0 x0 0)))),
   .int .u64 (ad y4 0 (ac y3 x3 (ac y2 x2 (ac y1 x1 (ac y0 x0 0))))), .int .u64 (ad y5 0 (ac y4 0 (ac y3 x3 (ac y2 x2 (ac y1 x1 (ac y0 x0 0)))))),
   .int .u64 (ad y6 0 (ac y5 0 (ac y4 0 (ac y3 x3 (ac y2 x2 (ac y1 x1 (ac y0 x0 0))))))), .int .u64 (ad y7 0 (ac y6 0 (ac y5 0 (ac y4 0 (ac y3 x3 (ac y2 x2 (ac y1 x1 (ac y0 x0 0))))))))]
theorem add8_fin (Y X : Nat) (hY : Y < two256 * two256) (h : Y + X % two256 < two256 * two256) :
    add8L (lm Y 0) (lm Y 1) (lm Y 2) (lm Y 3) (lm Y 4) (lm Y 5) (lm Y 6) (lm Y 7) (lm X 0) (lm X 1) (lm X 2) (lm X 3) = outL (lm (Y + X % two256)) := by
  have vY := val8_lm hY
  have vX := lm_val X
  unfold val8 at vY
  have y0 := U_lm Y 0; have y1 := U_lm Y 1; have y2 := U_lm Y 2; have y3 := U_lm Y 3; have y4 := U_lm Y 4; have y5 := U_lm Y 5; have y6 := U_lm Y 6; have y7 := U_lm Y 7
  have x0 := U_lm X 0; have x1 := U_lm X 1; have x2 := U_lm X 2; have x3 := U_lm X 3
  unfold add8L
  generalize lm Y 0 = a0 at *; generalize lm Y 1 = a1 at *; generalize lm Y 2 = a2 at *; generalize lm Y 3 = a3 at *
  generalize lm Y 4 = a4 at *; generalize lm Y 5 = a5 at *; generalize lm Y 6 = a6 at *; generalize lm Y 7 = a7 at *
  generalize lm X 0 = b0 at *; generalize lm X 1 = b1 at *; generalize lm X 2 = b2 at *; generalize lm X 3 = b3 at *
  have c0 := C_ac a0 b0 0; have e0 := ad_eq y0 x0 C1_0; have u0 := U_ad a0 b0 0
  generalize ac a0 b0 0 = s0 at *; generalize ad a0 b0 0 = d0 at *
  have c1 := C_ac a1 b1 s0; have e1 := ad_eq y1 x1 c0; have u1 := U_ad a1 b1 s0
  generalize ac a1 b1 s0 = s1 at *; generalize ad a1 b1 s0 = d1 at *
  have c2 := C_ac a2 b2 s1; have e2 := ad_eq y2 x2 c1; have u2 := U_ad a2 b2 s1
  generalize ac a2 b2 s1 = s2 at *; generalize ad a2 b2 s1 = d2 at *
  have c3 := C_ac a3 b3 s2; have e3 := ad_eq y3 x3 c2; have u3 := U_ad a3 b3 s2
  generalize ac a3 b3 s2 = s3 at *; generalize ad a3 b3 s2 = d3 at *
  have c4 := C_ac a4 0 s3; have e4 := ad_eq y4 U_0 c3; have u4 := U_ad a4 0 s3
  generalize ac a4 0 s3 = s4 at *; generalize ad a4 0 s3 = d4 at *
  have c5 := C_ac a5 0 s4; have e5 := ad_eq y5 U_0 c4; have u5 := U_ad a5 0 s4
  generalize ac a5 0 s4 = s5 at *; generalize ad a5 0 s4 = d5 at *
  have c6 := C_ac a6 0 s5; have e6 := ad_eq y6 U_0 c5; have u6 := U_ad a6 0 s5
  generalize ac a6 0 s5 = s6 at *; generalize ad a6 0 s5 = d6 at *
  have c7 := C_ac a7 0 s6; have e7 := ad_eq y7 U_0 c6; have u7 := U_ad a7 0 s6
  generalize ac a7 0 s6 = s7 at *; generalize ad a7 0 s6 = d7 at *
  refine outL_of8 u0 u1 u2 u3 u4 u5 u6 u7 ?_
  have w1 : wv 1 = 18446744073709551616 := rfl
  have w2 : wv 2 = 340282366920938463463374607431768211456 := rfl
  have w3 : wv 3 = 6277101735386680763835789423207666416102355444464034512896 := rfl
  have w4 : wv 4 = 115792089237316195423570985008687907853269984665640564039457584007913129639936 := rfl
  have w5 : wv 5 = 2135987035920910082395021706169552114602704522356652769947041607822219725780640550022962086936576 := rfl
  have w6 : wv 6 = 39402006196394479212279040100143613805079739270465446667948293404245721771497210611414266254884915640806627990306816 := rfl
  have w7 : wv 7 = 726838724295606890549323807888004534353641360687318060281490199180639288113397923326191050713763565560762521606266177933534601628614656 := rfl
  rw [w1, w2, w3, w4, w5, w6, w7] at vY ⊢
  unfold two256 C1 U at *
  clear w1 w2 w3 w4 w5 w6 w7
  have hX : ((X % 115792089237316195423570985008687907853269984665640564039457584007913129639936 : Nat) : Int) = b0 + b1 * 18446744073709551616 + b2 * 340282366920938463463374607431768211456 + b3 * 6277101735386680763835789423207666416102355444464034512896 := vX.symm
  generalize X % 115792089237316195423570985008687907853269984665640564039457584007913129639936 = R at *
  clear x0 x1 x2 x3 y0 y1 y2 y3 y4 y5 y6 y7 vX c0 c1 c2 c3 c4 c5 c6
  omega
theorem fold_lt {X p : Nat} (hp : Mod p) (h : two256 ≤ X) : X / two256 * (two256 - p) + X % two256 < X := by
  have h1 := Nat.div_add_mod X two256
  have h2 : 1 ≤ X / two256 := (Nat.le_div_iff_mul_le two256_pos).2 (by omega)
  have h3 := hp.lt; have h4 := hp.pos
  have h5 : X / two256 * (two256 - p) + X / two256 * p = X / two256 * two256 := by rw [← Nat.mul_add]; congr 1; omega
  have h6 : 1 ≤ X / two256 * p := Nat.mul_pos h2 h4
  rw [Nat.mul_comm] at h1
  omega
theorem fold_mod {X p : Nat} (hp : Mod p) : (X / two256 * (two256 - p) + X % two256) % p = X % p := by
  have h1 := Nat.div_add_mod X two256
  have h3 := hp.lt
  have h5 : X / two256 * (two256 - p) + X / two256 * p = X / two256 * two256 := by rw [← Nat.mul_add]; congr 1; omega
  rw [Nat.mul_comm] at h1
  have h7 : X = (X / two256 * (two256 - p) + X % two256) + X / two256 * p := by omega
  calc (X / two256 * (two256 - p) + X % two256) % p = ((X / two256 * (two256 - p) + X % two256) + X / two256 * p) % p := by rw [Nat.add_mul_mod_self_right]
    _ = X % p := by rw [← h7]
theorem HP.recast {w0 w : World} {L : List Ent} {k b : Nat} {cs cs' : List Value} {T : TypeId} (h : HP w0 w L) (hk : lk L k = some (b, cs, T)) (e : cs = cs') : HP w0 w (st L k (b, cs', T)) := by
  subst e
  exact h.set hk rfl rfl rfl rfl (h.blk k b cs T hk).1 (fun _ _ => rfl)
end Go.Proofs.Ytmbcolbbekbccaa
