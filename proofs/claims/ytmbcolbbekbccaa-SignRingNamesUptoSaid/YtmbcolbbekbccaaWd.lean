/- The product of two numbers of four words, in eight: plain lemmas, and what math/bits.Mul64 answers. -/
import Derived.Test.YtmbcolbbekbccaaEqn
import Derived.Test.YtmbcolbbekbccaaShelf
namespace Go.Proofs.Ytmbcolbbekbccaa
open Go Go.RowKit

def mh (x y : Int) : Int := x * y / 18446744073709551616
def ml (x y : Int) : Int := x * y % 18446744073709551616
theorem mul_le {x y : Int} (hx : U x) (hy : U y) : 0 ≤ x * y ∧ x * y ≤ 340282366920938463426481119284349108225 := by
  refine ⟨Int.mul_nonneg hx.1 hy.1, ?_⟩
  have h1 : x ≤ 18446744073709551615 := by have := hx.2; omega
  have h2 : y ≤ 18446744073709551615 := by have := hy.2; omega
  have := Int.mul_le_mul h1 h2 hy.1 (by decide)
  simpa using this
theorem U_mh {x y : Int} (hx : U x) (hy : U y) : 0 ≤ mh x y ∧ mh x y ≤ 18446744073709551614 := by
  have := mul_le hx hy
  unfold mh; generalize x * y = p at *; omega
theorem U_ml (x y : Int) : U (ml x y) := by unfold U ml; omega
theorem mul_split (x y : Int) : mh x y * 18446744073709551616 + ml x y = x * y := by unfold mh ml; omega
theorem mul64_c {x y : Int} (hx : U x) (hy : U y) (w : World) :
    Calls Try.prog 73 #[.int .u64 x, .int .u64 y] w fun e w' => e = .returned (.tuple ([.int .u64 (mh x y), .int .u64 (ml x y)] : List Value).toArray) ∧ Ext w w' := by
  obtain ⟨X, rfl⟩ := Int.eq_ofNat_of_zero_le hx.1
  obtain ⟨Y, rfl⟩ := Int.eq_ofNat_of_zero_le hy.1
  refine (Try.bits_Mul64 X Y (by have := hx.2; omega) (by have := hy.2; omega) w).mono ?_
  rintro e w' ⟨he, rfl⟩
  refine ⟨?_, Ext.refl _⟩
  rw [he]
  rfl

/-- The carry of one step, and that nothing is lost. -/
theorem wide_w1 {x y c : Int} (hx : U x) (hy : U y) (_hc : U c) : IntKind.u64.wrap (mh x y + ac (ml x y) c 0) = mh x y + ac (ml x y) c 0 := by
  have h1 := U_mh hx hy
  have h2 := C_ac (ml x y) c 0
  refine wru rfl ?_ ?_
  · unfold C1 at h2; omega
  · show _ < (2 : Int) ^ 64
    unfold C1 at h2; omega
theorem wide_step {x y c o : Int} (hx : U x) (hy : U y) (hc : U c) (ho : U o) :
    IntKind.u64.wrap (mh x y + ac (ml x y) c 0 + ac o (ad (ml x y) c 0) 0) = mh x y + ac (ml x y) c 0 + ac o (ad (ml x y) c 0) 0 ∧
    U (mh x y + ac (ml x y) c 0 + ac o (ad (ml x y) c 0) 0) ∧
    (mh x y + ac (ml x y) c 0 + ac o (ad (ml x y) c 0) 0) * 18446744073709551616 + ad o (ad (ml x y) c 0) 0 = x * y + c + o := by
  have h1 := mul_le hx hy
  have h2 := mul_split x y
  have h3 := U_ml x y
  have h4 := U_mh hx hy
  have e1 := ad_eq h3 hc C1_0
  have u1 := U_ad (ml x y) c 0
  have c1 := C_ac (ml x y) c 0
  have e2 := ad_eq ho u1 C1_0
  have u2 := U_ad o (ad (ml x y) c 0) 0
  have c2 := C_ac o (ad (ml x y) c 0) 0
  generalize ad o (ad (ml x y) c 0) 0 = o' at *
  generalize ac o (ad (ml x y) c 0) 0 = k2 at *
  generalize ad (ml x y) c 0 = l1 at *
  generalize ac (ml x y) c 0 = k1 at *
  generalize mh x y = hi at *
  generalize ml x y = lo at *
  generalize x * y = p at *
  have hb : U (hi + k1 + k2) := by unfold U C1 at *; omega
  refine ⟨wru rfl hb.1 hb.2, hb, by omega⟩

/-! ### Eight words -/
theorem pw64 : (2 : Nat) ^ 64 = 18446744073709551616 := by kernel_rfl
theorem pw0 : (2 : Nat) ^ (64 * 0) = 1 := by kernel_rfl
theorem pw1 : (2 : Nat) ^ (64 * 1) = 18446744073709551616 := by kernel_rfl
theorem pw2 : (2 : Nat) ^ (64 * 2) = 340282366920938463463374607431768211456 := by kernel_rfl
theorem pw3 : (2 : Nat) ^ (64 * 3) = 6277101735386680763835789423207666416102355444464034512896 := by kernel_rfl
theorem pw4 : (2 : Nat) ^ (64 * 4) = 115792089237316195423570985008687907853269984665640564039457584007913129639936 := by kernel_rfl
theorem pw5 : (2 : Nat) ^ (64 * 5) = 2135987035920910082395021706169552114602704522356652769947041607822219725780640550022962086936576 := by kernel_rfl
theorem pw6 : (2 : Nat) ^ (64 * 6) = 39402006196394479212279040100143613805079739270465446667948293404245721771497210611414266254884915640806627990306816 := by kernel_rfl
theorem pw7 : (2 : Nat) ^ (64 * 7) = 726838724295606890549323807888004534353641360687318060281490199180639288113397923326191050713763565560762521606266177933534601628614656 := by kernel_rfl
def outL (f : Nat → Int) : List Value := [.int .u64 (f 0), .int .u64 (f 1), .int .u64 (f 2), .int .u64 (f 3), .int .u64 (f 4), .int .u64 (f 5), .int .u64 (f 6), .int .u64 (f 7)]
def wv (t : Nat) : Int := 18446744073709551616 ^ t
theorem wv_succ (t : Nat) : wv (t + 1) = wv t * 18446744073709551616 := by unfold wv; rw [Int.pow_succ]
theorem wv_0 : wv 0 = 1 := rfl
def val8 (f : Nat → Int) : Int := f 0 + f 1 * wv 1 + f 2 * wv 2 + f 3 * wv 3 + f 4 * wv 4 + f 5 * wv 5 + f 6 * wv 6 + f 7 * wv 7
def upd (f : Nat → Int) (t : Nat) (v : Int) : Nat → Int := fun s => if s = t then v else f s
theorem upd_same (f : Nat → Int) (t : Nat) (v : Int) : upd f t v t = v := by simp [upd]
theorem upd_other {f : Nat → Int} {t s : Nat} {v : Int} (h : s ≠ t) : upd f t v s = f s := by simp [upd, h]
theorem U_upd {f : Nat → Int} {t : Nat} {v : Int} (hf : ∀ s, U (f s)) (hv : U v) : ∀ s, U (upd f t v s) := fun s => by unfold upd; split; exact hv; exact hf s
theorem cases8 {t : Nat} (h : t < 8) : t = 0 ∨ t = 1 ∨ t = 2 ∨ t = 3 ∨ t = 4 ∨ t = 5 ∨ t = 6 ∨ t = 7 := by omega
theorem val8_upd (f : Nat → Int) (t : Nat) (v : Int) (h : t < 8) : val8 (upd f t v) = val8 f + (v - f t) * wv t := by
  rcases cases8 h with rfl | rfl | rfl | rfl | rfl | rfl | rfl | rfl <;> simp only [val8, upd, Nat.reduceEqDiff, if_true, if_false, wv_0] <;> grind
theorem out_piece (f : Nat → Int) (t : Nat) (h : t < 8) : piece (outL f) t 1 = [.int .u64 (f t)] := by
  rcases cases8 h with rfl | rfl | rfl | rfl | rfl | rfl | rfl | rfl <;> rfl
theorem out_lay (f : Nat → Int) (t : Nat) (v : Int) (h : t < 8) : lay (outL f) t [.int .u64 v] = outL (upd f t v) := by
  rcases cases8 h with rfl | rfl | rfl | rfl | rfl | rfl | rfl | rfl <;> rfl
theorem numL_piece (A t : Nat) (h : t < 4) : piece (numL A) t 1 = [.int .u64 (lm A t)] := by
  rcases (by omega : t = 0 ∨ t = 1 ∨ t = 2 ∨ t = 3) with rfl | rfl | rfl | rfl <;> rfl
/-- The lower words of a number. -/
def low (A t : Nat) : Int := ((A % (18446744073709551616 ^ t) : Nat) : Int)
theorem low_succ (A t : Nat) : low A (t + 1) = low A t + lm A t * wv t := by
  unfold low lm wv
  have e : (2 : Nat) ^ (64 * t) = 18446744073709551616 ^ t := by rw [Nat.pow_mul]
  rw [e, show (2 : Nat) ^ 64 = 18446744073709551616 from rfl, Nat.pow_succ, Nat.mod_mul]
  rw [Int.natCast_add, Int.natCast_mul, Int.natCast_pow]
  rw [Int.mul_comm]; rfl
theorem low_0 (A : Nat) : low A 0 = 0 := by unfold low; simp [Nat.mod_one]
theorem low_4 {A : Nat} (h : A < two256) : low A 4 = (A : Int) := by
  unfold low; rw [show (18446744073709551616 : Nat) ^ 4 = two256 from rfl, Nat.mod_eq_of_lt h]
theorem wv_add (k j : Nat) : wv (k + j) = wv k * wv j := by unfold wv; rw [Int.pow_add]
theorem wide_inv {f f' : Nat → Int} {x c c' o' : Int} {k j B : Nat} (h : val8 f' + c * wv (k + j) = val8 f + x * low B j * wv k) (hs : c' * 18446744073709551616 + o' = x * lm B j + c + f' (k + j)) (hkj : k + j < 8) :
    val8 (upd f' (k + j) o') + c' * wv (k + (j + 1)) = val8 f + x * low B (j + 1) * wv k := by
  rw [val8_upd _ _ _ hkj, ← Nat.add_assoc, wv_succ, low_succ]
  have e := wv_add k j
  generalize wv (k + j) = p at *
  generalize wv k = q at *
  generalize wv j = r at *
  generalize val8 f' = v' at *
  generalize val8 f = v at *
  generalize f' (k + j) = o at *
  generalize lm B j = y at *
  generalize low B j = l at *
  grind
theorem wide_out {f f' : Nat → Int} {c : Int} {k A B : Nat} (h : val8 f' + c * wv (k + 4) = val8 f + lm A k * low B 4 * wv k) (h0 : val8 f = low A k * (B : Int)) (hB : B < two256) (hz : f' (k + 4) = 0) (hk : k < 4) :
    val8 (upd f' (k + 4) c) = low A (k + 1) * (B : Int) := by
  rw [val8_upd _ _ _ (by omega), low_succ, hz]
  rw [low_4 hB] at h
  generalize wv (k + 4) = p at *
  generalize wv k = q at *
  generalize val8 f' = v' at *
  generalize val8 f = v at *
  generalize low A k = l at *
  generalize lm A k = x at *
  grind
theorem outL_of {f : Nat → Int} (hf : ∀ s, U (f s)) {X : Nat} (h : val8 f = (X : Int)) : outL f = outL (lm X) := by
  have e1 : wv 1 = 18446744073709551616 := rfl
  have e2 : wv 2 = 340282366920938463463374607431768211456 := rfl
  have e3 : wv 3 = 6277101735386680763835789423207666416102355444464034512896 := rfl
  have e4 : wv 4 = 115792089237316195423570985008687907853269984665640564039457584007913129639936 := rfl
  have e5 : wv 5 = 2135987035920910082395021706169552114602704522356652769947041607822219725780640550022962086936576 := rfl
  have e6 : wv 6 = 39402006196394479212279040100143613805079739270465446667948293404245721771497210611414266254884915640806627990306816 := rfl
  have e7 : wv 7 = 726838724295606890549323807888004534353641360687318060281490199180639288113397923326191050713763565560762521606266177933534601628614656 := rfl
  unfold val8 at h
  rw [e1, e2, e3, e4, e5, e6, e7] at h
  have h0 := hf 0; have h1 := hf 1; have h2 := hf 2; have h3 := hf 3; have h4 := hf 4; have h5 := hf 5; have h6 := hf 6; have h7 := hf 7
  unfold outL lm U at *
  simp only [pw0, pw1, pw2, pw3, pw4, pw5, pw6, pw7, pw64, Nat.div_one]
  generalize f 0 = a0 at *; generalize f 1 = a1 at *; generalize f 2 = a2 at *; generalize f 3 = a3 at *
  generalize f 4 = a4 at *; generalize f 5 = a5 at *; generalize f 6 = a6 at *; generalize f 7 = a7 at *
  clear e1 e2 e3 e4 e5 e6 e7
  simp only [List.cons.injEq, Value.int.injEq, true_and, and_true]
  refine ⟨?_, ?_, ?_, ?_, ?_, ?_, ?_, ?_⟩ <;> omega
theorem val8_lm {X : Nat} (h : X < two256 * two256) : val8 (lm X) = (X : Int) := by
  have e1 : wv 1 = 18446744073709551616 := rfl
  have e2 : wv 2 = 340282366920938463463374607431768211456 := rfl
  have e3 : wv 3 = 6277101735386680763835789423207666416102355444464034512896 := rfl
  have e4 : wv 4 = 115792089237316195423570985008687907853269984665640564039457584007913129639936 := rfl
  have e5 : wv 5 = 2135987035920910082395021706169552114602704522356652769947041607822219725780640550022962086936576 := rfl
  have e6 : wv 6 = 39402006196394479212279040100143613805079739270465446667948293404245721771497210611414266254884915640806627990306816 := rfl
  have e7 : wv 7 = 726838724295606890549323807888004534353641360687318060281490199180639288113397923326191050713763565560762521606266177933534601628614656 := rfl
  unfold val8 lm two256 at *
  rw [e1, e2, e3, e4, e5, e6, e7]
  simp only [pw0, pw1, pw2, pw3, pw4, pw5, pw6, pw7, pw64, Nat.div_one]
  clear e1 e2 e3 e4 e5 e6 e7
  omega
end Go.Proofs.Ytmbcolbbekbccaa
