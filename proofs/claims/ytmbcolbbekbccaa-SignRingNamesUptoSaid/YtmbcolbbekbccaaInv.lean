/- The inverse by halving, and reading bytes as digits: plain lemmas. Conditions: as each theorem says. -/
import Derived.Test.YtmbcolbbekbccaaByt
import Derived.Test.YtmbcolbbekbccaaNum
namespace Go.Proofs.Ytmbcolbbekbccaa
open Go Go.RowKit

theorem cancel2 {p X Y : Nat} (hp : p % 2 = 1) (h : 2 * X % p = 2 * Y % p) : X % p = Y % p := by
  have e : ∀ Z, Z % p = (p + 1) / 2 * (2 * Z % p) % p := fun Z => by
    rw [Nat.mul_mod, Nat.mod_mod, ← Nat.mul_mod, ← Nat.mul_assoc, show (p + 1) / 2 * 2 = p + 1 by omega, Nat.add_mul, Nat.one_mul, Nat.add_comm, Nat.add_mul_mod_self_left]
  rw [e X, e Y, h]
theorem cancelA {p X Y v : Nat} (hp : 0 < p) (h : (X + v) % p = (Y + v) % p) : X % p = Y % p := by
  have hv := Nat.mod_lt v hp
  have e : ∀ Z, Z % p = ((Z + v) % p + (p - v % p)) % p := fun Z => by
    rw [Nat.mod_add_mod]
    have h1 := Nat.div_add_mod v p
    have : Z + v + (p - v % p) = Z + p * (v / p + 1) := by rw [Nat.mul_add, Nat.mul_one]; omega
    rw [this, Nat.add_mul_mod_self_left]
  rw [e X, e Y, h]
def hav (p x : Nat) : Nat := (if x % 2 = 1 then x + p else x) / 2
theorem hav_lt {p x : Nat} (h : x < p) : hav p x < p := by unfold hav; split <;> omega
theorem hav_mod {p x a u : Nat} (hp : p % 2 = 1) (hu : u % 2 = 0) (h : x * a % p = u % p) : hav p x * a % p = u / 2 % p := by
  refine cancel2 hp ?_
  rw [show 2 * (u / 2) = u by omega, ← h, ← Nat.mul_assoc]
  unfold hav
  split
  · rw [show 2 * ((x + p) / 2) = x + p by omega, Nat.add_mul, Nat.add_mul_mod_self_left]
  · rw [show 2 * (x / 2) = x by omega]
def lev (p x y : Nat) : Nat := (if x < y then x + p else x) - y
theorem lev_lt {p x y : Nat} (h : x < p) : lev p x y < p := by unfold lev; split <;> omega
theorem lev_mod {p x y a u v : Nat} (hp : 0 < p) (hy : y < p) (hvu : v ≤ u) (hx : x * a % p = u % p) (hv : y * a % p = v % p) : lev p x y * a % p = (u - v) % p := by
  refine cancelA (v := v) hp ?_
  rw [show u - v + v = u by omega, ← hx, Nat.add_mod, ← hv, ← Nat.add_mod, ← Nat.add_mul]
  unfold lev
  split
  · rw [show x + p - y + y = x + p by omega, Nat.add_mul, Nat.add_mul_mod_self_left]
  · rw [show x - y + y = x by omega]
structure InvI (m : Int) (A u v x y : Nat) : Prop where
  u0 : 0 < u
  v0 : 0 < v
  cop : Nat.Coprime u v
  ul : u ≤ modN m
  vl : v ≤ modN m
  xl : x < modN m
  yl : y < modN m
  xa : x * A % modN m = u % modN m
  ya : y * A % modN m = v % modN m
theorem modN_odd (m : Int) : modN m % 2 = 1 := by rcases modN_cases m with h | h <;> rw [h] <;> decide
theorem modN_pos (m : Int) : 0 < modN m := (mod_modN m).pos
theorem InvI.init {m : Int} {A : Nat} (h : A % modN m ≠ 0) : InvI m A (A % modN m) (modN m) 1 0 := by
  have hp := mod_modN m
  have hl := Nat.mod_lt A hp.pos
  refine ⟨Nat.pos_of_ne_zero h, hp.pos, ?_, Nat.le_of_lt hl, Nat.le_refl _, one_lt_modN m, hp.pos, by rw [Nat.one_mul, Nat.mod_mod], by rw [Nat.zero_mul, Nat.zero_mod, Nat.mod_self]⟩
  refine ((pr_modN m).cop fun hd => ?_).symm
  have := Nat.le_of_dvd (Nat.pos_of_ne_zero h) hd
  omega
theorem InvI.swap {m : Int} {A u v x y : Nat} (h : InvI m A u v x y) : InvI m A v u y x := ⟨h.v0, h.u0, h.cop.symm, h.vl, h.ul, h.yl, h.xl, h.ya, h.xa⟩
theorem InvI.half {m : Int} {A u v x y : Nat} (h : InvI m A u v x y) (hu : u % 2 ≠ 1) : InvI m A (u / 2) v (hav (modN m) x) y := by
  have h0 := h.u0; have hl := h.ul
  have he : u % 2 = 0 := by omega
  exact ⟨by omega, h.v0, Nat.Coprime.coprime_dvd_left ⟨2, by omega⟩ h.cop, by omega, h.vl, hav_lt h.xl, h.yl, hav_mod (modN_odd m) he h.xa, h.ya⟩
theorem InvI.odd {m : Int} {A u v x y : Nat} (h : InvI m A u v x y) (hu : u % 2 ≠ 1) : v % 2 = 1 := by
  have h0 := h.u0
  refine Classical.byContradiction fun hv => ?_
  have h1 : 2 ∣ Nat.gcd u v := Nat.dvd_gcd ⟨u / 2, by omega⟩ ⟨v / 2, by omega⟩
  rw [h.cop] at h1
  exact absurd (Nat.le_of_dvd (by decide) h1) (by decide)
theorem InvI.ne {m : Int} {A u v x y : Nat} (h : InvI m A u v x y) (hu : u ≠ 1 ∨ v ≠ 1) : u ≠ v := fun e => by
  have h1 := h.cop
  rw [e, Nat.coprime_self] at h1
  omega
theorem InvI.sub {m : Int} {A u v x y : Nat} (h : InvI m A u v x y) (hvu : v < u) : InvI m A (u - v) v (lev (modN m) x y) y := by
  have hl := h.ul; have hv := h.v0
  refine ⟨by omega, h.v0, ?_, by omega, h.vl, lev_lt h.xl, h.yl, lev_mod (modN_pos m) h.yl (Nat.le_of_lt hvu) h.xa h.ya, h.ya⟩
  have := h.cop
  unfold Nat.Coprime at *
  rw [← this, Nat.gcd_sub_self_left (Nat.le_of_lt hvu)]
theorem InvI.len {m : Int} {A u v x y : Nat} (h : InvI m A u v x y) : (digs u).length ≤ 16 ∧ (digs v).length ≤ 16 ∧ (digs x).length ≤ 16 ∧ (digs y).length ≤ 16 := by
  have e := len_modN m
  exact ⟨e ▸ digs_mono h.ul, e ▸ digs_mono h.vl, e ▸ digs_mono (Nat.le_of_lt h.xl), e ▸ digs_mono (Nat.le_of_lt h.yl)⟩
/-- What takes back is one alone. -/
theorem inv_unique {p A x y : Nat} (hp : Pr p) (hx : x < p) (hy : y < p) (h1 : x * A % p = 1) (h2 : y * A % p = 1) : x = y := by
  have e : ∀ z t : Nat, z < p → t * A % p = 1 → z = z * (t * A) % p := fun z t hz h => by rw [Nat.mul_mod, h, Nat.mul_one, Nat.mod_mod, Nat.mod_eq_of_lt hz]
  rw [e x y hx h2]
  conv => rhs; rw [e y x hy h1]
  rw [Nat.mul_left_comm]
theorem inv_pow {p A : Nat} (hp : Pr p) (hA : A % p ≠ 0) : A ^ (p - 2) % p * A % p = 1 := by
  have h2 := hp.1
  rw [Nat.mod_mul_mod, ← Nat.pow_succ, show (p - 2).succ = p - 1 by omega]
  exact hp.fermat1 fun hd => hA (Nat.mod_eq_zero_of_dvd hd)
theorem InvI.fin {m : Int} {A u v x y : Nat} (h : InvI m A u v x y) (hA : A % modN m ≠ 0) (hu : u = 1) : x = A ^ (modN m - 2) % modN m := by
  subst hu
  refine inv_unique (pr_modN m) h.xl (Nat.mod_lt _ (modN_pos m)) ?_ (inv_pow (pr_modN m) hA)
  rw [h.xa, Nat.mod_eq_of_lt (one_lt_modN m)]
theorem cmp_ne1 {u : Nat} (h : (cmpI (dval (digs u)) (dval (digs 1)) != 0) = true) : u ≠ 1 := by
  rw [dval_digs, dval_digs] at h
  intro e; rw [cmpI_e e] at h; cases h
theorem cmp_eq1 {u : Nat} (h : (cmpI (dval (digs u)) (dval (digs 1)) != 0) = false) : u = 1 := by
  rw [dval_digs, dval_digs] at h
  exact cmpI_eq.1 (by simpa using h)
theorem cmp_eq1' {u : Nat} (h : (cmpI (dval (digs u)) (dval (digs 1)) == 0) = true) : u = 1 := by
  rw [dval_digs, dval_digs] at h
  exact cmpI_eq.1 (by simpa using h)
theorem cmp_ne1' {u : Nat} (h : (cmpI (dval (digs u)) (dval (digs 1)) == 0) = false) : u ≠ 1 := by
  rw [dval_digs, dval_digs] at h
  intro e; rw [cmpI_e e] at h; cases h
/-! ### Read -/
theorem quo2 (n : Nat) : IntKind.i64.wrap ((n : Int).tdiv 2) = ((n / 2 : Nat) : Int) → True := fun _ => trivial
theorem quo2w {n : Nat} (h : n < 4611686018427387904) : IntKind.i64.wrap ((n : Int).tdiv 2) = ((n / 2 : Nat) : Int) := by
  rw [show (2 : Int) = ((2 : Nat) : Int) from rfl, ← Int.ofNat_tdiv]
  exact wr64 (by omega) (by omega)
theorem p256 (k : Nat) : k % 2 = 0 ∧ 256 ^ (k % 2) = 1 ∨ k % 2 = 1 ∧ 256 ^ (k % 2) = 256 := by
  rcases Nat.mod_two_eq_zero_or_one k with h | h <;> rw [h] <;> simp
theorem read_pow (k : Nat) : 256 ^ k = 256 ^ (k % 2) * 65536 ^ (k / 2) := by
  rw [show (65536 : Nat) = 256 ^ 2 from rfl, ← Nat.pow_mul, ← Nat.pow_add]
  congr 1; omega
theorem read_shl {b : UInt8} (k : Nat) : IntKind.u32.wrap ((b.toNat : Int) * 2 ^ (min (((8 * (k % 2) : Nat) : Int).toNat) IntKind.u32.bits)) = ((b.toNat * 256 ^ (k % 2) : Nat) : Int) := by
  have hb := b.toNat_lt
  rcases Nat.mod_two_eq_zero_or_one k with h | h <;> rw [h]
  · have e : (2 : Int) ^ (min (((8 * 0 : Nat) : Int).toNat) IntKind.u32.bits) = 1 := by decide
    rw [e]
    exact (wrapS (k := .u32) rfl (n := b.toNat * 1) (Nat.lt_trans (by omega) (show 256 < 2 ^ IntKind.u32.bits by decide))) ▸ by simp
  · have e : (2 : Int) ^ (min (((8 * 1 : Nat) : Int).toNat) IntKind.u32.bits) = 256 := by decide
    rw [e, show (b.toNat : Int) * 256 = ((b.toNat * 256 : Nat) : Int) by omega]
    exact wrapS rfl (Nat.lt_trans (show b.toNat * 256 < 65537 by omega) (by decide))
theorem read_or {d : Nat} {b : UInt8} (k : Nat) (hd : d < 256 ^ (k % 2)) : bits .or .u32 (d : Int) ((b.toNat * 256 ^ (k % 2) : Nat) : Int) = ((d + b.toNat * 256 ^ (k % 2) : Nat) : Int) := by
  have hb := b.toNat_lt
  have hw : (2 : Nat) ^ IntKind.u32.bits = 4294967296 := by decide
  rcases p256 k with ⟨h, e⟩ | ⟨h, e⟩ <;> rw [e] at hd ⊢
  · obtain rfl : d = 0 := by omega
    rw [orN (k := .u32) rfl (by omega) (by omega)]
    simp
  · rw [orN (k := .u32) rfl (by omega) (by omega), Nat.or_comm, show b.toNat * 256 = b.toNat * 2 ^ 8 from rfl, Nat.mul_comm, ← Nat.two_pow_add_eq_or_of_lt (by omega), Nat.add_comm]
theorem dval_set {zs : List Nat} {i d c : Nat} (h : zs[i]? = some d) : dval (zs.set i (d + c)) = dval zs + c * 65536 ^ i := by
  induction zs generalizing i with
  | nil => cases h
  | cons x zs ih =>
    cases i with
    | zero => obtain rfl : x = d := by simpa using h
              simp [dval]; omega
    | succ i =>
      rw [List.set_cons_succ, dval, dval, ih (by simpa using h), Nat.pow_succ, Nat.mul_add, Nat.mul_left_comm 65536 c, Nat.mul_comm 65536 (65536 ^ i)]
      omega
theorem dval_ge {zs : List Nat} {i d : Nat} (h : zs[i]? = some d) : d * 65536 ^ i ≤ dval zs := by
  induction zs generalizing i with
  | nil => cases h
  | cons x zs ih =>
    cases i with
    | zero => obtain rfl : x = d := by simpa using h
              simp [dval]
    | succ i =>
      have := ih (i := i) (by simpa using h)
      rw [dval, Nat.pow_succ, ← Nat.mul_assoc]
      omega
theorem bval_cons (b : UInt8) (l : List UInt8) : bval (b :: l) = b.toNat * 256 ^ l.length + bval l := by
  rw [show b :: l = [b] ++ l from rfl, bval_append]
  simp [bval]
theorem read_step {l : List UInt8} {zs : List Nat} {k d : Nat} {b : UInt8} (hk : k < l.length) (hzd : DL zs) (hzv : dval zs = bval (l.drop (l.length - k))) (hd : zs[k / 2]? = some d) (hb : l[l.length - 1 - k]? = some b) :
    d < 256 ^ (k % 2) ∧ DL (zs.set (k / 2) (d + b.toNat * 256 ^ (k % 2))) ∧ dval (zs.set (k / 2) (d + b.toNat * 256 ^ (k % 2))) = bval (l.drop (l.length - (k + 1))) := by
  have hlt : bval (l.drop (l.length - k)) < 256 ^ k := bval_lt_of (by rw [List.length_drop]; omega)
  have hd1 : d < 256 ^ (k % 2) := by
    have h1 := dval_ge hd
    rw [hzv] at h1
    have h2 := Nat.lt_of_le_of_lt h1 hlt
    rw [read_pow k] at h2
    exact Nat.lt_of_mul_lt_mul_right h2
  have hb2 := b.toNat_lt
  refine ⟨hd1, fun x hx => ?_, ?_⟩
  · rcases List.mem_or_eq_of_mem_set hx with h | h
    · exact hzd x h
    · rw [h]
      rcases p256 k with ⟨h0, e⟩ | ⟨h0, e⟩ <;> rw [e] at hd1 ⊢ <;> omega
  · rw [dval_set hd, hzv, Nat.mul_assoc, ← read_pow]
    have h1 : l.drop (l.length - (k + 1)) = b :: l.drop (l.length - k) := by
      have hi : l.length - (k + 1) < l.length := by omega
      rw [List.drop_eq_getElem_cons hi]
      have h2 : l[l.length - (k + 1)]? = some b := by rw [← hb]; congr 1; omega
      rw [List.getElem?_eq_getElem hi] at h2
      injection h2 with h2
      rw [h2]
      congr 2; omega
    rw [h1, bval_cons, List.length_drop, show l.length - (l.length - k) = k by omega, Nat.add_comm]
theorem read_0 {zs : List Nat} {k : Nat} (hz : zs.length = (k + 1) / 2) (h2 : k % 2 = 0) : (zs ++ [0])[k / 2]? = some 0 ∧ (zs ++ [0]).length = k / 2 + 1 := by
  have e : k / 2 = zs.length := by omega
  rw [e]; simp
theorem read_1 {zs : List Nat} {k : Nat} (hz : zs.length = (k + 1) / 2) (h2 : k % 2 ≠ 0) : ∃ d, zs[k / 2]? = some d := ⟨_, List.getElem?_eq_getElem (by omega)⟩
theorem dval_snoc0 (zs : List Nat) : dval (zs ++ [0]) = dval zs := by rw [dval_snoc, Nat.mul_zero, Nat.add_zero]
theorem byte_and2 {x : Int} (hx : U x) (n : Nat) : bits .and .u64 ((x.toNat / 2 ^ n : Nat) : Int) 255 = ((x.toNat / 2 ^ n % 256 : Nat) : Int) :=
  maskN (k := .u64) rfl 8 (by have : (2 : Nat) ^ IntKind.u64.bits = 18446744073709551616 := by decide
                              have h1 := Nat.div_le_self x.toNat (2 ^ n)
                              have h2 := hx.2
                              have h3 := hx.1
                              omega) (by decide)
theorem byte_conv (n : Nat) : IntKind.u8.wrap ((n % 256 : Nat) : Int) = ((UInt8.ofNat n).toNat : Int) := (to8 _).trans (by rw [u8_mod])
theorem cmp_ge1 (u v : Nat) : decide (0 ≤ cmpI (dval (digs u)) (dval (digs v))) = decide (v ≤ u) := by
  rw [dval_digs, dval_digs]; exact decide_eq_decide.2 cmpI_ge
theorem sl_len {b n c n' c' : Nat} (h1 : n = n') (h2 : c = c') : sl b 0 n c = sl b 0 n' c' := by rw [h1, h2]
theorem u32s_z : ([.int .u32 0] : List Value) = u32s [0] := rfl
theorem be_add (n : Nat) : ∀ (m A : Nat), be (n + m) A = be n (A / 256 ^ m) ++ be m A
  | 0, A => by simp [be]
  | m + 1, A => by
    rw [show n + (m + 1) = n + m + 1 from rfl, be_succ, be_add n m, be_succ, List.append_assoc, Nat.div_div_eq_div_mul, Nat.pow_succ, Nat.mul_comm]
theorem be_mod : ∀ (m A : Nat), be m (A % 256 ^ m) = be m A
  | 0, A => rfl
  | m + 1, A => by
    rw [be_succ, be_succ, Nat.pow_succ, Nat.mod_mul_left_div_self, be_mod m]
    congr 2
    apply UInt8.toNat_inj.1
    rw [ofNat_toNat, ofNat_toNat, Nat.mod_mul_left_mod]
theorem rb_step {A k : Nat} (hk0 : 0 < k) (hk4 : k ≤ 4) : be (8 * (4 - k)) (A / 2 ^ (64 * k)) ++ [UInt8.ofNat ((lm A (k - 1)).toNat / 2 ^ 56)] ++ [UInt8.ofNat ((lm A (k - 1)).toNat / 2 ^ 48)] ++ [UInt8.ofNat ((lm A (k - 1)).toNat / 2 ^ 40)] ++ [UInt8.ofNat ((lm A (k - 1)).toNat / 2 ^ 32)] ++ [UInt8.ofNat ((lm A (k - 1)).toNat / 2 ^ 24)] ++ [UInt8.ofNat ((lm A (k - 1)).toNat / 2 ^ 16)] ++ [UInt8.ofNat ((lm A (k - 1)).toNat / 2 ^ 8)] ++ [UInt8.ofNat ((lm A (k - 1)).toNat / 2 ^ 0)] = be (8 * (4 - (k - 1))) (A / 2 ^ (64 * (k - 1))) := by
  rw [← big_fin, show 8 * (4 - (k - 1)) = 8 * (4 - k) + 8 by omega, be_add, Nat.div_div_eq_div_mul, show (256 : Nat) ^ 8 = 2 ^ 64 from rfl, ← Nat.pow_add, show 64 * (k - 1) + 64 = 64 * k by omega]
  congr 1
  rw [← be_mod 8 (A / _)]
  congr 1
theorem u32s_ones (l : List Nat) : ∀ v ∈ u32s l, v.oneCell' = true := by
  intro v hv
  simp only [u32s, List.mem_map] at hv
  obtain ⟨b, _, rfl⟩ := hv
  rfl
theorem be_0 (A : Nat) : be 0 A = [] := rfl
theorem dval_nil : dval [] = 0 := rfl
theorem len_1 : (digs 1).length = 1 := by rw [digs_pos (by decide)]; simp [digs_0]
theorem len256 {A : Nat} (h : A < two256) : (digs A).length < 1000 := Nat.lt_of_le_of_lt (digs_len_le (k := 16) (show A < 65536 ^ 16 from h)) (by decide)
/-! ### For the laws -/
theorem neF {a b : Nat} (h : a = b) : (a != b) = false := by simp [h]
theorem eqT {a b : Nat} (h : a = b) : (a == b) = true := by simp [h]
theorem neTs {a b : List UInt8} (h : a = b) : (a != b) = false := by simp [h]
theorem inv_t {m : Int} {A : Nat} (h : A % modN m = 0) : invV m A = 0 ∧ invE m A = 61 := by simp [invV, invE, h]
theorem inv_f {m : Int} {A : Nat} (h : A % modN m ≠ 0) : invV m A = A ^ (modN m - 2) % modN m ∧ invE m A = 0 := by simp [invV, invE, h]
theorem invV_lt (m : Int) (A : Nat) : invV m A < modN m := by
  unfold invV
  split
  · exact (mod_modN m).pos
  · exact Nat.mod_lt _ (mod_modN m).pos
theorem inv_mul {m : Int} {A : Nat} (h : A % modN m ≠ 0) : A * invV m A % modN m = 1 := by
  rw [(inv_f h).1, Nat.mul_comm]; exact inv_pow (pr_modN m) h
theorem len_bval (l : List UInt8) : (digs (bval l)).length ≤ l.length :=
  digs_len_le (Nat.lt_of_lt_of_le (bval_lt l) (Nat.pow_le_pow_left (by decide) _))
theorem of_32 {m : Int} {l : List UInt8} (h : ofOK m l = true) : l.length = 32 ∧ bval l < modN m := by
  simpa [ofOK] using h
theorem of_be {m : Int} {X : Nat} (h : X < modN m) : ofOK m (be 32 X) = true := by
  unfold ofOK
  rw [bval_be 32 X (Nat.lt_trans h (mod_modN m).lt), be_length]
  simp [h]
theorem of_beV {m : Int} {X : Nat} (h : X < modN m) : ofV m (be 32 X) = X ∧ ofE m (be 32 X) = 0 := by
  have := of_t (of_be h)
  exact ⟨this.1.trans (bval_be 32 X (Nat.lt_trans h (mod_modN m).lt)), this.2⟩
theorem of_fine {m : Int} {l : List UInt8} (h : ofOK m l = false) (h32 : l.length = 32) : ¬ bval l < modN m := fun hlt => by
  simp [ofOK, h32, hlt] at h
theorem of_fine2 {m : Int} {l : List UInt8} (h : ofOK m l = false) (h32 : ((l.length : Int) == 32) = true) : decide (cmpI (dval (digs (bval l))) (dval (digs (modN m))) < 0) = false := by
  rw [dval_digs, dval_digs, decide_eq_false_iff_not, cmpI_lt]
  exact of_fine h (by have := eq_of_beq h32; omega)
theorem of_fine1 {m : Int} {l : List UInt8} (h : ofOK m l = true) : decide (cmpI (dval (digs (bval l))) (dval (digs (modN m))) < 0) = true := by
  rw [dval_digs, dval_digs, decide_eq_true_eq, cmpI_lt]
  exact (of_32 h).2
theorem of_len1 {m : Int} {l : List UInt8} (h : ofOK m l = true) : ((l.length : Int) == 32) = true := by
  have := (of_32 h).1
  simp; omega
theorem low_add {B : Nat} (hB : B < two256) (h : (lm B 0 == 18446744073709551615) = false) : lay (numL B) 0 [.int .u64 (IntKind.u64.wrap (lm B 0 + 1))] = numL (B + 1) ∧ B + 1 < two256 := by
  have h0 : lm B 0 ≠ 18446744073709551615 := by simpa using h
  have e := lm_val B
  rw [Nat.mod_eq_of_lt hB] at e
  have u0 := U_lm B 0; have u1 := U_lm B 1; have u2 := U_lm B 2; have u3 := U_lm B 3
  have hw : IntKind.u64.wrap (lm B 0 + 1) = lm B 0 + 1 := by
    refine wru rfl ?_ ?_
    · have := u0.1; omega
    · have h1 : (2 : Int) ^ IntKind.u64.bits = 18446744073709551616 := by decide
      have := u0.2
      omega
  rw [hw]
  have hu : U (lm B 0 + 1) := by have h1 := u0.1; have h2 := u0.2; unfold U; omega
  have h2 : B + 1 < two256 := by
    unfold two256 at *
    unfold U at *
    omega
  exact ⟨numL_of hu u1 u2 u3 (by omega), h2⟩
theorem ring_addA (A B C p : Nat) : (A + (B + C) % p) % p = ((A + B) % p + C) % p := by rw [Nat.add_mod_mod, Nat.mod_add_mod, Nat.add_assoc]
theorem ring_mulA (A B C p : Nat) : A * (B * C % p) % p = A * B % p * C % p := by rw [Nat.mul_mod_mod, Nat.mod_mul_mod, Nat.mul_assoc]
theorem ring_dist (A B C p : Nat) : A * ((B + C) % p) % p = (A * B % p + A * C % p) % p := by rw [Nat.mul_mod_mod, ← Nat.add_mod, Nat.mul_add]
theorem ring_sub {A B p : Nat} (hp : 0 < p) : ((A + B) % p + (p - B % p)) % p = (A + 0) % p := by
  rw [Nat.mod_add_mod]
  have h1 := Nat.mod_lt B hp
  have h2 := Nat.div_add_mod B p
  rw [show A + B + (p - B % p) = A + p * (B / p + 1) by rw [Nat.mul_add, Nat.mul_one]; omega, Nat.add_mul_mod_self_left, Nat.add_zero]
theorem ring_neg {A p : Nat} (hp : 0 < p) : (A + (p - A % p) % p) % p = 0 := by
  rw [Nat.add_mod_mod]
  have h1 := Nat.mod_lt A hp
  have h2 := Nat.div_add_mod A p
  rw [show A + (p - A % p) = p * (A / p + 1) by rw [Nat.mul_add, Nat.mul_one]; omega, Nat.mul_mod_right]
theorem ring_one (A p : Nat) : A * 1 % p = (A + 0) % p := by rw [Nat.mul_one, Nat.add_zero]
theorem ring_uniq {m : Int} {A B : Nat} (h : A % modN m ≠ 0) (hb : (A * B % modN m != 1) = false) : (B + 0) % modN m = invV m A := by
  have hb1 : A * B % modN m = 1 := by simpa using hb
  refine inv_unique (pr_modN m) (Nat.mod_lt _ (modN_pos m)) (invV_lt m A) (A := A) ?_ ?_
  · rw [Nat.add_zero, Nat.mod_mul_mod, Nat.mul_comm]; exact hb1
  · rw [Nat.mul_comm]; exact inv_mul h
theorem fermat_low {m : Int} {A : Nat} (h : (invE m A == 0) = true) : A ^ (modN m - 2) % modN m = invV m A := by
  by_cases h0 : A % modN m = 0
  · rw [(inv_t h0).2] at h; cases h
  · exact (inv_f h0).1.symm
theorem back_eq (a b : List UInt8) (p : Nat) : bval (a ++ b) % p = (bval a % p * (256 ^ b.length % p) % p + bval b % p) % p := by
  rw [bval_append, Nat.mod_mul_mod, Nat.mul_mod_mod, ← Nat.add_mod]
theorem be_ofV {m : Int} {l : List UInt8} (h : ofOK m l = true) : be 32 (ofV m l) = l := by
  rw [(of_t h).1, ← (of_32 h).1, be_bval]
theorem len_ne0 {X : Nat} (h : X ≠ 0) : (((digs X).length : Int) == 0) = false := by
  rw [digs_pos h]
  simp
  omega
end Go.Proofs.Ytmbcolbbekbccaa
