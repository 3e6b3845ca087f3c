/- Numbers of bytes, the highest first: plain lemmas. Conditions: as each theorem says. -/
import Derived.Test.YtmbcolbbekbccaaStr
import Derived.Test.YtmbcolbbekbccaaDgd
import Derived.Test.YtmbcolbbekbccaaWd
namespace Go.Proofs.Ytmbcolbbekbccaa
open Go Go.RowKit

def bval (l : List UInt8) : Nat := l.foldl (fun n b => n * 256 + b.toNat) 0
theorem bval_nil : bval [] = 0 := rfl
theorem bval_snoc (l : List UInt8) (b : UInt8) : bval (l ++ [b]) = bval l * 256 + b.toNat := by simp [bval]
theorem bval_take {l : List UInt8} {i : Nat} {b : UInt8} (h : l[i]? = some b) : bval (l.take (i + 1)) = bval (l.take i) * 256 + b.toNat := by
  rw [List.take_add_one, h]; exact bval_snoc _ _
theorem bval_append (a : List UInt8) : ∀ b : List UInt8, bval (a ++ b) = bval a * 256 ^ b.length + bval b := by
  intro b
  induction h : b.length generalizing b with
  | zero => obtain rfl : b = [] := List.length_eq_zero_iff.1 h; simp [bval_nil]
  | succ n ih =>
    obtain ⟨c, x, rfl⟩ : ∃ c x, b = c ++ [x] := by
      refine ⟨b.dropLast, b.getLast (by intro e; subst e; cases h), (List.dropLast_concat_getLast _).symm⟩
    have hn : c.length = n := by simpa using h
    rw [← List.append_assoc, bval_snoc, ih c hn, bval_snoc, Nat.pow_succ, Nat.add_mul, Nat.mul_assoc, Nat.add_assoc]
theorem bval_lt : ∀ (l : List UInt8), bval l < 256 ^ l.length := by
  intro l
  induction h : l.length generalizing l with
  | zero => obtain rfl : l = [] := List.length_eq_zero_iff.1 h; decide
  | succ n ih =>
    obtain ⟨c, x, rfl⟩ : ∃ c x, l = c ++ [x] := by
      refine ⟨l.dropLast, l.getLast (by intro e; subst e; cases h), (List.dropLast_concat_getLast _).symm⟩
    have hn : c.length = n := by simpa using h
    have h1 := ih c hn
    have h2 := x.toNat_lt
    rw [bval_snoc, Nat.pow_succ]
    omega
theorem bval_lt_of {l : List UInt8} {n : Nat} (h : l.length ≤ n) : bval l < 256 ^ n := Nat.lt_of_lt_of_le (bval_lt l) (Nat.pow_le_pow_right (by decide) h)
theorem bval_zeros (l : List UInt8) : ∀ j : Nat, bval (List.replicate j 0 ++ l) = bval l := by
  intro j
  have h : ∀ j, bval (List.replicate j 0) = 0 := by
    intro j
    induction j with
    | zero => rfl
    | succ j ih => rw [List.replicate_succ', bval_snoc, ih]; rfl
  rw [bval_append, h, Nat.zero_mul, Nat.zero_add]
theorem bval_split (l : List UInt8) (i : Nat) : bval l = bval (l.take i) * 256 ^ (l.length - i) + bval (l.drop i) := by
  conv => lhs; rw [← List.take_append_drop i l]
  rw [bval_append, List.length_drop]
/-! ### field.value -/
theorem value_shl {n : Nat} (h : n < 72057594037927936) : IntKind.u64.wrap ((n : Int) * 2 ^ (min ((8 : Int).toNat) IntKind.u64.bits)) = ((n * 256 : Nat) : Int) := by
  have e : (2 : Int) ^ (min ((8 : Int).toNat) IntKind.u64.bits) = 256 := by decide
  rw [e, show (n : Int) * 256 = ((n * 256 : Nat) : Int) by omega]
  exact wrapS rfl (by have : (2 : Nat) ^ IntKind.u64.bits = 18446744073709551616 := by decide
                      omega)
theorem value_or {n : Nat} {b : UInt8} (h : n < 72057594037927936) : bits .or .u64 ((n * 256 : Nat) : Int) (b.toNat : Int) = ((n * 256 + b.toNat : Nat) : Int) := by
  have h2 := b.toNat_lt
  exact joinN (n := 8) rfl h2 (by have : (2 : Nat) ^ IntKind.u64.bits = 18446744073709551616 := by decide
                                  omega)
theorem u8_64 (b : UInt8) : IntKind.u64.wrap (b.toNat : Int) = (b.toNat : Int) := wrapS rfl (Nat.lt_trans b.toNat_lt (by decide))
theorem u8_32 (b : UInt8) : IntKind.u32.wrap (b.toNat : Int) = (b.toNat : Int) := wrapS rfl (Nat.lt_trans b.toNat_lt (by decide))
theorem to8 (n : Nat) : IntKind.u8.wrap (n : Int) = ((UInt8.ofNat n).toNat : Int) := by
  rw [wrapN rfl]; simp [UInt8.toNat_ofNat']; rfl
theorem value_lt7 {l : List UInt8} {i : Nat} (hi : i < l.length) (hl : l.length ≤ 8) : bval (l.take i) < 72057594037927936 :=
  bval_lt_of (n := 7) (by rw [List.length_take]; omega)
theorem len_slc (l : List UInt8) {p h : Nat} (hl : h ≤ l.length) : ((l.take h).drop p).length = h - p := by simp; omega
theorem lm_nat {A i n : Nat} (h : A / 2 ^ (64 * i) % 2 ^ 64 = n) : lm A i = (n : Int) := by unfold lm; rw [h]
theorem bval_word {l : List UInt8} (hl : l.length = 32) {p : Nat} (hp : p + 8 ≤ 32) : bval l / 256 ^ (24 - p) % 256 ^ 8 = bval ((l.take (p + 8)).drop p) := by
  have h1 := bval_split l (p + 8)
  have h2 := bval_split (l.take (p + 8)) p
  rw [List.take_take, Nat.min_eq_left (by omega), List.length_take, Nat.min_eq_left (by omega), show p + 8 - p = 8 by omega] at h2
  have h3 : bval (l.drop (p + 8)) < 256 ^ (24 - p) := bval_lt_of (by rw [List.length_drop]; omega)
  have h4 : bval ((l.take (p + 8)).drop p) < 256 ^ 8 := bval_lt_of (by simp; omega)
  rw [hl, show 32 - (p + 8) = 24 - p by omega] at h1
  rw [h1, Nat.mul_comm, Nat.mul_add_div (Nat.pow_pos (by decide)), Nat.div_eq_of_lt h3, Nat.add_zero, h2, Nat.mul_comm, Nat.mul_add_mod, Nat.mod_eq_of_lt h4]
theorem number_fin {l : List UInt8} (hl : l.length = 32) :
    ([.int .u64 (bval ((l.take 32).drop 24) : Int), .int .u64 (bval ((l.take 24).drop 16) : Int), .int .u64 (bval ((l.take 16).drop 8) : Int), .int .u64 (bval ((l.take 8).drop 0) : Int)] : List Value) = numL (bval l) := by
  have e : ∀ i p, p + 8 ≤ 32 → 8 * i = 24 - p → lm (bval l) i = (bval ((l.take (p + 8)).drop p) : Int) := fun i p hp hi => by
    refine lm_nat ?_
    rw [← bval_word hl hp, show (256 : Nat) = 2 ^ 8 from rfl, ← Nat.pow_mul, ← Nat.pow_mul, ← hi, ← Nat.mul_assoc]
  unfold numL
  rw [e 0 24 (by decide) rfl, e 1 16 (by decide) rfl, e 2 8 (by decide) rfl, e 3 0 (by decide) rfl]
theorem bval_two256 {l : List UInt8} (hl : l.length = 32) : bval l < two256 := by
  have := bval_lt l
  rw [hl] at this
  exact this
/-! ### field.Of -/
def ofOK (m : Int) (l : List UInt8) : Bool := l.length == 32 && decide (bval l < modN m)
def ofV (m : Int) (l : List UInt8) : Nat := bif ofOK m l then bval l else 0
def ofE (m : Int) (l : List UInt8) : Int := bif ofOK m l then 0 else 60
theorem of_len {m : Int} {l : List UInt8} (h : l.length ≠ 32) : ofOK m l = false := by simp [ofOK, h]
theorem of_f {m : Int} {l : List UInt8} (h : ofOK m l = false) : ofV m l = 0 ∧ ofE m l = 60 := by simp [ofV, ofE, h]
theorem of_t {m : Int} {l : List UInt8} (h : ofOK m l = true) : ofV m l = bval l ∧ ofE m l = 0 := by simp [ofV, ofE, h]
theorem of_ne {m : Int} {l : List UInt8} (h : (bval l % modN m != bval l) = true) : ofOK m l = false := by
  have h1 : bval l % modN m ≠ bval l := bne_iff_ne.1 h
  have h2 : ¬ bval l < modN m := fun hlt => h1 (Nat.mod_eq_of_lt hlt)
  simp [ofOK, h2]
theorem of_eq {m : Int} {l : List UInt8} (hl : l.length = 32) (h : (bval l % modN m != bval l) = false) : ofOK m l = true := by
  have h1 : bval l % modN m = bval l := by simpa using h
  have h2 : bval l < modN m := by rw [← h1]; exact Nat.mod_lt _ (mod_modN m).pos
  simp [ofOK, hl, h2]
theorem ofV_lt (m : Int) (l : List UInt8) : ofV m l < modN m := by
  unfold ofV
  cases h : ofOK m l with
  | false => exact (mod_modN m).pos
  | true => simp only [ofOK, Bool.and_eq_true, decide_eq_true_eq] at h; exact h.2
theorem ofV_lt2 (m : Int) (l : List UInt8) : ofV m l < two256 := Nat.lt_trans (ofV_lt m l) (mod_modN m).lt
/-! ### field.word -/
theorem word_0 {A n p : Nat} (hA : A < p) (hn : n < 18446744073709551616) : (A * 2 ^ (64 - 64) + n / 2 ^ 64) % p = A := by
  rw [Nat.div_eq_of_lt hn]; simp [Nat.mod_eq_of_lt hA]
theorem word_step {A n p k : Nat} (hk : 0 < k) (hk2 : k ≤ 64) : (((A * 2 ^ (64 - k) + n / 2 ^ k) % p + (A * 2 ^ (64 - k) + n / 2 ^ k) % p) % p + n / 2 ^ (k - 1) % 2) % p = (A * 2 ^ (64 - (k - 1)) + n / 2 ^ (k - 1)) % p := by
  have h1 := pow_step n k hk
  rw [Nat.mod_add_mod, Nat.add_assoc, Nat.mod_add_mod, Nat.add_left_comm, Nat.mod_add_mod]
  congr 1
  have h2 : 2 ^ (64 - (k - 1)) = 2 ^ (64 - k) * 2 := by rw [← Nat.pow_succ]; congr 1; omega
  rw [h2, ← Nat.mul_assoc]
  omega
theorem word_bit (n k : Nat) (hk : 0 < k) (hk2 : k ≤ 64) : ((n : Nat) : Int).fdiv (2 ^ (min (((k : Int) - 1).toNat) IntKind.u64.bits)) = ((n / 2 ^ (k - 1) : Nat) : Int) := by
  rw [show ((k : Int) - 1).toNat = ((k - 1 : Nat) : Int).toNat by omega]
  exact shrN (by have : IntKind.u64.bits = 64 := rfl
                 omega)
theorem and64_1 {n : Nat} (hn : n < 18446744073709551616) : bits .and .u64 (n : Int) 1 = ((n % 2 : Nat) : Int) :=
  maskN (k := .u64) rfl 1 (by have : (2 : Nat) ^ IntKind.u64.bits = 18446744073709551616 := by decide
                              omega) (by decide)
theorem two_lt_modN (m : Int) : 2 < modN m := by rcases modN_cases m with h | h <;> rw [h] <;> decide
/-! ### field.Reduce -/
theorem rem8 (n : Nat) : (n : Int).tmod 8 = ((n % 8 : Nat) : Int) := (Int.ofNat_tmod n 8).symm
theorem red_cons (j : Nat) (l : List UInt8) : [0] ++ (List.replicate j 0 ++ l) = List.replicate (j + 1) 0 ++ l := by rw [List.replicate_succ]; rfl
theorem red_step {s : List UInt8} {n p : Nat} (hn : 8 * n + 8 ≤ s.length) : (bval (s.take (8 * n)) % p * 2 ^ 64 + bval ((s.drop (8 * n)).take 8)) % p = bval (s.take (8 * (n + 1))) % p := by
  have h : s.take (8 * (n + 1)) = s.take (8 * n) ++ (s.drop (8 * n)).take 8 := by rw [Nat.mul_add, List.take_add]
  have hl : ((s.drop (8 * n)).take 8).length = 8 := by simp; omega
  rw [h, bval_append, hl, Nat.add_mod, Nat.mul_mod, Nat.mod_mod, ← Nat.mul_mod, ← Nat.add_mod]
theorem red_t {s : List UInt8} {n q : Nat} (hs : s.length = 8 * q) (h : (s.drop (8 * n) != []) = true) : 8 * n + 8 ≤ s.length := by
  have h1 : s.drop (8 * n) ≠ [] := by simpa using h
  have h2 : 0 < (s.drop (8 * n)).length := List.length_pos_iff.2 h1
  rw [List.length_drop] at h2
  omega
theorem red_f {s : List UInt8} {n : Nat} (h : (s.drop (8 * n) != []) = false) : s.take (8 * n) = s := by
  have h1 : s.drop (8 * n) = [] := by simpa using h
  rw [List.drop_eq_nil_iff] at h1
  exact List.take_of_length_le h1
theorem bval_lt8 {l : List UInt8} (h : l.length ≤ 8) : bval l < 18446744073709551616 := bval_lt_of (n := 8) h
/-! ### Bytes -/
def be (n A : Nat) : List UInt8 := (List.range n).map fun i => UInt8.ofNat (A / 2 ^ (8 * (n - 1 - i)))
theorem be_length (n A : Nat) : (be n A).length = n := by simp [be]
theorem ofNat_toNat (n : Nat) : (UInt8.ofNat n).toNat = n % 256 := by simp [UInt8.toNat_ofNat']
theorem be_8 (A : Nat) : be 8 A = [UInt8.ofNat (A / 2 ^ 56), UInt8.ofNat (A / 2 ^ 48), UInt8.ofNat (A / 2 ^ 40), UInt8.ofNat (A / 2 ^ 32), UInt8.ofNat (A / 2 ^ 24), UInt8.ofNat (A / 2 ^ 16), UInt8.ofNat (A / 2 ^ 8), UInt8.ofNat (A / 2 ^ 0)] := rfl
theorem u8_mod (x : Nat) : UInt8.ofNat (x % 256) = UInt8.ofNat x := by
  apply UInt8.toNat_inj.1; rw [ofNat_toNat, ofNat_toNat, Nat.mod_mod]
theorem be_piece (A i r : Nat) (hr : r < 8) : UInt8.ofNat (A / 2 ^ (64 * i) % 2 ^ 64 / 2 ^ (8 * r)) = UInt8.ofNat (A / 2 ^ (64 * i + 8 * r)) := by
  apply UInt8.toNat_inj.1
  rw [ofNat_toNat, ofNat_toNat, Nat.pow_add, ← Nat.div_div_eq_div_mul]
  generalize A / 2 ^ (64 * i) = B
  have e1 : (2 : Nat) ^ 64 = 2 ^ (8 * r) * 2 ^ (64 - 8 * r) := by rw [← Nat.pow_add]; congr 1; omega
  rw [e1, Nat.mod_mul_right_div_self, show (2 : Nat) ^ (64 - 8 * r) = 256 * 2 ^ (56 - 8 * r) by
    rw [show (256 : Nat) = 2 ^ 8 from rfl, ← Nat.pow_add]; congr 1; omega, Nat.mod_mul_right_mod]
theorem be_32 (A : Nat) : be 32 A = be 8 (lm A 3).toNat ++ be 8 (lm A 2).toNat ++ be 8 (lm A 1).toNat ++ be 8 (lm A 0).toNat := by
  have e : ∀ i, (lm A i).toNat = A / 2 ^ (64 * i) % 2 ^ 64 := fun i => by unfold lm; omega
  rw [e, e, e, e]
  have f : ∀ i, be 8 (A / 2 ^ (64 * i) % 2 ^ 64) = [UInt8.ofNat (A / 2 ^ (64 * i + 8 * 7)), UInt8.ofNat (A / 2 ^ (64 * i + 8 * 6)), UInt8.ofNat (A / 2 ^ (64 * i + 8 * 5)), UInt8.ofNat (A / 2 ^ (64 * i + 8 * 4)), UInt8.ofNat (A / 2 ^ (64 * i + 8 * 3)), UInt8.ofNat (A / 2 ^ (64 * i + 8 * 2)), UInt8.ofNat (A / 2 ^ (64 * i + 8 * 1)), UInt8.ofNat (A / 2 ^ (64 * i + 8 * 0))] := fun i => by
    rw [← be_piece A i 7 (by decide), ← be_piece A i 6 (by decide), ← be_piece A i 5 (by decide), ← be_piece A i 4 (by decide), ← be_piece A i 3 (by decide), ← be_piece A i 2 (by decide), ← be_piece A i 1 (by decide), ← be_piece A i 0 (by decide)]
    rfl
  rw [f, f, f, f]
  rfl
theorem be_succ (n A : Nat) : be (n + 1) A = be n (A / 256) ++ [UInt8.ofNat A] := by
  unfold be
  rw [List.range_succ, List.map_append, List.map_singleton]
  congr 1
  · apply List.map_congr_left
    intro i hi
    rw [List.mem_range] at hi
    rw [show n + 1 - 1 - i = 1 + (n - 1 - i) by omega, Nat.mul_add, Nat.pow_add, ← Nat.div_div_eq_div_mul]
  · simp
theorem bval_be : ∀ (n A : Nat), A < 256 ^ n → bval (be n A) = A
  | 0, A, h => by obtain rfl : A = 0 := by omega
                  rfl
  | n + 1, A, h => by
    rw [be_succ, bval_snoc, bval_be n (A / 256) (by rw [Nat.pow_succ] at h; omega), ofNat_toNat]
    omega
theorem be_bval (l : List UInt8) : be l.length (bval l) = l := by
  induction h : l.length generalizing l with
  | zero => obtain rfl : l = [] := List.length_eq_zero_iff.1 h; rfl
  | succ n ih =>
    obtain ⟨c, x, rfl⟩ : ∃ c x, l = c ++ [x] := by
      refine ⟨l.dropLast, l.getLast (by intro e; subst e; cases h), (List.dropLast_concat_getLast _).symm⟩
    have hn : c.length = n := by simpa using h
    have hx := x.toNat_lt
    rw [be_succ, bval_snoc, show (bval c * 256 + x.toNat) / 256 = bval c by omega, ih c hn]
    congr 2
    apply UInt8.toNat_inj.1
    rw [ofNat_toNat]; omega
theorem HP.skip {w0 w : World} {x y : Ent} {L : List Ent} (h : HP w0 w (x :: y :: L)) : HP w0 w (x :: L) := by
  refine ⟨h.below, fun k b cs T hk => ?_, fun i j b cs T cs' T' hi hj => ?_⟩
  · cases k with
    | zero => exact h.blk 0 b cs T hk
    | succ k => exact h.blk (k + 2) b cs T hk
  · cases i with
    | zero => cases j with
      | zero => rfl
      | succ j => have := h.inj 0 (j + 2) b cs T cs' T' hi hj; omega
    | succ i => cases j with
      | zero => have := h.inj (i + 2) 0 b cs T cs' T' hi hj; omega
      | succ j => have := h.inj (i + 2) (j + 2) b cs T cs' T' hi hj; omega
theorem bshr {x : Int} (hx : U x) (n : Nat) (hn : n ≤ 64) : x.fdiv (2 ^ (min ((n : Int).toNat) IntKind.u64.bits)) = ((x.toNat / 2 ^ n : Nat) : Int) := by
  have h : x = (x.toNat : Int) := by have := hx.1; omega
  conv => lhs; rw [h]
  exact shrN hn
theorem big_fin (X : List UInt8) (N : Nat) : X ++ be 8 N = X ++ [UInt8.ofNat (N / 2 ^ 56)] ++ [UInt8.ofNat (N / 2 ^ 48)] ++ [UInt8.ofNat (N / 2 ^ 40)] ++ [UInt8.ofNat (N / 2 ^ 32)] ++ [UInt8.ofNat (N / 2 ^ 24)] ++ [UInt8.ofNat (N / 2 ^ 16)] ++ [UInt8.ofNat (N / 2 ^ 8)] ++ [UInt8.ofNat (N / 2 ^ 0)] := by
  rw [be_8]; simp
theorem big_finN (N : Nat) : be 8 N = [UInt8.ofNat (N / 2 ^ 56)] ++ [UInt8.ofNat (N / 2 ^ 48)] ++ [UInt8.ofNat (N / 2 ^ 40)] ++ [UInt8.ofNat (N / 2 ^ 32)] ++ [UInt8.ofNat (N / 2 ^ 24)] ++ [UInt8.ofNat (N / 2 ^ 16)] ++ [UInt8.ofNat (N / 2 ^ 8)] ++ [UInt8.ofNat (N / 2 ^ 0)] := by
  rw [be_8]; simp
theorem byte_and {x n : Nat} : bits .and .u64 ((x % 18446744073709551616 / 2 ^ n : Nat) : Int) 255 = ((x % 18446744073709551616 / 2 ^ n % 256 : Nat) : Int) :=
  maskN (k := .u64) rfl 8 (by have : (2 : Nat) ^ IntKind.u64.bits = 18446744073709551616 := by decide
                              have := Nat.div_le_self (x % 18446744073709551616) (2 ^ n)
                              omega) (by decide)
/-! ### Powers, inverses -/
theorem pow_init0 {A E : Nat} (m : Int) (hE : E < two256) : A ^ (E / 2 ^ 256) % modN m = 1 := by
  rw [Nat.div_eq_of_lt (show E < 2 ^ 256 from hE), Nat.pow_zero, Nat.mod_eq_of_lt (one_lt_modN m)]
theorem pow_quo {k : Nat} (hk : 0 < k) (h : k ≤ 256) : IntKind.i64.wrap (((k : Int) - 1).tdiv 64) = (((k - 1) / 64 : Nat) : Int) := quoI hk (by decide) (by omega)
theorem pow_rem {k : Nat} (hk : 0 < k) : ((k : Int) - 1).tmod 64 = (((k - 1) % 64 : Nat) : Int) := remI hk
theorem pow_shr (E i r : Nat) (hr : r < 64) : (lm E i).fdiv (2 ^ (min ((r : Int).toNat) IntKind.u64.bits)) = ((E / 2 ^ (64 * i) % 2 ^ 64 / 2 ^ r : Nat) : Int) := by
  unfold lm
  exact shrN (by have : IntKind.u64.bits = 64 := rfl
                 omega)
theorem pow_bit (E i : Nat) : E / 2 ^ (64 * (i / 64)) % 2 ^ 64 / 2 ^ (i % 64) % 2 = E / 2 ^ i % 2 := by
  have e : (2 : Nat) ^ i = 2 ^ (64 * (i / 64)) * 2 ^ (i % 64) := by rw [← Nat.pow_add]; congr 1; omega
  rw [e, ← Nat.div_div_eq_div_mul]
  generalize E / 2 ^ (64 * (i / 64)) = X
  have h : i % 64 < 64 := Nat.mod_lt _ (by decide)
  generalize i % 64 = r at h
  have e3 : (2 : Nat) ^ 64 = 2 ^ r * 2 ^ (64 - r) := by rw [← Nat.pow_add]; congr 1; omega
  rw [e3, Nat.mod_mul_right_div_self, show (2 : Nat) ^ (64 - r) = 2 * 2 ^ (63 - r) by rw [← Nat.pow_succ']; congr 1; omega, Nat.mod_mul_right_mod]
theorem pow_and (E i : Nat) : bits .and .u64 ((E / 2 ^ (64 * (i / 64)) % 2 ^ 64 / 2 ^ (i % 64) : Nat) : Int) 1 = ((E / 2 ^ i % 2 : Nat) : Int) := by
  rw [and64_1 (Nat.lt_of_le_of_lt (Nat.div_le_self _ _) (Nat.mod_lt _ (by decide))), pow_bit]
def invV (m : Int) (A : Nat) : Nat := if A % modN m = 0 then 0 else A ^ (modN m - 2) % modN m
def invE (m : Int) (A : Nat) : Int := if A % modN m = 0 then 61 else 0
theorem invV_lt2 (m : Int) (A : Nat) : invV m A < two256 := by
  unfold invV
  split
  · exact two256_pos
  · exact Nat.lt_trans (Nat.mod_lt _ (mod_modN m).pos) (mod_modN m).lt
theorem low_sub (m : Int) : lay (numL (modN m)) 0 [.int .u64 (IntKind.u64.wrap (lm (modN m) 0 - 2))] = numL (modN m - 2) := by
  rcases modN_cases m with h | h <;> rw [h]
  · rw [show numL PP = ([.int .u64 18446744073709551615, .int .u64 4294967295, .int .u64 0, .int .u64 18446744069414584321] : List Value) from num_PP.symm, show lm PP 0 = 18446744073709551615 from rfl]
    exact (num_const (a := 18446744073709551613) (b := 4294967295) (c := 0) (d := 18446744069414584321) (PP - 2) (by decide) (by decide) (by decide) (by decide) (by decide))
  · rw [show numL NN = ([.int .u64 17562291160714782033, .int .u64 13611842547513532036, .int .u64 18446744073709551615, .int .u64 18446744069414584320] : List Value) from num_NN.symm, show lm NN 0 = 17562291160714782033 from rfl]
    exact (num_const (a := 17562291160714782031) (b := 13611842547513532036) (c := 18446744073709551615) (d := 18446744069414584320) (NN - 2) (by decide) (by decide) (by decide) (by decide) (by decide))
theorem low_lt (m : Int) : modN m - 2 < two256 := Nat.lt_of_le_of_lt (Nat.sub_le _ _) (mod_modN m).lt
theorem beqN {a b : Nat} (h : (a == b) = true) : a = b := by simpa using h
theorem bneN {a b : Nat} (h : (a == b) = false) : a ≠ b := by simpa using h
end Go.Proofs.Ytmbcolbbekbccaa
