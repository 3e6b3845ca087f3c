/- Package sign: what its keys and rings are: plain laws. Conditions: as each theorem says. -/
import Derived.Test.YtmbcolbbekbccaaSgB
import Derived.Test.YtmbcolbbekbccaaSha
import Derived.Test.YtmbcolbbekbccaaB64
namespace Go.Proofs.Ytmbcolbbekbccaa
open Go Go.RowKit
/-! ### Are two texts the same? -/
theorem or63 {a b : Nat} (ha : a < 2 ^ 63) (hb : b < 2 ^ 63) : bits .or .i64 (a : Int) (b : Int) = ((a ||| b : Nat) : Int) := by
  have h1 : a < 2 ^ IntKind.i64.bits := by show a < 2 ^ 64; omega
  have h2 : b < 2 ^ IntKind.i64.bits := by show b < 2 ^ 64; omega
  simp only [bits, BitVec.toNat_or, ofNatBV .i64 a h1, ofNatBV .i64 b h2]
  have := Nat.or_lt_two_pow ha hb
  exact wr64 (by omega) (by omega)
theorem xor63 {a b : Nat} (ha : a < 2 ^ 63) (hb : b < 2 ^ 63) : bits .xor .i64 (a : Int) (b : Int) = ((a ^^^ b : Nat) : Int) := by
  have h1 : a < 2 ^ IntKind.i64.bits := by show a < 2 ^ 64; omega
  have h2 : b < 2 ^ IntKind.i64.bits := by show b < 2 ^ 64; omega
  simp only [bits, BitVec.toNat_xor, ofNatBV .i64 a h1, ofNatBV .i64 b h2]
  have := Nat.xor_lt_two_pow ha hb
  exact wr64 (by omega) (by omega)
def unlike (x y : List UInt8) : Nat → Nat
  | 0 => x.length ^^^ y.length
  | k + 1 => unlike x y k ||| (x.getD k 0 ^^^ y.getD k 0).toNat
theorem unlike_lt {x y : List UInt8} (hx : x.length < 2 ^ 63) (hy : y.length < 2 ^ 63) : ∀ k, unlike x y k < 2 ^ 63
  | 0 => Nat.xor_lt_two_pow hx hy
  | k + 1 => Nat.or_lt_two_pow (unlike_lt hx hy k) (Nat.lt_of_lt_of_le (UInt8.toNat_lt _) (by decide))
theorem orz0 {a b : Nat} : a ||| b = 0 ↔ a = 0 ∧ b = 0 := by
  constructor
  · intro h
    have h1 : a ≤ a ||| b := Nat.left_le_or
    have h2 : b ≤ a ||| b := Nat.right_le_or
    omega
  · rintro ⟨rfl, rfl⟩; rfl
theorem xorz08 {a b : UInt8} : (a ^^^ b).toNat = 0 ↔ a = b := by
  rw [UInt8.toNat_xor]
  constructor
  · intro h
    apply UInt8.toNat_inj.1
    have := congrArg (· ^^^ b.toNat) h
    simpa [Nat.xor_assoc] using this
  · rintro rfl; simp
theorem unlike_zero {x y : List UInt8} : ∀ k, unlike x y k = 0 ↔ x.length = y.length ∧ ∀ j, j < k → x.getD j 0 = y.getD j 0
  | 0 => by
    simp only [unlike, Nat.not_lt_zero, false_imp_iff, implies_true, and_true]
    constructor
    · intro h
      have := congrArg (· ^^^ y.length) h
      simpa [Nat.xor_assoc] using this
    · intro h; rw [h]; simp
  | k + 1 => by
    rw [unlike, orz0, unlike_zero k, xorz08]
    constructor
    · rintro ⟨⟨h1, h2⟩, h3⟩
      exact ⟨h1, fun j hj => by
        rcases (by omega : j < k ∨ j = k) with h | rfl
        · exact h2 j h
        · exact h3⟩
    · rintro ⟨h1, h2⟩
      exact ⟨⟨h1, fun j hj => h2 j (by omega)⟩, h2 k (by omega)⟩
theorem same_ok {x y : List UInt8} (hx : x.length ≤ 68719476736) (hy : y.length ≤ 68719476736) : hash_Same_p x y = some (x == y) := by
  have hx2 : x.length < 2 ^ 63 := by omega
  have hy2 : y.length < 2 ^ 63 := by omega
  have key : iter (hash_Same_b0 x y) ((((x.length ^^^ y.length : Nat)) : Int), 0) = some ((unlike x y x.length : Nat) : Int) := by
    refine iter_run (fun k => (((unlike x y k : Nat) : Int), (k : Int))) x.length (by omega) _ (fun k hk => ?_) ?_
    · unfold hash_Same_b0
      rw [dec_t (by omega)]
      simp only []
      have e : (bif decide ((k : Int) < ((y).length : Int)) then (Option.bind (idx y (k : Int)) fun y1 => some (y1)) else (some ((0 : UInt8)))) = some (y.getD k 0) := by
        by_cases h : k < y.length
        · rw [dec_t (by omega), idxD h]; rfl
        · rw [dec_f (by omega), List.getD_eq_getElem?_getD, List.getElem?_eq_none (by omega)]; rfl
      rw [e, some_bind, idxD hk, some_bind, or63 (unlike_lt hx2 hy2 k) (Nat.lt_of_lt_of_le (UInt8.toNat_lt _) (by decide)), w64s k (by omega)]
      rfl
    · unfold hash_Same_b0
      rw [dec_f (by omega)]
  unfold hash_Same_p
  rw [xor63 hx2 hy2, key, some_bind, some_bind]
  congr 1
  have hz := unlike_zero (x := x) (y := y) x.length
  by_cases h : x = y
  · subst h
    rw [hz.2 ⟨rfl, fun _ _ => rfl⟩]; simp
  · rw [beq_false_of_ne h]
    have : ¬ unlike x y x.length = 0 := fun e => h (by
      obtain ⟨h1, h2⟩ := hz.1 e
      apply List.ext_getElem h1
      intro i hi hi'
      have := h2 i hi
      simpa [List.getD_eq_getElem?_getD, List.getElem?_eq_getElem hi, List.getElem?_eq_getElem hi'] using this)
    rw [beq_eq_false_iff_ne]; omega
/-! ### Keys -/
abbrev Ky : Type := (List UInt8) × (List UInt8) × (List UInt8) × (UInt64 × UInt64 × UInt64 × UInt64) × Onc × ((UInt64 × UInt64 × UInt64 × UInt64) × (UInt64 × UInt64 × UInt64 × UInt64) × Bool)
def kidF (s : List UInt8) : List UInt8 := b64 ((macF [107, 105, 100] s).take 9)
def mkF (s : List UInt8) : List UInt8 := macF [109, 97, 99] s
def dF (s : List UInt8) : Nat := bval (macF [107, 101, 121] s) % modN 1
def prF (s : List UInt8) : W4 := bif dF s == 0 then tv 1 else tv (dF s)
def keyOf (s : List UInt8) : Ky := (s, kidF s, mkF s, prF s, onc0, ((0, 0, 0, 0), (0, 0, 0, 0), false))
theorem kidF_len (s : List UInt8) : (kidF s).length = 12 := by
  rw [kidF, b64, enc_len _ 0 _ (by decide), List.length_take, macF_len]; decide
theorem tv_zero {A : Nat} (h : A < two256) : (tv A == ((0 : UInt64), (0 : UInt64), (0 : UInt64), (0 : UInt64))) = (A == 0) := by
  rw [show ((0 : UInt64), (0 : UInt64), (0 : UInt64), (0 : UInt64)) = tv 0 from rfl, beq_w4, nv_tv h, nv_tv two256_pos]
theorem dF_lt (s : List UInt8) : dF s < two256 := Nat.lt_of_lt_of_le (Nat.mod_lt _ (modN_pos 1)) (Nat.le_of_lt (mod_modN 1).2)
theorem made_ok {s : List UInt8} (h : s.length ≤ 68719460000) : sign_made_p s = some (some (keyOf s)) := by
  have hk : ∀ k : List UInt8, k.length ≤ 68719470000 → hash_Mac_p k s = some (macF k s) := fun k hk => mac_ok4 hk h
  unfold sign_made_p
  have hr : field_Reduce_p 1 (macF [107, 101, 121] s) = some (tv (dF s)) := by
    unfold field_Reduce_p
    rw [chk_ok (decide_eq_true (by rw [macF_len]; decide))]; rfl
  rw [hk _ (by decide), some_bind, hr, some_bind]
  have e : (Option.bind (sign_zero_p) fun y3 => bif (((tv (dF s)) : UInt64 × UInt64 × UInt64 × UInt64) == (y3 : UInt64 × UInt64 × UInt64 × UInt64)) then (some (((1 : UInt64), (0 : UInt64), (0 : UInt64), (0 : UInt64)))) else (some (((tv (dF s)).1, (tv (dF s)).2.1, (tv (dF s)).2.2.1, (tv (dF s)).2.2.2)))) = some (prF s) := by
    unfold sign_zero_p
    rw [some_bind, tv_zero (dF_lt s), prF]
    cases dF s == 0 <;> rfl
  rw [e, some_bind, hk _ (by decide), some_bind, show (9 : Int) = ((9 : Nat) : Int) from rfl, subH_ok (by rw [macF_len]; decide), some_bind, base64_run _ (by rw [List.length_take, macF_len]; decide), some_bind, hk _ (by decide), some_bind]
  rfl
/-! ### Rings -/
def ringF (L : List (List UInt8)) : List (Option Ky) := L.map fun s => some (keyOf s)
theorem ringF_len (L : List (List UInt8)) : (ringF L).length = L.length := by simp [ringF]
theorem ringF_at {L : List (List UInt8)} {k : Nat} (h : k < L.length) : idx (ringF L) (k : Int) = some (some (keyOf L[k])) := by
  rw [idx_ok rfl (by rw [ringF_len]; exact h)]; simp [ringF]
theorem newRing_ok {s : List UInt8} (h : s.length ≤ 68719460000) : sign_NewRing_p s = some (ringF [s]) := by
  unfold sign_NewRing_p; rw [made_ok h]; rfl
def plF (L : List (List UInt8)) (kid : List UInt8) : Nat := L.findIdx fun s => kidF s == kid
def findF (L : List (List UInt8)) (kid : List UInt8) : Option (List UInt8) := L[plF L kid]?
theorem find_ok {L : List (List UInt8)} (hL : L.length < 1000000) (kid : List UInt8) : sign_Ring_find_p (some (ringF L)) kid = some ((findF L kid).map keyOf) := by
  have hn : plF L kid ≤ L.length := List.findIdx_le_length
  have key : iter (sign_Ring_find_b0 kid (ringF L)) 0 = some (match findF L kid with | some s => .inl (some (keyOf s)) | none => .inr ()) := by
    refine iter_run (fun k => (k : Int)) (plF L kid) (by omega) _ (fun k hk => ?_) ?_
    · unfold sign_Ring_find_b0
      have hk2 : k < L.length := by omega
      rw [dec_t (by rw [ringF_len]; omega), ringF_at hk2, some_bind, some_bind, cond_f (by simpa [keyOf] using List.not_of_lt_findIdx hk), w64s k (by omega)]
    · unfold sign_Ring_find_b0
      by_cases h : plF L kid < L.length
      · rw [dec_t (by rw [ringF_len]; omega), ringF_at h, some_bind, some_bind, cond_t (show ((keyOf (L[plF L kid]'h)).2.1 == kid) = true from List.findIdx_getElem (w := h)), findF, List.getElem?_eq_getElem h]
      · rw [dec_f (by rw [ringF_len]; omega), findF, List.getElem?_eq_none (by omega)]
  unfold sign_Ring_find_p
  rw [some_bind, key, some_bind]
  cases findF L kid <;> rfl
theorem newest_ok {L : List (List UInt8)} {s : List UInt8} (hL : L.length < 1000000) : sign_Ring_newest_p (some (ringF (L ++ [s]))) = some (some (keyOf s)) := by
  unfold sign_Ring_newest_p
  have hl : ((L ++ [s]).length : Nat) = L.length + 1 := by simp
  rw [some_bind, some_bind, ringF_len, hl, w64_of (by omega) (by omega), show (((L.length + 1 : Nat)) : Int) - 1 = ((L.length : Nat) : Int) by omega, ringF_at (by omega), some_bind]
  simp
theorem turn_ok {L : List (List UInt8)} {s : List UInt8} (hL : L.length < 1000000) (h : s.length ≤ 68719460000) : sign_Ring_Turn_p (ringF L) s =
    some (bif (findF L (kidF s)).isSome then (80, ringF L) else bif L.length == 8 then (82, ringF L) else (0, ringF (L ++ [s]))) := by
  unfold sign_Ring_Turn_p
  rw [made_ok h, some_bind, some_bind, show (keyOf s).2.1 = kidF s from rfl, find_ok hL, some_bind]
  cases e : findF L (kidF s) with
  | some q => rfl
  | none =>
    simp only [Option.map_none, Option.isNone_none, Bool.not_true, cond_false, Option.isSome_none]
    rw [ringF_len]
    by_cases h8 : L.length = 8
    · rw [cond_t (by simp [h8]), cond_t (by simp [h8])]
    · rw [cond_f (by rw [beq_eq_false_iff_ne]; omega), cond_f (by rw [beq_eq_false_iff_ne]; exact h8), app_ok (by rw [ringF_len, List.length_cons, List.length_nil]; omega), some_bind]
      simp [ringF]
theorem kids_ok {L : List (List UInt8)} (hL : L.length < 1000000) : sign_Ring_Kids_p (some (ringF L)) = some (L.map kidF) := by
  have key : iter (sign_Ring_Kids_b0 (ringF L)) (([] : List (List UInt8)), 0) = some (L.map kidF) := by
    refine iter_run (fun k => ((L.take k).map kidF, (k : Int))) L.length (by omega) _ (fun k hk => ?_) ?_
    · unfold sign_Ring_Kids_b0
      rw [dec_t (by rw [ringF_len]; omega)]
      simp only []
      rw [ringF_at hk, some_bind, some_bind, app_ok (by simp; omega), some_bind, w64s k (by omega), take_succ hk, List.map_append]
      rfl
    · unfold sign_Ring_Kids_b0
      rw [dec_f (by rw [ringF_len]; omega), List.take_length]
  unfold sign_Ring_Kids_p
  rw [some_bind, key]; rfl
theorem rmac_ok {L : List (List UInt8)} {s m : List UInt8} (hL : L.length < 1000000) (hm : m.length ≤ 68719460000) : sign_Ring_Mac_p (some (ringF (L ++ [s]))) m = some (kidF s, macF (mkF s) m) := by
  unfold sign_Ring_Mac_p
  rw [newest_ok hL, some_bind, some_bind, some_bind, show (keyOf s).2.2.1 = mkF s from rfl, mac_ok4 (by rw [mkF, macF_len]; decide) hm]
  rfl
theorem vouch_ok {L : List (List UInt8)} {kid m c : List UInt8} (hL : L.length < 1000000) (hm : m.length ≤ 68719460000) (hc : c.length ≤ 68719476736) :
    sign_Ring_Vouch_p (some (ringF L)) kid m c = some (match findF L kid with | some s => macF (mkF s) m == c | none => false) := by
  unfold sign_Ring_Vouch_p
  rw [find_ok hL, some_bind]
  cases e : findF L kid with
  | none => rfl
  | some s =>
    simp only [Option.map_some, Option.isNone_some, Bool.not_false, cond_true, some_bind]
    rw [show (keyOf s).2.2.1 = mkF s from rfl, mac_ok4 (by rw [mkF, macF_len]; decide) hm, some_bind, same_ok (by rw [macF_len]; decide) hc]
    rfl
end Go.Proofs.Ytmbcolbbekbccaa
