/- What the reference makes of base64 texts, writing. Conditions: as each theorem says. -/
import Derived.Test.YtdomaggikbmooaaDoorPsf
namespace Go.Proofs.YtdomaggikbmooaaDoor
open Go Go.RowKit
def bitN (x : List UInt8) (q : Nat) : Nat := (x.getD (q / 8) 0).toNat / 2 ^ (7 - q % 8) % 2
def accV (f : Nat → Nat) : Nat → Nat
  | 0 => 0
  | j + 1 => 2 * accV f j + f j
theorem accV_lt {f : Nat → Nat} (h : ∀ j, f j < 2) : ∀ j, accV f j < 2 ^ j
  | 0 => by simp [accV]
  | j + 1 => by
    have h1 := accV_lt h j
    have h2 := h j
    have h3 := Nat.pow_succ 2 j
    unfold accV
    omega
theorem bit_byte (c : UInt8) (r : Nat) (h : r < 8) : bits .and .i64 (((i8 (shrI .u8 ((c).toNat : Int) (7 - (r : Int)))).toNat : Int)) 1 = ((c.toNat / 2 ^ (7 - r) % 2 : Nat) : Int) := by
  have := byte_all (fun c => (List.range 8).all fun r => decide (bits .and .i64 (((i8 (shrI .u8 ((c).toNat : Int) (7 - (r : Int)))).toNat : Int)) 1 = ((c.toNat / 2 ^ (7 - r) % 2 : Nat) : Int))) (by decide +kernel) c
  exact of_decide_eq_true (List.all_eq_true.1 this r (List.mem_range.2 h))
theorem bit_run (x : List UInt8) (hx : x.length ≤ 4194304) (q : Nat) (hq : q ≤ 100000000) : seneschalref01_bit_p x (q : Int) = some ((bitN x q : Nat) : Int) := by
  unfold seneschalref01_bit_p
  rw [w64_of (x := (8 : Int) * (x.length : Int)) (by omega) (by omega)]
  have e1 : Int.tdiv (q : Int) 8 = ((q / 8 : Nat) : Int) := by rw [show (8 : Int) = ((8 : Nat) : Int) by rfl, Int.ofNat_tdiv]
  have e2 : Int.tmod (q : Int) 8 = ((q % 8 : Nat) : Int) := by rw [show (8 : Int) = ((8 : Nat) : Int) by rfl, ← Int.ofNat_tmod]
  by_cases h : 8 * x.length ≤ q
  · rw [dec_t (by omega)]
    have : x.getD (q / 8) 0 = 0 := by
      rw [List.getD_eq_getElem?_getD, List.getElem?_eq_none (by omega)]; rfl
    unfold bitN; rw [this]; simp
  · rw [dec_f (by omega), e1, e2, w64_of (x := ((q / 8 : Nat) : Int)) (by omega) (by omega), w64_of (x := (7 : Int) - ((q % 8 : Nat) : Int)) (by omega) (by omega)]
    have hl : q / 8 < x.length := by omega
    rw [idx_ok rfl hl, some_bind, chk_ok (show decide ((0 : Int) ≤ 7 - ((q % 8 : Nat) : Int)) = true by rw [decide_eq_true_eq]; omega), some_bind, bit_byte _ _ (by omega)]
    congr 2
    unfold bitN
    rw [List.getD_eq_getElem?_getD, List.getElem?_eq_getElem hl]; rfl
theorem six_run (x : List UInt8) (hx : x.length ≤ 4194304) (p : Nat) (hp : p ≤ 90000000) (out : List UInt8) : iter (seneschalref01_Base64_b1 x ((p : Int), out)) (0, 0) = some ((accV (fun j => bitN x (p + j)) 6 : Nat) : Int) := by
  have hb : ∀ j, bitN x (p + j) < 2 := fun j => Nat.mod_lt _ (by decide)
  refine iter_run (fun j : Nat => (((accV (fun j => bitN x (p + j)) j : Nat) : Int), (j : Int))) 6 (by omega) _ (fun j hj => ?_) ?_
  · have h1 := accV_lt (f := fun j => bitN x (p + j)) hb j
    have h2 : 2 ^ j ≤ 2 ^ 6 := Nat.pow_le_pow_right (by decide) (by omega)
    have h3 := hb j
    have hv : accV (fun j => bitN x (p + j)) (j + 1) = 2 * accV (fun j => bitN x (p + j)) j + bitN x (p + j) := rfl
    unfold seneschalref01_Base64_b1
    dsimp only
    rw [dec_t (show (j : Int) < 6 by omega), w64_of (x := (p : Int) + (j : Int)) (by omega) (by omega), show (p : Int) + (j : Int) = ((p + j : Nat) : Int) by omega, bit_run x hx (p + j) (by omega), some_bind,
      w64_of (x := (2 : Int) * _) (by omega) (by omega), w64_of (by omega) (by omega), w64_of (by omega) (by omega), hv]
    rw [show (2 : Int) * ((accV (fun j => bitN x (p + j)) j : Nat) : Int) + ((bitN x (p + j) : Nat) : Int) = ((2 * accV (fun j => bitN x (p + j)) j + bitN x (p + j) : Nat) : Int) by omega, show (j : Int) + 1 = ((j + 1 : Nat) : Int) by omega]
  · unfold seneschalref01_Base64_b1
    dsimp only
    rw [dec_f (by decide)]
theorem bitN_0 (x : List UInt8) (k : Nat) : bitN x (8 * k) = (x.getD k 0).toNat / 128 % 2 := by
  unfold bitN; rw [show 8 * k / 8 = k by omega, show 8 * k % 8 = 0 by omega]
theorem bitN_j (x : List UInt8) (k j : Nat) (h : j < 8) : bitN x (8 * k + j) = (x.getD k 0).toNat / 2 ^ (7 - j) % 2 := by
  unfold bitN; rw [show (8 * k + j) / 8 = k by omega, show (8 * k + j) % 8 = j by omega]
theorem ch_idx (n : Nat) (h : n < 64) : idx alA (n : Int) = some (ch n) := by
  rw [idx_ok rfl (show n < alA.length from h)]
  congr 1
  unfold ch
  rw [List.getD_eq_getElem?_getD, List.getElem?_eq_getElem (show n < alA.length from h)]; rfl
def encR : Nat → Nat → List UInt8 → List UInt8
  | 3, a, l => ch a :: enc 0 0 l
  | m, a, l => enc m a l
theorem ref64_step (x : List UInt8) (hx : x.length ≤ 4194304) (p : Nat) (hp : p < 8 * x.length) (out : List UInt8) (hl : out.length ≤ 8 * x.length) :
    seneschalref01_Base64_b0 x ((p : Int), out) = some (.inl (((p + 6 : Nat) : Int), out ++ [ch (accV (fun j => bitN x (p + j)) 6)])) := by
  have hb : ∀ j, bitN x (p + j) < 2 := fun j => Nat.mod_lt _ (by decide)
  have h1 := accV_lt (f := fun j => bitN x (p + j)) hb 6
  unfold seneschalref01_Base64_b0
  dsimp only
  rw [w64_of (x := (8 : Int) * (x.length : Int)) (by omega) (by omega), dec_t (by omega), six_run x hx p (by omega) out]
  simp only [some_bind]
  rw [ch_idx _ (by omega), some_bind, app_ok (by simp only [List.length_cons, List.length_nil]; omega), w64_of (by omega) (by omega)]
  rfl
theorem ref64_end (x : List UInt8) (hx : x.length ≤ 4194304) (p : Nat) (hp : ¬ p < 8 * x.length) (out : List UInt8) : seneschalref01_Base64_b0 x ((p : Int), out) = some (.inr out) := by
  unfold seneschalref01_Base64_b0
  dsimp only
  rw [w64_of (x := (8 : Int) * (x.length : Int)) (by omega) (by omega), dec_f (by omega)]
theorem getD_at {x : List UInt8} {k : Nat} (h : k < x.length) : x.getD k 0 = x[k] := by
  rw [List.getD_eq_getElem?_getD, List.getElem?_eq_getElem h]; rfl
theorem getD_out {x : List UInt8} {k : Nat} (h : ¬ k < x.length) : x.getD k 0 = 0 := by
  rw [List.getD_eq_getElem?_getD, List.getElem?_eq_none (by omega)]; rfl
theorem six_0 (x : List UInt8) (k : Nat) : accV (fun j => bitN x (8 * k + j)) 6 = (x.getD k 0).toNat / 4 := by
  have := (x.getD k 0).toNat_lt
  simp only [accV, bitN_j x k 0 (by decide), bitN_j x k 1 (by decide), bitN_j x k 2 (by decide), bitN_j x k 3 (by decide), bitN_j x k 4 (by decide), bitN_j x k 5 (by decide)]
  simp only [Nat.sub_zero, Nat.reduceSub, Nat.reducePow]
  omega
theorem six_1 (x : List UInt8) (k : Nat) : accV (fun j => bitN x (8 * k + 6 + j)) 6 = (x.getD k 0).toNat % 4 * 16 + (x.getD (k + 1) 0).toNat / 16 := by
  have := (x.getD k 0).toNat_lt
  have := (x.getD (k + 1) 0).toNat_lt
  have e : ∀ j, 2 ≤ j → 8 * k + 6 + j = 8 * (k + 1) + (j - 2) := fun j hj => by omega
  simp only [accV, e 2 (by decide), e 3 (by decide), e 4 (by decide), e 5 (by decide), Nat.add_assoc, Nat.reduceAdd, Nat.reduceSub]
  rw [bitN_j x k 6 (by decide), bitN_j x k 7 (by decide), bitN_j x (k + 1) 0 (by decide), bitN_j x (k + 1) 1 (by decide), bitN_j x (k + 1) 2 (by decide), bitN_j x (k + 1) 3 (by decide)]
  simp only [Nat.sub_zero, Nat.sub_self, Nat.reduceSub, Nat.reducePow]
  omega
theorem six_2 (x : List UInt8) (k : Nat) : accV (fun j => bitN x (8 * k + 4 + j)) 6 = (x.getD k 0).toNat % 16 * 4 + (x.getD (k + 1) 0).toNat / 64 := by
  have := (x.getD k 0).toNat_lt
  have := (x.getD (k + 1) 0).toNat_lt
  have e : ∀ j, 4 ≤ j → 8 * k + 4 + j = 8 * (k + 1) + (j - 4) := fun j hj => by omega
  simp only [accV, e 4 (by decide), e 5 (by decide), Nat.add_assoc, Nat.reduceAdd, Nat.reduceSub]
  rw [bitN_j x k 4 (by decide), bitN_j x k 5 (by decide), bitN_j x k 6 (by decide), bitN_j x k 7 (by decide), bitN_j x (k + 1) 0 (by decide), bitN_j x (k + 1) 1 (by decide)]
  simp only [Nat.sub_zero, Nat.sub_self, Nat.reduceSub, Nat.reducePow]
  omega
theorem six_3 (x : List UInt8) (k : Nat) : accV (fun j => bitN x (8 * k + 2 + j)) 6 = (x.getD k 0).toNat % 64 := by
  have := (x.getD k 0).toNat_lt
  simp only [accV, Nat.add_assoc, Nat.reduceAdd]
  rw [bitN_j x k 2 (by decide), bitN_j x k 3 (by decide), bitN_j x k 4 (by decide), bitN_j x k 5 (by decide), bitN_j x k 6 (by decide), bitN_j x k 7 (by decide)]
  simp only [Nat.sub_zero, Nat.sub_self, Nat.reduceSub, Nat.reducePow]
  omega
theorem refBase64_run (x : List UInt8) (hx : x.length ≤ 4194304) : seneschalref01_Base64_p x = some (b64 x) := by
  have key : iter (seneschalref01_Base64_b0 x) (0, []) = some (b64 x) := by
    refine iter_eq (fun s => ∃ p : Nat, s.1 = (p : Int) ∧ p ≤ 8 * x.length + 6 ∧ s.2.length ≤ p ∧ ((8 * x.length ≤ p ∧ b64 x = s.2) ∨ (∃ k, p = 8 * k ∧ k < x.length ∧ b64 x = s.2 ++ enc 0 0 (x.drop k)) ∨ (∃ k, p = 8 * k + 6 ∧ k < x.length ∧ b64 x = s.2 ++ enc 1 ((x.getD k 0).toNat % 4) (x.drop (k + 1))) ∨
      (∃ k, p = 8 * k + 4 ∧ k < x.length ∧ b64 x = s.2 ++ enc 2 ((x.getD k 0).toNat % 16) (x.drop (k + 1))) ∨ (∃ k, p = 8 * k + 2 ∧ k < x.length ∧ b64 x = s.2 ++ ch ((x.getD k 0).toNat % 64) :: enc 0 0 (x.drop (k + 1))))) (fun s => 8 * x.length - s.1.toNat) _ (0, []) ⟨0, rfl, by omega, by simp, ?_⟩ (by show 8 * x.length - 0 < _; omega) ?_
    · by_cases h : 0 < x.length
      · right; left; exact ⟨0, rfl, h, by simp [b64]⟩
      · left
        have : x = [] := List.length_eq_zero_iff.1 (by omega)
        subst this
        exact ⟨by simp, rfl⟩
    · rintro ⟨i, out⟩ ⟨p, e, hp, hL, hI⟩
      dsimp only at e hL hI
      subst e
      by_cases h : p < 8 * x.length
      · left
        refine ⟨_, ref64_step x hx p h out (by omega), ⟨p + 6, rfl, by omega, by simp only [List.length_append, List.length_cons, List.length_nil]; omega, ?_⟩, by dsimp only; omega⟩
        dsimp only
        rcases hI with ⟨h1, _⟩ | ⟨k, rfl, hk, h2⟩ | ⟨k, rfl, hk, h2⟩ | ⟨k, rfl, hk, h2⟩ | ⟨k, rfl, hk, h2⟩
        · omega
        · right; right; left
          refine ⟨k, by omega, hk, ?_⟩
          rw [six_0, h2, drop_at hk, getD_at hk]; simp [enc]
        · rw [six_1]
          by_cases hk1 : k + 1 < x.length
          · right; right; right; left
            refine ⟨k + 1, by omega, hk1, ?_⟩
            rw [h2, drop_at hk1, getD_at hk1]; simp [enc]
          · left
            refine ⟨by omega, ?_⟩
            rw [h2, getD_out hk1, List.drop_eq_nil_of_le (by omega)]; simp [enc]
        · rw [six_2]
          by_cases hk1 : k + 1 < x.length
          · right; right; right; right
            refine ⟨k + 1, by omega, hk1, ?_⟩
            rw [h2, drop_at hk1, getD_at hk1]; simp [enc]
          · left
            refine ⟨by omega, ?_⟩
            rw [h2, getD_out hk1, List.drop_eq_nil_of_le (by omega)]; simp [enc]
        · rw [six_3]
          by_cases hk1 : k + 1 < x.length
          · right; left
            refine ⟨k + 1, by omega, hk1, ?_⟩
            rw [h2]; simp
          · left
            refine ⟨by omega, ?_⟩
            rw [h2, List.drop_eq_nil_of_le (by omega)]; simp [enc]
      · right
        rw [ref64_end x hx p h out]
        rcases hI with ⟨_, h1⟩ | ⟨k, rfl, hk, h2⟩ | ⟨k, rfl, hk, h2⟩ | ⟨k, rfl, hk, h2⟩ | ⟨k, rfl, hk, h2⟩
        · rw [h1]
        all_goals omega
  rw [seneschalref01_Base64_p, key]; rfl
end Go.Proofs.YtdomaggikbmooaaDoor
