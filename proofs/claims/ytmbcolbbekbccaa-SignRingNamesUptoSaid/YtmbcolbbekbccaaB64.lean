/- Base64 texts: what package codec and its reference write. Conditions: as each theorem says. -/
import Derived.Test.YtmbcolbbekbccaaCdK
import Derived.Test.YtmbcolbbekbccaaPlb
namespace Go.Proofs.Ytmbcolbbekbccaa
open Go Go.RowKit
theorem writeByte_ok {l : List UInt8} {b : UInt8} (h : l.length < 68719476736) : Builder_WriteByte_p l b = some (l ++ [b]) := by
  have h' : l.length + [b].length ≤ 68719476736 := by simp only [List.length_cons, List.length_nil]; omega
  simp only [Builder_WriteByte_p, Builder_copyCheck_p, some_bind, app_ok h']
section
variable {σ β : Type} {body : σ → Option (σ ⊕ β)}
theorem iter_end {s : σ} {b : β} (h : body s = some (.inr b)) : iter body s = some b := iterN_end (k := 1099511627775) h
theorem iter_1 {s s1 : σ} {b : β} (h : body s = some (.inl s1)) (h1 : body s1 = some (.inr b)) : iter body s = some b := by
  show iterN body (1099511627774 + 1 + 1) s = _
  rw [iterN_step h, iterN_end h1]
theorem iter_2 {s s1 s2 : σ} {b : β} (h : body s = some (.inl s1)) (h1 : body s1 = some (.inl s2)) (h2 : body s2 = some (.inr b)) : iter body s = some b := by
  show iterN body (1099511627773 + 1 + 1 + 1) s = _
  rw [iterN_step h, iterN_step h1, iterN_end h2]
end
abbrev alA : List UInt8 := [65, 66, 67, 68, 69, 70, 71, 72, 73, 74, 75, 76, 77, 78, 79, 80, 81, 82, 83, 84, 85, 86, 87, 88, 89, 90, 97, 98, 99, 100, 101, 102, 103, 104, 105, 106, 107, 108, 109, 110, 111, 112, 113, 114, 115, 116, 117, 118, 119, 120, 121, 122, 48, 49, 50, 51, 52, 53, 54, 55, 56, 57, 45, 95]
def ch (n : Nat) : UInt8 := alA.getD n 0
/-- What is still to be written: m pairs of bits are pending, of value a. -/
def enc : Nat → Nat → List UInt8 → List UInt8
  | 0, _, [] => []
  | 1, a, [] => [ch (a * 16)]
  | _ + 2, a, [] => [ch (a * 4)]
  | 0, _, c :: l => ch (c.toNat / 4) :: enc 1 (c.toNat % 4) l
  | 1, a, c :: l => ch (a * 16 + c.toNat / 16) :: enc 2 (c.toNat % 16) l
  | _ + 2, a, c :: l => ch (a * 4 + c.toNat / 64) :: ch (c.toNat % 64) :: enc 0 0 l
def b64 (x : List UInt8) : List UInt8 := enc 0 0 x
theorem enc_len : ∀ (x : List UInt8) (m a : Nat), m ≤ 2 → (enc m a x).length = (4 * x.length + m + 2) / 3
  | [], 0, a, _ => rfl
  | [], 1, a, _ => rfl
  | [], 2, a, _ => rfl
  | c :: l, 0, a, _ => by simp only [enc, List.length_cons, enc_len l 1 _ (by omega)]; omega
  | c :: l, 1, a, _ => by simp only [enc, List.length_cons, enc_len l 2 _ (by omega)]; omega
  | c :: l, 2, a, _ => by simp only [enc, List.length_cons, enc_len l 0 _ (by omega)]; omega
  | [], m + 3, _, h => by omega
  | _ :: _, m + 3, _, h => by omega
/-! ### Writing: the package's own -/
abbrev vv (a : Int) (c : UInt8) : Int := bits .or .i64 (shlI .i64 a 8) ((c.toNat : Nat) : Int)
theorem own0 (c : UInt8) : idx alA (bits .and .i64 (shrI .i64 (vv 0 c) 2) 63) = some (ch (c.toNat / 4)) ∧ bits .and .i64 (vv 0 c) (w64 (shlI .i64 1 2 - 1)) = ((c.toNat % 4 : Nat) : Int) := by
  have := byte_all (fun c => decide (idx alA (bits .and .i64 (shrI .i64 (vv 0 c) 2) 63) = some (ch (c.toNat / 4)) ∧ bits .and .i64 (vv 0 c) (w64 (shlI .i64 1 2 - 1)) = ((c.toNat % 4 : Nat) : Int))) (by decide +kernel) c
  exact of_decide_eq_true this
theorem own1 (a : Nat) (h : a < 4) (c : UInt8) : idx alA (bits .and .i64 (shrI .i64 (vv (a : Int) c) 4) 63) = some (ch (a * 16 + c.toNat / 16)) ∧ bits .and .i64 (vv (a : Int) c) (w64 (shlI .i64 1 4 - 1)) = ((c.toNat % 16 : Nat) : Int) := by
  have := byte_all (fun c => (List.range 4).all fun a => decide (idx alA (bits .and .i64 (shrI .i64 (vv (a : Int) c) 4) 63) = some (ch (a * 16 + c.toNat / 16)) ∧ bits .and .i64 (vv (a : Int) c) (w64 (shlI .i64 1 4 - 1)) = ((c.toNat % 16 : Nat) : Int))) (by decide +kernel) c
  exact of_decide_eq_true (List.all_eq_true.1 this a (List.mem_range.2 h))
theorem own2 (a : Nat) (h : a < 16) (c : UInt8) : idx alA (bits .and .i64 (shrI .i64 (vv (a : Int) c) 6) 63) = some (ch (a * 4 + c.toNat / 64)) ∧ idx alA (bits .and .i64 (shrI .i64 (vv (a : Int) c) 0) 63) = some (ch (c.toNat % 64)) ∧ bits .and .i64 (vv (a : Int) c) (w64 (shlI .i64 1 0 - 1)) = 0 := by
  have := byte_all (fun c => (List.range 16).all fun a => decide (idx alA (bits .and .i64 (shrI .i64 (vv (a : Int) c) 6) 63) = some (ch (a * 4 + c.toNat / 64)) ∧ idx alA (bits .and .i64 (shrI .i64 (vv (a : Int) c) 0) 63) = some (ch (c.toNat % 64)) ∧ bits .and .i64 (vv (a : Int) c) (w64 (shlI .i64 1 0 - 1)) = 0)) (by decide +kernel) c
  exact of_decide_eq_true (List.all_eq_true.1 this a (List.mem_range.2 h))
theorem b1_step (A B C : Int) (O out : List UInt8) (c e : UInt8) (t u : Int) (ht : 6 ≤ t) (htu : w64 (t - 6) = u) (hu : 0 ≤ u) (he : idx alA (bits .and .i64 (shrI .i64 (vv A c) u) 63) = some e) (hl : out.length < 68719476736) :
    codec_Base64_b1 (A, B, C, O) c (t, out) = some (.inl (u, out ++ [e])) := by
  unfold codec_Base64_b1
  dsimp only
  rw [dec_t ht, htu, chk_ok (by simpa using hu), some_bind, he, some_bind, writeByte_ok hl, some_bind]
theorem b1_end (A B C : Int) (O out : List UInt8) (c : UInt8) (t : Int) (ht : ¬ 6 ≤ t) : codec_Base64_b1 (A, B, C, O) c (t, out) = some (.inr (t, out)) := by
  unfold codec_Base64_b1
  dsimp only
  rw [dec_f ht]
theorem last1 (a : Nat) (h : a < 4) : idx alA (bits .and .i64 (shlI .i64 (a : Int) 4) 63) = some (ch (a * 16)) := by
  have : (List.range 4).all (fun a => decide (idx alA (bits .and .i64 (shlI .i64 (a : Int) 4) 63) = some (ch (a * 16)))) = true := by decide +kernel
  exact of_decide_eq_true (List.all_eq_true.1 this a (List.mem_range.2 h))
theorem last2 (a : Nat) (h : a < 16) : idx alA (bits .and .i64 (shlI .i64 (a : Int) 2) 63) = some (ch (a * 4)) := by
  have : (List.range 16).all (fun a => decide (idx alA (bits .and .i64 (shlI .i64 (a : Int) 2) 63) = some (ch (a * 4)))) = true := by decide +kernel
  exact of_decide_eq_true (List.all_eq_true.1 this a (List.mem_range.2 h))
theorem base64_run (x : List UInt8) (hx : x.length ≤ 4194304) : codec_Base64_p x = some (b64 x) := by
  have key : ∃ r, iter (codec_Base64_b0 x) (0, 0, 0, []) = some r ∧ ∃ m a : Nat, m ≤ 2 ∧ a < 4 ^ m ∧ r.1 = (a : Int) ∧ r.2.1 = ((2 * m : Nat) : Int) ∧ b64 x = r.2.2 ++ enc m a [] ∧ r.2.2.length ≤ 2 * x.length := by
    refine iter_ind (fun s => ∃ k m a : Nat, m ≤ 2 ∧ a < 4 ^ m ∧ k ≤ x.length ∧ s.1 = (a : Int) ∧ s.2.1 = ((2 * m : Nat) : Int) ∧ s.2.2.1 = (k : Int) ∧ b64 x = s.2.2.2 ++ enc m a (x.drop k) ∧ s.2.2.2.length ≤ 2 * k) (fun s => x.length - s.2.2.1.toNat) _ (0, 0, 0, []) ⟨0, 0, 0, by omega, by decide, by omega, rfl, rfl, rfl, by simp [b64], by simp⟩ (by show x.length - 0 < _; omega) ?_
    rintro ⟨A, B, C, out⟩ ⟨k, m, a, hm, ha, hk, e1, e2, e3, hI, hL⟩
    dsimp only at e1 e2 e3 hI hL
    subst e1 e2 e3
    by_cases h : k < x.length
    · left
      have ei : idx x (k : Int) = some x[k] := idx_ok rfl h
      rw [drop_at h] at hI
      unfold codec_Base64_b0
      dsimp only
      rw [dec_t (show (k : Int) < (x.length : Int) by omega), ei, some_bind, w64_of (x := (k : Int) + 1) (by omega) (by omega)]
      match m, hm, ha with
      | 0, _, ha =>
        obtain rfl : a = 0 := by simpa using ha
        have hr := own0 x[k]
        have e : w64 (((2 * 0 : Nat) : Int) + 8) = 8 := by decide
        have hi : iter (codec_Base64_b1 (((0 : Nat) : Int), ((2 * 0 : Nat) : Int), (k : Int), out) x[k]) (8, out) = some (2, out ++ [ch (x[k].toNat / 4)]) :=
          iter_1 (b1_step _ _ _ _ _ _ _ 8 2 (by decide) (by decide) (by decide) hr.1 (by omega)) (b1_end _ _ _ _ _ _ 2 (by decide))
        rw [e, hi]
        simp only [some_bind]
        refine ⟨(((x[k].toNat % 4 : Nat) : Int), 2, (k : Int) + 1, out ++ [ch (x[k].toNat / 4)]), ?_, ⟨k + 1, 1, x[k].toNat % 4, by omega, by omega, by omega, rfl, rfl, rfl, ?_, ?_⟩, ?_⟩
        · rw [chk_ok (show decide ((0 : Int) ≤ 2) = true by decide), some_bind]
          have := hr.2
          rw [← this]; rfl
        · rw [hI]; simp [enc]
        · simp only [List.length_append, List.length_cons, List.length_nil]; omega
        · show x.length - ((k : Int) + 1).toNat < x.length - ((k : Int)).toNat; omega
      | 1, _, ha =>
        have ha : a < 4 := by simpa using ha
        have hr := own1 a ha x[k]
        have e : w64 (((2 * 1 : Nat) : Int) + 8) = 10 := by decide
        have hi : iter (codec_Base64_b1 ((a : Int), ((2 * 1 : Nat) : Int), (k : Int), out) x[k]) (10, out) = some (4, out ++ [ch (a * 16 + x[k].toNat / 16)]) :=
          iter_1 (b1_step _ _ _ _ _ _ _ 10 4 (by decide) (by decide) (by decide) hr.1 (by omega)) (b1_end _ _ _ _ _ _ 4 (by decide))
        rw [e, hi]
        simp only [some_bind]
        refine ⟨(((x[k].toNat % 16 : Nat) : Int), 4, (k : Int) + 1, out ++ [ch (a * 16 + x[k].toNat / 16)]), ?_, ⟨k + 1, 2, x[k].toNat % 16, by omega, by omega, by omega, rfl, rfl, rfl, ?_, ?_⟩, ?_⟩
        · rw [chk_ok (show decide ((0 : Int) ≤ 4) = true by decide), some_bind]
          have := hr.2
          rw [← this]; rfl
        · rw [hI]; simp [enc]
        · simp only [List.length_append, List.length_cons, List.length_nil]; omega
        · show x.length - ((k : Int) + 1).toNat < x.length - ((k : Int)).toNat; omega
      | 2, _, ha =>
        have ha : a < 16 := by simpa using ha
        have hr := own2 a ha x[k]
        have e : w64 (((2 * 2 : Nat) : Int) + 8) = 12 := by decide
        have hi : iter (codec_Base64_b1 ((a : Int), ((2 * 2 : Nat) : Int), (k : Int), out) x[k]) (12, out) = some (0, out ++ [ch (a * 4 + x[k].toNat / 64)] ++ [ch (x[k].toNat % 64)]) :=
          iter_2 (b1_step _ _ _ _ _ _ _ 12 6 (by decide) (by decide) (by decide) hr.1 (by omega)) (b1_step _ _ _ _ _ _ _ 6 0 (by decide) (by decide) (by decide) hr.2.1 (by simp only [List.length_append, List.length_cons, List.length_nil]; omega)) (b1_end _ _ _ _ _ _ 0 (by decide))
        rw [e, hi]
        simp only [some_bind]
        refine ⟨(0, 0, (k : Int) + 1, out ++ [ch (a * 4 + x[k].toNat / 64)] ++ [ch (x[k].toNat % 64)]), ?_, ⟨k + 1, 0, 0, by omega, by decide, by omega, rfl, rfl, rfl, ?_, ?_⟩, ?_⟩
        · rw [chk_ok (show decide ((0 : Int) ≤ 0) = true by decide), some_bind]
          have := hr.2.2
          simp only [some_bind]
          rw [show bits .and .i64 (bits .or .i64 (shlI .i64 (a : Int) 8) ((x[k].toNat : Nat) : Int)) (w64 (shlI .i64 1 0 - 1)) = 0 from this]
        · rw [hI]; simp [enc]
        · simp only [List.length_append, List.length_cons, List.length_nil]; omega
        · show x.length - ((k : Int) + 1).toNat < x.length - ((k : Int)).toNat; omega
    · right
      have : k = x.length := by omega
      subst this
      refine ⟨((a : Int), ((2 * m : Nat) : Int), out), ?_, m, a, hm, ha, rfl, rfl, ?_, hL⟩
      · unfold codec_Base64_b0
        dsimp only
        rw [dec_f (by omega)]
      · rw [hI, List.drop_length]
  obtain ⟨⟨A, B, out⟩, hr, m, a, hm, ha, e1, e2, hI, hL⟩ := key
  dsimp only at e1 e2 hI hL
  subst e1 e2
  rw [codec_Base64_p, hr]
  simp only [some_bind]
  match m, hm, ha with
  | 0, _, ha =>
    rw [dec_f (by decide), some_bind, chk_ok (by rw [decide_eq_true_eq]; omega), some_bind, hI]; simp [enc]
  | 1, _, ha =>
    have ha : a < 4 := by simpa using ha
    have e : w64 ((6 : Int) - ((2 * 1 : Nat) : Int)) = 4 := by decide
    rw [dec_t (by decide), e, chk_ok (by decide), some_bind, last1 a ha, some_bind, writeByte_ok (by omega), some_bind, some_bind, chk_ok (by rw [decide_eq_true_eq, List.length_append]; simp only [List.length_cons, List.length_nil]; omega), some_bind, hI]; simp [enc]
  | 2, _, ha =>
    have ha : a < 16 := by simpa using ha
    have e : w64 ((6 : Int) - ((2 * 2 : Nat) : Int)) = 2 := by decide
    rw [dec_t (by decide), e, chk_ok (by decide), some_bind, last2 a ha, some_bind, writeByte_ok (by omega), some_bind, some_bind, chk_ok (by rw [decide_eq_true_eq, List.length_append]; simp only [List.length_cons, List.length_nil]; omega), some_bind, hI]; simp [enc]
def bitN (x : List UInt8) (q : Nat) : Nat := (x.getD (q / 8) 0).toNat / 2 ^ (7 - q % 8) % 2
def accV (f : Nat → Nat) : Nat → Nat
  | 0 => 0
  | j + 1 => 2 * accV f j + f j
theorem accV_lt {f : Nat → Nat} (h : ∀ j, f j < 2) : ∀ j, accV f j < 2 ^ j
  | 0 => by simp [accV]
  | j + 1 => by
    have h1 := accV_lt h j
    have h2 := h j
    have h3 := Nat.pow_succ 2 j
    unfold accV
    omega
theorem bit_byte (c : UInt8) (r : Nat) (h : r < 8) : bits .and .i64 (((i8 (shrI .u8 ((c).toNat : Int) (7 - (r : Int)))).toNat : Int)) 1 = ((c.toNat / 2 ^ (7 - r) % 2 : Nat) : Int) := by
  have := byte_all (fun c => (List.range 8).all fun r => decide (bits .and .i64 (((i8 (shrI .u8 ((c).toNat : Int) (7 - (r : Int)))).toNat : Int)) 1 = ((c.toNat / 2 ^ (7 - r) % 2 : Nat) : Int))) (by decide +kernel) c
  exact of_decide_eq_true (List.all_eq_true.1 this r (List.mem_range.2 h))
theorem bit_run (x : List UInt8) (hx : x.length ≤ 4194304) (q : Nat) (hq : q ≤ 100000000) : seneschalref01_bit_p x (q : Int) = some ((bitN x q : Nat) : Int) := by
  unfold seneschalref01_bit_p
  rw [w64_of (x := (8 : Int) * (x.length : Int)) (by omega) (by omega)]
  have e1 : Int.tdiv (q : Int) 8 = ((q / 8 : Nat) : Int) := by rw [show (8 : Int) = ((8 : Nat) : Int) by rfl, Int.ofNat_tdiv]
  have e2 : Int.tmod (q : Int) 8 = ((q % 8 : Nat) : Int) := by rw [show (8 : Int) = ((8 : Nat) : Int) by rfl, ← Int.ofNat_tmod]
  by_cases h : 8 * x.length ≤ q
  · rw [dec_t (by omega)]
    have : x.getD (q / 8) 0 = 0 := by
      rw [List.getD_eq_getElem?_getD, List.getElem?_eq_none (by omega)]; rfl
    unfold bitN; rw [this]; simp
  · rw [dec_f (by omega), e1, e2, w64_of (x := ((q / 8 : Nat) : Int)) (by omega) (by omega), w64_of (x := (7 : Int) - ((q % 8 : Nat) : Int)) (by omega) (by omega)]
    have hl : q / 8 < x.length := by omega
    rw [idx_ok rfl hl, some_bind, chk_ok (show decide ((0 : Int) ≤ 7 - ((q % 8 : Nat) : Int)) = true by rw [decide_eq_true_eq]; omega), some_bind, bit_byte _ _ (by omega)]
    congr 2
    unfold bitN
    rw [List.getD_eq_getElem?_getD, List.getElem?_eq_getElem hl]; rfl
theorem six_run (x : List UInt8) (hx : x.length ≤ 4194304) (p : Nat) (hp : p ≤ 90000000) (out : List UInt8) : iter (seneschalref01_Base64_b1 x ((p : Int), out)) (0, 0) = some ((accV (fun j => bitN x (p + j)) 6 : Nat) : Int) := by
  have hb : ∀ j, bitN x (p + j) < 2 := fun j => Nat.mod_lt _ (by decide)
  refine iter_run (fun j : Nat => (((accV (fun j => bitN x (p + j)) j : Nat) : Int), (j : Int))) 6 (by omega) _ (fun j hj => ?_) ?_
  · have h1 := accV_lt (f := fun j => bitN x (p + j)) hb j
    have h2 : 2 ^ j ≤ 2 ^ 6 := Nat.pow_le_pow_right (by decide) (by omega)
    have h3 := hb j
    have hv : accV (fun j => bitN x (p + j)) (j + 1) = 2 * accV (fun j => bitN x (p + j)) j + bitN x (p + j) := rfl
    unfold seneschalref01_Base64_b1
    dsimp only
    rw [dec_t (show (j : Int) < 6 by omega), w64_of (x := (p : Int) + (j : Int)) (by omega) (by omega), show (p : Int) + (j : Int) = ((p + j : Nat) : Int) by omega, bit_run x hx (p + j) (by omega), some_bind,
      w64_of (x := (2 : Int) * _) (by omega) (by omega), w64_of (by omega) (by omega), w64_of (by omega) (by omega), hv]
    rw [show (2 : Int) * ((accV (fun j => bitN x (p + j)) j : Nat) : Int) + ((bitN x (p + j) : Nat) : Int) = ((2 * accV (fun j => bitN x (p + j)) j + bitN x (p + j) : Nat) : Int) by omega, show (j : Int) + 1 = ((j + 1 : Nat) : Int) by omega]
  · unfold seneschalref01_Base64_b1
    dsimp only
    rw [dec_f (by decide)]
theorem bitN_0 (x : List UInt8) (k : Nat) : bitN x (8 * k) = (x.getD k 0).toNat / 128 % 2 := by
  unfold bitN; rw [show 8 * k / 8 = k by omega, show 8 * k % 8 = 0 by omega]
theorem bitN_j (x : List UInt8) (k j : Nat) (h : j < 8) : bitN x (8 * k + j) = (x.getD k 0).toNat / 2 ^ (7 - j) % 2 := by
  unfold bitN; rw [show (8 * k + j) / 8 = k by omega, show (8 * k + j) % 8 = j by omega]
theorem ch_idx (n : Nat) (h : n < 64) : idx alA (n : Int) = some (ch n) := by
  rw [idx_ok rfl (show n < alA.length from h)]
  congr 1
  unfold ch
  rw [List.getD_eq_getElem?_getD, List.getElem?_eq_getElem (show n < alA.length from h)]; rfl
def encR : Nat → Nat → List UInt8 → List UInt8
  | 3, a, l => ch a :: enc 0 0 l
  | m, a, l => enc m a l
theorem ref64_step (x : List UInt8) (hx : x.length ≤ 4194304) (p : Nat) (hp : p < 8 * x.length) (out : List UInt8) (hl : out.length ≤ 8 * x.length) :
    seneschalref01_Base64_b0 x ((p : Int), out) = some (.inl (((p + 6 : Nat) : Int), out ++ [ch (accV (fun j => bitN x (p + j)) 6)])) := by
  have hb : ∀ j, bitN x (p + j) < 2 := fun j => Nat.mod_lt _ (by decide)
  have h1 := accV_lt (f := fun j => bitN x (p + j)) hb 6
  unfold seneschalref01_Base64_b0
  dsimp only
  rw [w64_of (x := (8 : Int) * (x.length : Int)) (by omega) (by omega), dec_t (by omega), six_run x hx p (by omega) out]
  simp only [some_bind]
  rw [ch_idx _ (by omega), some_bind, app_ok (by simp only [List.length_cons, List.length_nil]; omega), w64_of (by omega) (by omega)]
  rfl
theorem ref64_end (x : List UInt8) (hx : x.length ≤ 4194304) (p : Nat) (hp : ¬ p < 8 * x.length) (out : List UInt8) : seneschalref01_Base64_b0 x ((p : Int), out) = some (.inr out) := by
  unfold seneschalref01_Base64_b0
  dsimp only
  rw [w64_of (x := (8 : Int) * (x.length : Int)) (by omega) (by omega), dec_f (by omega)]
theorem getD_at {x : List UInt8} {k : Nat} (h : k < x.length) : x.getD k 0 = x[k] := by
  rw [List.getD_eq_getElem?_getD, List.getElem?_eq_getElem h]; rfl
theorem getD_out {x : List UInt8} {k : Nat} (h : ¬ k < x.length) : x.getD k 0 = 0 := by
  rw [List.getD_eq_getElem?_getD, List.getElem?_eq_none (by omega)]; rfl
theorem six_0 (x : List UInt8) (k : Nat) : accV (fun j => bitN x (8 * k + j)) 6 = (x.getD k 0).toNat / 4 := by
  have := (x.getD k 0).toNat_lt
  simp only [accV, bitN_j x k 0 (by decide), bitN_j x k 1 (by decide), bitN_j x k 2 (by decide), bitN_j x k 3 (by decide), bitN_j x k 4 (by decide), bitN_j x k 5 (by decide)]
  simp only [Nat.sub_zero, Nat.reduceSub, Nat.reducePow]
  omega
theorem six_1 (x : List UInt8) (k : Nat) : accV (fun j => bitN x (8 * k + 6 + j)) 6 = (x.getD k 0).toNat % 4 * 16 + (x.getD (k + 1) 0).toNat / 16 := by
  have := (x.getD k 0).toNat_lt
  have := (x.getD (k + 1) 0).toNat_lt
  have e : ∀ j, 2 ≤ j → 8 * k + 6 + j = 8 * (k + 1) + (j - 2) := fun j hj => by omega
  simp only [accV, e 2 (by decide), e 3 (by decide), e 4 (by decide), e 5 (by decide), Nat.add_assoc, Nat.reduceAdd, Nat.reduceSub]
  rw [bitN_j x k 6 (by decide), bitN_j x k 7 (by decide), bitN_j x (k + 1) 0 (by decide), bitN_j x (k + 1) 1 (by decide), bitN_j x (k + 1) 2 (by decide), bitN_j x (k + 1) 3 (by decide)]
  simp only [Nat.sub_zero, Nat.sub_self, Nat.reduceSub, Nat.reducePow]
  omega
theorem six_2 (x : List UInt8) (k : Nat) : accV (fun j => bitN x (8 * k + 4 + j)) 6 = (x.getD k 0).toNat % 16 * 4 + (x.getD (k + 1) 0).toNat / 64 := by
  have := (x.getD k 0).toNat_lt
  have := (x.getD (k + 1) 0).toNat_lt
  have e : ∀ j, 4 ≤ j → 8 * k + 4 + j = 8 * (k + 1) + (j - 4) := fun j hj => by omega
  simp only [accV, e 4 (by decide), e 5 (by decide), Nat.add_assoc, Nat.reduceAdd, Nat.reduceSub]
  rw [bitN_j x k 4 (by decide), bitN_j x k 5 (by decide), bitN_j x k 6 (by decide), bitN_j x k 7 (by decide), bitN_j x (k + 1) 0 (by decide), bitN_j x (k + 1) 1 (by decide)]
  simp only [Nat.sub_zero, Nat.sub_self, Nat.reduceSub, Nat.reducePow]
  omega
theorem six_3 (x : List UInt8) (k : Nat) : accV (fun j => bitN x (8 * k + 2 + j)) 6 = (x.getD k 0).toNat % 64 := by
  have := (x.getD k 0).toNat_lt
  simp only [accV, Nat.add_assoc, Nat.reduceAdd]
  rw [bitN_j x k 2 (by decide), bitN_j x k 3 (by decide), bitN_j x k 4 (by decide), bitN_j x k 5 (by decide), bitN_j x k 6 (by decide), bitN_j x k 7 (by decide)]
  simp only [Nat.sub_zero, Nat.sub_self, Nat.reduceSub, Nat.reducePow]
  omega
theorem refBase64_run (x : List UInt8) (hx : x.length ≤ 4194304) : seneschalref01_Base64_p x = some (b64 x) := by
  have key : iter (seneschalref01_Base64_b0 x) (0, []) = some (b64 x) := by
    refine iter_eq (fun s => ∃ p : Nat, s.1 = (p : Int) ∧ p ≤ 8 * x.length + 6 ∧ s.2.length ≤ p ∧ ((8 * x.length ≤ p ∧ b64 x = s.2) ∨ (∃ k, p = 8 * k ∧ k < x.length ∧ b64 x = s.2 ++ enc 0 0 (x.drop k)) ∨ (∃ k, p = 8 * k + 6 ∧ k < x.length ∧ b64 x = s.2 ++ enc 1 ((x.getD k 0).toNat % 4) (x.drop (k + 1))) ∨
      (∃ k, p = 8 * k + 4 ∧ k < x.length ∧ b64 x = s.2 ++ enc 2 ((x.getD k 0).toNat % 16) (x.drop (k + 1))) ∨ (∃ k, p = 8 * k + 2 ∧ k < x.length ∧ b64 x = s.2 ++ ch ((x.getD k 0).toNat % 64) :: enc 0 0 (x.drop (k + 1))))) (fun s => 8 * x.length - s.1.toNat) _ (0, []) ⟨0, rfl, by omega, by simp, ?_⟩ (by show 8 * x.length - 0 < _; omega) ?_
    · by_cases h : 0 < x.length
      · right; left; exact ⟨0, rfl, h, by simp [b64]⟩
      · left
        have : x = [] := List.length_eq_zero_iff.1 (by omega)
        subst this
        exact ⟨by simp, rfl⟩
    · rintro ⟨i, out⟩ ⟨p, e, hp, hL, hI⟩
      dsimp only at e hL hI
      subst e
      by_cases h : p < 8 * x.length
      · left
        refine ⟨_, ref64_step x hx p h out (by omega), ⟨p + 6, rfl, by omega, by simp only [List.length_append, List.length_cons, List.length_nil]; omega, ?_⟩, by dsimp only; omega⟩
        dsimp only
        rcases hI with ⟨h1, _⟩ | ⟨k, rfl, hk, h2⟩ | ⟨k, rfl, hk, h2⟩ | ⟨k, rfl, hk, h2⟩ | ⟨k, rfl, hk, h2⟩
        · omega
        · right; right; left
          refine ⟨k, by omega, hk, ?_⟩
          rw [six_0, h2, drop_at hk, getD_at hk]; simp [enc]
        · rw [six_1]
          by_cases hk1 : k + 1 < x.length
          · right; right; right; left
            refine ⟨k + 1, by omega, hk1, ?_⟩
            rw [h2, drop_at hk1, getD_at hk1]; simp [enc]
          · left
            refine ⟨by omega, ?_⟩
            rw [h2, getD_out hk1, List.drop_eq_nil_of_le (by omega)]; simp [enc]
        · rw [six_2]
          by_cases hk1 : k + 1 < x.length
          · right; right; right; right
            refine ⟨k + 1, by omega, hk1, ?_⟩
            rw [h2, drop_at hk1, getD_at hk1]; simp [enc]
          · left
            refine ⟨by omega, ?_⟩
            rw [h2, getD_out hk1, List.drop_eq_nil_of_le (by omega)]; simp [enc]
        · rw [six_3]
          by_cases hk1 : k + 1 < x.length
          · right; left
            refine ⟨k + 1, by omega, hk1, ?_⟩
            rw [h2]; simp
          · left
            refine ⟨by omega, ?_⟩
            rw [h2, List.drop_eq_nil_of_le (by omega)]; simp [enc]
      · right
        rw [ref64_end x hx p h out]
        rcases hI with ⟨_, h1⟩ | ⟨k, rfl, hk, h2⟩ | ⟨k, rfl, hk, h2⟩ | ⟨k, rfl, hk, h2⟩ | ⟨k, rfl, hk, h2⟩
        · rw [h1]
        all_goals omega
  rw [seneschalref01_Base64_p, key]; rfl
end Go.Proofs.Ytmbcolbbekbccaa
