/- The law of the letters that are written. Conditions: as each theorem says. -/
import Derived.Test.YtdomaggikbmooaaDoorPbk
namespace Go.Proofs.YtdomaggikbmooaaDoor
open Go Go.RowKit
abbrev extL : List (List UInt8) := [([] : List UInt8), ([37] : List UInt8), ([37, 38, 61, 43] : List UInt8)]
def firstB (s : Int) (c : UInt8) : Bool := (bif (bif (bif (bif (bif (bif decide ((65 : Int) ≤ ((c).toNat : Int)) then decide (((c).toNat : Int) ≤ 90) else false) then true else (bif decide ((97 : Int) ≤ ((c).toNat : Int)) then decide (((c).toNat : Int) ≤ 122) else false)) then true else (bif decide ((48 : Int) ≤ ((c).toNat : Int)) then decide (((c).toNat : Int) ≤ 57) else false)) then true else (((c).toNat : Int) == 45)) then true else (((c).toNat : Int) == 95)) then true else (bif decide ((0 : Int) < s) then (bif (((c).toNat : Int) == 46) then true else (((c).toNat : Int) == 126)) else false))
def okc (s : Nat) (c : UInt8) : Bool := firstB (s : Int) c || (extL.getD s []).any fun e => (((c).toNat : Int) == ((e).toNat : Int))
theorem any_loop (s : Nat) (hs : s < 3) (c : UInt8) (b : Bool) : iter (seneschallaw01_CodecSafe_b2 (s : Int) c) (b, 0) = some (b || (extL.getD s []).any fun e => (((c).toNat : Int) == ((e).toNat : Int))) := by
  have hlen : (extL.getD s []).length ≤ 4 := by
    match s, hs with
    | 0, _ => decide
    | 1, _ => decide
    | 2, _ => decide
  have hrow : idx extL (s : Int) = some (extL.getD s []) := by
    match s, hs with
    | 0, _ => rfl
    | 1, _ => rfl
    | 2, _ => rfl
  generalize extL.getD s [] = y at *
  have h0 : (b, (0 : Int)) = (fun j : Nat => ((b || (y.take j).any fun e => (((c).toNat : Int) == ((e).toNat : Int))), (j : Int))) 0 := by simp
  rw [h0]
  refine iter_run (fun j : Nat => ((b || (y.take j).any fun e => (((c).toNat : Int) == ((e).toNat : Int))), (j : Int))) y.length (by omega) _ (fun j hj => ?_) ?_
  · unfold seneschallaw01_CodecSafe_b2
    dsimp only
    rw [hrow, some_bind, dec_t (show (j : Int) < (y.length : Int) by omega), some_bind, idx_ok rfl hj, some_bind, w64_of (by omega) (by omega), take_succ hj, List.any_append]
    simp only [List.any_cons, List.any_nil, Bool.or_false]
    cases hb : (b || (y.take j).any fun e => (((c).toNat : Int) == ((e).toNat : Int)))
    · rw [cond_false, some_bind]
      simp only [Bool.or_eq_false_iff] at hb
      rw [hb.1, hb.2]; rfl
    · rw [cond_true, some_bind, ← Bool.or_assoc, hb]; rfl
  · unfold seneschallaw01_CodecSafe_b2
    dsimp only
    rw [hrow, some_bind, dec_f (by omega), List.take_length]
theorem row_loop (y1 : List UInt8 × Int) (y4 y5 : List UInt8) (s : Nat) (hs : s < 3) (y : List UInt8) (hy : idx ([y4, y5, y1.1] : List (List UInt8)) (s : Int) = some y) (hl : y.length ≤ 100000000) (hok : ∀ c ∈ y, okc s c = true) :
    iter (seneschallaw01_CodecSafe_b1 y1 y4 y5 (s : Int)) 0 = some (.inr ()) := by
  refine iter_run (fun j : Nat => (j : Int)) y.length (by omega) _ (fun j hj => ?_) ?_
  · unfold seneschallaw01_CodecSafe_b1
    rw [hy, some_bind, dec_t (show (j : Int) < (y.length : Int) by omega), some_bind, idx_ok rfl hj, some_bind, w64_of (by omega) (by omega)]
    have h1 := any_loop s hs y[j] (firstB (s : Int) y[j])
    have h2 : (firstB (s : Int) y[j] || (extL.getD s []).any fun e => (((y[j]).toNat : Int) == ((e).toNat : Int))) = true := hok _ (List.getElem_mem hj)
    rw [h2] at h1
    unfold firstB at h1
    rw [h1]; rfl
  · unfold seneschallaw01_CodecSafe_b1
    rw [hy, some_bind, dec_f (by omega)]
theorem ok_hd (n : Nat) (h : n < 16) : okc 0 (hd n) = true := by
  have : (List.range 16).all (fun n => okc 0 (hd n)) = true := by decide +kernel
  exact List.all_eq_true.1 this n (List.mem_range.2 h)
theorem ok_ch (n : Nat) (h : n < 64) : okc 0 (ch n) = true := by
  have : (List.range 64).all (fun n => okc 0 (ch n)) = true := by decide +kernel
  exact List.all_eq_true.1 this n (List.mem_range.2 h)
theorem ok_hexL (x : List UInt8) : ∀ c ∈ hexL x, okc 0 c = true := by
  intro c hc
  simp only [hexL, List.mem_flatMap] at hc
  obtain ⟨b, _, hb⟩ := hc
  have hb2 := b.toNat_lt
  simp only [hexP, List.mem_cons, List.mem_nil_iff, or_false] at hb
  rcases hb with rfl | rfl
  · exact ok_hd _ (by omega)
  · exact ok_hd _ (by omega)
theorem ok_enc : ∀ (x : List UInt8) (m a : Nat), m ≤ 2 → a < 4 ^ m → ∀ c ∈ enc m a x, okc 0 c = true
  | [], 0, a, _, _, c, hc => by cases hc
  | [], 1, a, _, ha, c, hc => by
    have ha : a < 4 := by simpa using ha
    simp only [enc, List.mem_singleton] at hc
    rw [hc]; exact ok_ch _ (by omega)
  | [], 2, a, _, ha, c, hc => by
    have ha : a < 16 := by simpa using ha
    simp only [enc, List.mem_singleton] at hc
    rw [hc]; exact ok_ch _ (by omega)
  | b :: x, 0, a, _, _, c, hc => by
    have hb := b.toNat_lt
    simp only [enc, List.mem_cons] at hc
    rcases hc with rfl | hc
    · exact ok_ch _ (by omega)
    · exact ok_enc x 1 _ (by omega) (by omega) c hc
  | b :: x, 1, a, _, ha, c, hc => by
    have ha : a < 4 := by simpa using ha
    have hb := b.toNat_lt
    simp only [enc, List.mem_cons] at hc
    rcases hc with rfl | hc
    · exact ok_ch _ (by omega)
    · exact ok_enc x 2 _ (by omega) (by omega) c hc
  | b :: x, 2, a, _, ha, c, hc => by
    have ha : a < 16 := by simpa using ha
    have hb := b.toNat_lt
    simp only [enc, List.mem_cons] at hc
    rcases hc with rfl | rfl | hc
    · exact ok_ch _ (by omega)
    · exact ok_ch _ (by omega)
    · exact ok_enc x 0 _ (by omega) (by decide) c hc
  | [], m + 3, a, h, _, _, _ => by omega
  | _ :: _, m + 3, a, h, _, _, _ => by omega
theorem ok_pct (x : List UInt8) : ∀ c ∈ pctL [37, 50, 48] x, okc 1 c = true := by
  intro c hc
  simp only [pctL, List.mem_flatMap] at hc
  obtain ⟨b, _, hb⟩ := hc
  have := byte_all (fun b => (pctB [37, 50, 48] b).all (okc 1)) (by decide +kernel) b
  exact List.all_eq_true.1 this c hb
theorem ok_word (x : List UInt8) : ∀ c ∈ pctL [43] x, okc 2 c = true := by
  intro c hc
  simp only [pctL, List.mem_flatMap] at hc
  obtain ⟨b, _, hb⟩ := hc
  have := byte_all (fun b => (pctB [43] b).all (okc 2)) (by decide +kernel) b
  exact List.all_eq_true.1 this c hb
theorem ok_piece (p : Pr2) : ∀ c ∈ piece1 p, okc 2 c = true := by
  intro c hc
  simp only [piece1, List.mem_append, List.mem_singleton] at hc
  rcases hc with (h | rfl) | h
  · exact ok_word p.1 c h
  · decide
  · exact ok_word p.2 c h
theorem ok_formL : ∀ x : List Pr2, ∀ c ∈ formL x, okc 2 c = true
  | [], c, hc => by cases hc
  | [p], c, hc => ok_piece p c hc
  | p :: q :: r, c, hc => by
    have e : formL (p :: q :: r) = piece1 p ++ 38 :: formL (q :: r) := rfl
    rw [e, List.mem_append, List.mem_cons] at hc
    rcases hc with h | rfl | h
    · exact ok_piece p c h
    · decide
    · exact ok_formL (q :: r) c h
theorem ok_formS (x : List Pr2) : (∀ c ∈ (formS x).1, okc 2 c = true) ∧ (formS x).1.length ≤ 8192 := by
  unfold formS limit
  by_cases h64 : (64 : Int) < (x.length : Int)
  · rw [dec_t h64]; simp
  · rw [dec_f h64]
    by_cases hl : (8192 : Int) < ((formL x).length : Int)
    · rw [dec_t hl]; simp
    · rw [dec_f hl]; exact ⟨ok_formL x, by dsimp only; omega⟩
/-- THE LAW. -/
theorem codecSafe_plain (x0 : List UInt8) (x1 : List Pr2) (h : x0.length + pairsLen x1 ≤ 1048576) : seneschallaw01_CodecSafe_p x0 x1 = some true := by
  have hl1 := hexL_len x0
  have hl2 := b64_len x0
  have hl3 := pctL_len [37, 50, 48] x0 (by decide)
  have hf := ok_formS x1
  rw [seneschallaw01_CodecSafe_p, form_run x1 (by omega), some_bind, hex_run x0 (by omega), some_bind, base64_run x0 (by omega), some_bind, app_ok (by omega), some_bind, ownPercent_run x0 (by omega), some_bind]
  have key : iter (seneschallaw01_CodecSafe_b0 (formS x1) (hexL x0 ++ b64 x0) (pctL [37, 50, 48] x0)) 0 = some (.inr ()) := by
    have step : ∀ (s : Nat) (y : List UInt8), s < 3 → idx ([hexL x0 ++ b64 x0, pctL [37, 50, 48] x0, (formS x1).1] : List (List UInt8)) (s : Int) = some y → y.length ≤ 100000000 → (∀ c ∈ y, okc s c = true) →
        seneschallaw01_CodecSafe_b0 (formS x1) (hexL x0 ++ b64 x0) (pctL [37, 50, 48] x0) (s : Int) = some (.inl ((s + 1 : Nat) : Int)) := by
      intro s y hs hy hl hok
      unfold seneschallaw01_CodecSafe_b0
      rw [dec_t (show (s : Int) < 3 by omega), row_loop _ _ _ s hs y hy hl hok, w64_of (by omega) (by omega)]
      rfl
    have ok_row0 : ∀ c ∈ hexL x0 ++ b64 x0, okc 0 c = true := by
      intro c hc
      rcases List.mem_append.1 hc with h | h
      · exact ok_hexL x0 c h
      · exact ok_enc x0 0 0 (by omega) (by decide) c h
    refine iter_run (fun k : Nat => (k : Int)) 3 (by omega) _ (fun k hk => ?_) ?_
    · match k, hk with
      | 0, _ => exact step 0 _ (by omega) rfl (by rw [List.length_append]; omega) ok_row0
      | 1, _ => exact step 1 _ (by omega) rfl (by omega) (ok_pct x0)
      | 2, _ => exact step 2 _ (by omega) rfl (by omega) hf.1
    · unfold seneschallaw01_CodecSafe_b0
      rw [dec_f (by decide)]
  rw [key]
  simp only [some_bind, awake_true]
  rfl
end Go.Proofs.YtdomaggikbmooaaDoor
