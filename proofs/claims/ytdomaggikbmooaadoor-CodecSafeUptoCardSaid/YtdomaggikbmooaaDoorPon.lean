/- Reading undoes writing, and only what is written is read: hexadecimal and base64. Conditions: as each theorem says. -/
import Derived.Test.YtdomaggikbmooaaDoorPsi
namespace Go.Proofs.YtdomaggikbmooaaDoor
open Go Go.RowKit
theorem unhex_only : ∀ (x y : List UInt8), unhex x = some y → hexL y = x ∧ y.length ≤ x.length
  | [], y, h => by
    simp only [unhex, Option.some.injEq] at h
    subst h; exact ⟨rfl, Nat.le_refl _⟩
  | [_], y, h => by simp [unhex] at h
  | a :: b :: r, y, h => by
    cases hc : (decide (0 ≤ hv a) && decide (0 ≤ hv b))
    · simp only [unhex, hc, cond_false] at h; cases h
    · obtain ⟨u, v, hu, hv', ea, eb⟩ := pair_ok hc
      rw [unhex_hit r ea eb, Option.map_eq_some_iff] at h
      obtain ⟨z, h1, rfl⟩ := h
      obtain ⟨h2, h3⟩ := unhex_only r z h1
      have hj := (join16 u v hu hv').2
      have h4 := hv_hd a (by omega)
      have h5 := hv_hd b (by omega)
      rw [show (hv a).toNat = u by omega] at h4
      rw [show (hv b).toNat = v by omega] at h5
      refine ⟨?_, by simp only [List.length_cons]; omega⟩
      have e : hexL (i8 (16 * (u : Int) + (v : Int)) :: z) = hexP (i8 (16 * (u : Int) + (v : Int))) ++ hexL z := by simp [hexL]
      rw [e, h2]
      unfold hexP
      rw [hj, show (16 * u + v) / 16 = u by omega, show (16 * u + v) % 16 = v by omega, h4, h5]
      rfl
theorem unhex_back : ∀ x : List UInt8, unhex (hexL x) = some x
  | [] => rfl
  | c :: x => by
    have hc := c.toNat_lt
    have e : hexL (c :: x) = hd (c.toNat / 16) :: hd (c.toNat % 16) :: hexL x := by simp [hexL, hexP]
    rw [e, unhex_hit (u := c.toNat / 16) (v := c.toNat % 16) _ (hd_hv _ (by omega)) (hd_hv _ (by omega)), unhex_back x]
    simp only [Option.map_some]
    congr 2
    apply UInt8.toNat.inj
    rw [(join16 (c.toNat / 16) (c.toNat % 16) (by omega) (by omega)).2]; omega
theorem accept_only {x : List UInt8} (h : (accept (dec1 0 0 x)).2 = 0) : b64 (accept (dec1 0 0 x)).1 = x ∧ (accept (dec1 0 0 x)).1.length ≤ x.length := by
  cases hd : dec1 0 0 x with
  | none => rw [hd] at h; simp [accept] at h
  | some r =>
    obtain ⟨o, m, a⟩ := r
    have hi := b64_iff hd
    have hl := dec1_len x 0 0 _ hd
    rw [hd] at h
    cases hb : (m == 3 || a != 0)
    · simp only [accept, hb, cond_false]
      rw [hb, Bool.not_false, beq_iff_eq] at hi
      exact ⟨hi, hl⟩
    · simp only [accept, hb, cond_true] at h
      exact absurd h (by decide)
theorem accept_back (x : List UInt8) : accept (dec1 0 0 (b64 x)) = (x, 0) := by
  obtain ⟨m', h1, h2⟩ := (back x.length x (Nat.le_refl _)).1
  rw [b64, h2]
  have : (m' == 3 || (0 : Nat) != 0) = false := by
    have : (m' == 3) = false := by rw [beq_eq_false_iff_ne]; exact h1
    rw [this]; rfl
  simp only [accept, this, cond_false]
theorem b64_len (x : List UInt8) : (b64 x).length = (4 * x.length + 2) / 3 := enc_len x 0 0 (by omega)
/-- THE LAW. -/
theorem codecOnly_plain (x0 x1 : List UInt8) (h : x0.length + x1.length ≤ 1048576) : seneschallaw01_CodecOnly_p x0 x1 = some true := by
  have hl1 := hexL_len x0
  have hl2 := b64_len x0
  have e1 : (((hexL x0).length : Int) != (w64 ((2 : Int) * (x0.length : Int)))) = false := by
    rw [w64_of (by omega) (by omega), bne_eq_false_iff_eq]; omega
  have e2 : (((b64 x0).length : Int) != (w64 (Int.tdiv (w64 ((w64 ((4 : Int) * (x0.length : Int))) + 2)) 3))) = false := by
    rw [w64_of (x := (4 : Int) * (x0.length : Int)) (by omega) (by omega), w64_of (x := (4 : Int) * (x0.length : Int) + 2) (by omega) (by omega)]
    have : Int.tdiv ((4 : Int) * (x0.length : Int) + 2) 3 = (((4 * x0.length + 2) / 3 : Nat) : Int) := by
      rw [show (4 : Int) * (x0.length : Int) + 2 = ((4 * x0.length + 2 : Nat) : Int) by omega, show (3 : Int) = ((3 : Nat) : Int) by rfl, Int.ofNat_tdiv]
    rw [this, w64_of (by omega) (by omega), hl2, bne_eq_false_iff_eq]
  have hb := accept_only (x := x1)
  have f2 : ∀ y : List UInt8 × Int, (y.2 = 0 → b64 y.1 = x1 ∧ y.1.length ≤ x1.length) → (bif (y.2 != 0) then (some true) else (Option.bind (codec_Base64_p y.1) fun y7 => some ((y7 == x1)))) = some true := by
    intro y hy
    cases hz : (y.2 != 0)
    · rw [bne_eq_false_iff_eq] at hz
      obtain ⟨g1, g2⟩ := hy hz
      rw [cond_false, base64_run _ (by omega), some_bind, g1, beq_self_eq_true]
    · rfl
  have f1 : ∀ y : List UInt8 × Int, (y.2 = 0 → hexL y.1 = x1 ∧ y.1.length ≤ x1.length) → (bif (y.2 != 0) then (some true) else (Option.bind (codec_Hex_p y.1) fun y6 => some ((y6 == x1)))) = some true := by
    intro y hy
    cases hz : (y.2 != 0)
    · rw [bne_eq_false_iff_eq] at hz
      obtain ⟨g1, g2⟩ := hy hz
      rw [cond_false, hex_run _ (by omega), some_bind, g1, beq_self_eq_true]
    · rfl
  have ha : (orNo 10 (unhex x1)).2 = 0 → hexL (orNo 10 (unhex x1)).1 = x1 ∧ (orNo 10 (unhex x1)).1.length ≤ x1.length := by
    intro hz
    cases hu : unhex x1 with
    | none => rw [hu] at hz; simp [orNo] at hz
    | some y => exact unhex_only x1 y hu
  rw [seneschallaw01_CodecOnly_p, awake_true]
  simp only [some_bind, Bool.not_true, cond_false, hex_run x0 (by omega), base64_run x0 (by omega), e1, e2, fromHex_run x1 (by omega), fromBase64_run x1 (by omega)]
  rw [f1 _ ha]
  simp only [some_bind, cond_true]
  rw [f2 _ hb]
  rfl
end Go.Proofs.YtdomaggikbmooaaDoor
