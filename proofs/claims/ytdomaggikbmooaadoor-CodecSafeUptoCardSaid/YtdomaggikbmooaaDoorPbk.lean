/- The law of reading back. Conditions: as each theorem says. -/
import Derived.Test.YtdomaggikbmooaaDoorPfn
import Derived.Test.YtdomaggikbmooaaDoorPon
namespace Go.Proofs.YtdomaggikbmooaaDoor
open Go Go.RowKit
theorem pl_facts (c : UInt8) : pl c = true → (c == 37) = false ∧ plusC c = c := by
  have := byte_all (fun c => !(pl c) || (!(c == 37) && plusC c == c)) (by decide +kernel) c
  intro h
  rw [h] at this
  simpa using this
theorem hu_facts (n : Nat) (h : n < 16) : pv (hu n) = (n : Int) ∧ plusC (hu n) = hu n := by
  have : (List.range 16).all (fun n => pv (hu n) == (n : Int) && plusC (hu n) == hu n) = true := by decide +kernel
  have := List.all_eq_true.1 this n (List.mem_range.2 h)
  simpa using this
theorem unpct_esc (c : UInt8) (r : List UInt8) : unpct (37 :: hu (c.toNat / 16) :: hu (c.toNat % 16) :: r) = (unpct r).map (c :: ·) := by
  have hc := c.toNat_lt
  have h1 := (hu_facts (c.toNat / 16) (by omega)).1
  have h2 := (hu_facts (c.toNat % 16) (by omega)).1
  rw [unpct_cons]
  simp only [beq_self_eq_true, cond_true, esc, h1, h2]
  have hk : (decide ((0 : Int) ≤ ((c.toNat / 16 : Nat) : Int)) && decide ((0 : Int) ≤ ((c.toNat % 16 : Nat) : Int))) = true := by simp only [Bool.and_eq_true, decide_eq_true_eq]; omega
  rw [hk, cond_true]
  have e : i8 (16 * ((c.toNat / 16 : Nat) : Int) + ((c.toNat % 16 : Nat) : Int)) = c := by
    apply UInt8.toNat.inj
    rw [(join16 (c.toNat / 16) (c.toNat % 16) (by omega) (by omega)).2]; omega
  rw [e]
theorem unpct_one (c : UInt8) (r : List UInt8) (h : (c == 37) = false) : unpct (c :: r) = (unpct r).map (c :: ·) := by rw [unpct_cons, h, cond_false]
theorem unpct_pct : ∀ x : List UInt8, unpct (pctL [37, 50, 48] x) = some x
  | [] => rfl
  | c :: x => by
    have e : pctL [37, 50, 48] (c :: x) = pctB [37, 50, 48] c ++ pctL [37, 50, 48] x := by simp [pctL]
    rw [e, pctB_sp]
    cases h : pl c
    · rw [cond_false]
      simp only [List.cons_append, List.nil_append]
      rw [unpct_esc, unpct_pct x]; rfl
    · rw [cond_true]
      simp only [List.cons_append, List.nil_append]
      rw [unpct_one _ _ (pl_facts c h).1, unpct_pct x]; rfl
theorem unpct_word : ∀ x : List UInt8, unpct ((pctL [43] x).map plusC) = some x
  | [] => rfl
  | c :: x => by
    have hc := c.toNat_lt
    have e : pctL [43] (c :: x) = pctB [43] c ++ pctL [43] x := by simp [pctL]
    rw [e, List.map_append, pctB]
    cases h : pl c
    · rw [cond_false]
      cases h2 : (((c).toNat : Int) == 32)
      · rw [cond_false]
        simp only [List.map_cons, List.map_nil, List.cons_append, List.nil_append, (hu_facts (c.toNat / 16) (by omega)).2, (hu_facts (c.toNat % 16) (by omega)).2]
        rw [show plusC 37 = 37 from rfl, unpct_esc, unpct_word x]; rfl
      · rw [cond_true]
        simp only [List.map_cons, List.map_nil, List.cons_append, List.nil_append]
        rw [show plusC 43 = 32 from rfl, unpct_one _ _ (by decide), unpct_word x]
        have : c = 32 := by rw [beq_iff_eq] at h2; exact UInt8.toNat.inj (by show c.toNat = 32; omega)
        rw [this]; rfl
    · rw [cond_true]
      simp only [List.map_cons, List.map_nil, List.cons_append, List.nil_append]
      rw [(pl_facts c h).2, unpct_one _ _ (pl_facts c h).1, unpct_word x]; rfl
/-! ### Pieces -/
theorem splitA_one {d : UInt8} : ∀ p : List UInt8, (∀ c ∈ p, (c == d) = false) → splitA d p = [p]
  | [], _ => rfl
  | c :: p, h => by
    rw [splitA_miss (h c List.mem_cons_self) (splitA_one p fun x hx => h x (List.mem_cons_of_mem _ hx))]
theorem splitA_app {d : UInt8} (r : List UInt8) : ∀ p : List UInt8, (∀ c ∈ p, (c == d) = false) → splitA d (p ++ d :: r) = p :: splitA d r
  | [], _ => splitA_hit d r
  | c :: p, h => by
    rw [List.cons_append, splitA_miss (h c List.mem_cons_self) (splitA_app r p fun x hx => h x (List.mem_cons_of_mem _ hx))]
theorem eqI_app (r : List UInt8) : ∀ p : List UInt8, (∀ c ∈ p, (c == 61) = false) → eqI (p ++ 61 :: r) = p.length
  | [], _ => rfl
  | c :: p, h => by
    rw [List.cons_append, eqI, h c List.mem_cons_self, cond_false, eqI_app r p fun x hx => h x (List.mem_cons_of_mem _ hx), List.length_cons]
theorem word_clean (x : List UInt8) : ∀ c ∈ pctL [43] x, (c == 38) = false ∧ (c == 61) = false := by
  intro c hc
  simp only [pctL, List.mem_flatMap] at hc
  obtain ⟨b, _, hb⟩ := hc
  have := byte_all (fun b => (pctB [43] b).all fun c => !(c == 38) && !(c == 61)) (by decide +kernel) b
  have := List.all_eq_true.1 this c hb
  simpa using this
theorem piece_clean (p : Pr2) : ∀ c ∈ piece1 p, (c == 38) = false := by
  intro c hc
  simp only [piece1, List.mem_append, List.mem_singleton] at hc
  rcases hc with (h | rfl) | h
  · exact (word_clean p.1 c h).1
  · rfl
  · exact (word_clean p.2 c h).1
theorem split_form : ∀ x : List Pr2, x ≠ [] → splitA 38 (formL x) = x.map piece1
  | [], h => absurd rfl h
  | [p], _ => splitA_one _ (piece_clean p)
  | p :: q :: r, _ => by
    have ih := split_form (q :: r) (by simp)
    have e : formL (p :: q :: r) = piece1 p ++ 38 :: formL (q :: r) := rfl
    rw [e, splitA_app _ _ (piece_clean p), ih]; rfl
theorem piece_eqI (p : Pr2) : eqI (piece1 p) = (pctL [43] p.1).length := by
  have e : piece1 p = pctL [43] p.1 ++ 61 :: pctL [43] p.2 := by simp [piece1]
  rw [e, eqI_app _ _ fun c hc => (word_clean p.1 c hc).2]
theorem key_piece (p : Pr2) : keyS (piece1 p) = (p.1, 0) := by
  have e : (piece1 p).take (eqI (piece1 p)) = pctL [43] p.1 := by rw [piece_eqI]; simp [piece1]
  rw [keyS, e, unpct_word]; rfl
theorem val_piece (p : Pr2) : valS (piece1 p) = (p.2, 0) := by
  have e : (piece1 p).drop (eqI (piece1 p) + 1) = pctL [43] p.2 := by
    rw [piece_eqI]
    have e2 : piece1 p = (pctL [43] p.1 ++ [61]) ++ pctL [43] p.2 := by simp [piece1]
    rw [e2, List.drop_left' (by simp)]
  rw [valS, e, unpct_word]; rfl
theorem parts_back : ∀ x : List Pr2, partsS (x.map piece1) = .inr x
  | [] => rfl
  | p :: x => by
    have hn : (piece1 p == []) = false := by
      rw [beq_eq_false_iff_ne]; intro e
      have := congrArg List.length e
      simp only [piece1, List.length_append, List.length_cons, List.length_nil] at this; omega
    rw [List.map_cons, partsS, hn, cond_false, key_piece, val_piece, parts_back x]; rfl
theorem fromS_back (x : List Pr2) (h : (formS x).2 = 0) : (formS x).1 = formL x ∧ (formL x).length ≤ 8192 ∧ fromS (formL x) = (x, 0) := by
  unfold formS at *
  by_cases h64 : (64 : Int) < (x.length : Int)
  · rw [dec_t h64] at h; exact absurd h (by decide)
  · rw [dec_f h64] at h ⊢
    unfold limit at *
    by_cases hl : (8192 : Int) < ((formL x).length : Int)
    · rw [dec_t hl] at h; exact absurd h (by decide)
    · rw [dec_f hl]
      refine ⟨rfl, by omega, ?_⟩
      unfold fromS
      by_cases hx : x = []
      · subst hx; rfl
      · have hs := split_form x hx
        have hne : (formL x == []) = false := by
          rw [beq_eq_false_iff_ne]; intro e
          rw [e] at hs
          have := parts_back x
          rw [← hs] at this
          simp only [splitA, partsS] at this
          cases this
        rw [dec_f hl, hs, dec_f (by rw [List.length_map]; exact h64), hne, parts_back]; rfl
theorem formS_bad (x : List Pr2) (h : ((formS x).2 != 0) = true) : (formS x).1 = [] := by
  unfold formS limit at *
  by_cases h64 : (64 : Int) < (x.length : Int)
  · rw [dec_t h64]
  · rw [dec_f h64] at h ⊢
    by_cases hl : (8192 : Int) < ((formL x).length : Int)
    · rw [dec_t hl]
    · rw [dec_f hl] at h; simp at h
/-- THE LAW. -/
theorem codecBack_plain (x0 : List UInt8) (x1 : List Pr2) (h : x0.length + pairsLen x1 ≤ 1048576) : seneschallaw01_CodecBack_p x0 x1 = some true := by
  have hl1 := hexL_len x0
  have hl2 := b64_len x0
  have hl3 := pctL_len [37, 50, 48] x0 (by decide)
  have hn := pairsLen_length x1
  have e1 : orNo 10 (unhex (hexL x0)) = (x0, 0) := by rw [unhex_back]; rfl
  have e3 : orNo 12 (unpct (pctL [37, 50, 48] x0)) = (x0, 0) := by rw [unpct_pct]; rfl
  have ne : (x0 != x0) = false := by simp
  have nz : ((0 : Int) != 0) = false := by decide
  rw [seneschallaw01_CodecBack_p, hex_run x0 (by omega), some_bind, fromHex_run _ (by omega), e1, base64_run x0 (by omega)]
  simp only [some_bind]
  rw [fromBase64_run _ (by omega), accept_back, some_bind, ownPercent_run x0 (by omega), some_bind, fromPercent_run _ (by omega), e3, awake_true]
  simp only [some_bind, Bool.not_true, cond_false, ne, nz]
  rw [form_run x1 (by omega), some_bind]
  cases hb : ((formS x1).2 != 0)
  · rw [cond_false]
    obtain ⟨f1, f2, f3⟩ := fromS_back x1 (by simpa using hb)
    rw [f1, fromForm_run _ (by omega), f3]
    simp only [some_bind, beq_self_eq_true, cond_true, same_run x1 (by omega)]
  · rw [cond_true, formS_bad x1 hb]; rfl
end Go.Proofs.YtdomaggikbmooaaDoor
