/- What the reference makes of base64 texts, reading; the law of base64. Conditions: as each theorem says. -/
import Derived.Test.YtdomaggikbmooaaDoorPsh
namespace Go.Proofs.YtdomaggikbmooaaDoor
open Go Go.RowKit
def bits6 (v : Nat) : List Int := [((v / 32 % 2 : Nat) : Int), ((v / 16 % 2 : Nat) : Int), ((v / 8 % 2 : Nat) : Int), ((v / 4 % 2 : Nat) : Int), ((v / 2 % 2 : Nat) : Int), ((v % 2 : Nat) : Int)]
theorem bits6_at (v : Nat) (hv : v < 64) (k : Nat) (hk : k < 6) : (bits6 v)[k]? = some (bits .and .i64 (shrI .i64 (v : Int) (5 - (k : Int))) 1) := by
  have : (List.range 64).all (fun v => (List.range 6).all fun k => decide ((bits6 v)[k]? = some (bits .and .i64 (shrI .i64 (v : Int) (5 - (k : Int))) 1))) = true := by decide +kernel
  exact of_decide_eq_true (List.all_eq_true.1 (List.all_eq_true.1 this v (List.mem_range.2 hv)) k (List.mem_range.2 hk))
/-- The reference's search of a letter: -1 where there is none. -/
theorem look_run (x : List UInt8) (i : Nat) (hi : i < x.length) (L : List Int) : iter (seneschalref01_FromBase64_b1 x ((i : Int), L)) ((-1), 0) = some (cv x[i]) := by
  have hr := cv_range x[i]
  have h0 : (((-1 : Int)), (0 : Int)) = (fun j : Nat => ((if 0 ≤ cv x[i] ∧ cv x[i] < (j : Int) then cv x[i] else -1), (j : Int))) 0 := by
    dsimp only
    rw [if_neg (by omega)]; rfl
  have hend : cv x[i] = if 0 ≤ cv x[i] ∧ cv x[i] < ((64 : Nat) : Int) then cv x[i] else -1 := by
    by_cases h : 0 ≤ cv x[i]
    · rw [if_pos (by omega)]
    · rw [if_neg (by omega)]; omega
  rw [h0]
  refine iter_run (fun j : Nat => ((if 0 ≤ cv x[i] ∧ cv x[i] < (j : Int) then cv x[i] else -1), (j : Int))) 64 (by omega) _ (fun j hj => ?_) ?_
  · unfold seneschalref01_FromBase64_b1
    dsimp only
    rw [dec_t (show (j : Int) < 64 by omega), idx_ok rfl hi, ch_idx j hj]
    simp only [some_bind]
    rw [w64_of (x := (j : Int) + 1) (by omega) (by omega)]
    have hch : (((ch j).toNat : Int) == ((x[i]).toNat : Int)) = decide (cv x[i] = (j : Int)) := by
      by_cases h : cv x[i] = (j : Int)
      · rw [decide_eq_true h, beq_iff_eq]
        have := ch_cv x[i] (by omega)
        rw [show (cv x[i]).toNat = j by omega] at this
        rw [this]
      · rw [decide_eq_false h, beq_eq_false_iff_ne]
        intro e
        have e2 : ch j = x[i] := UInt8.toNat.inj (by omega)
        exact h (by rw [← e2, cv_ch j hj])
    rw [hch]
    by_cases h : cv x[i] = (j : Int)
    · rw [decide_eq_true h, cond_true, some_bind, if_pos (by omega), h]; rfl
    · rw [decide_eq_false h, cond_false, some_bind]
      by_cases h2 : 0 ≤ cv x[i] ∧ cv x[i] < (j : Int)
      · rw [if_pos h2, if_pos (by omega)]; rfl
      · rw [if_neg h2, if_neg (by omega)]; rfl
  · unfold seneschalref01_FromBase64_b1
    dsimp only
    rw [dec_f (by decide)]
    exact congrArg (fun z => some (Sum.inr z)) hend.symm
theorem lay_run (v : Nat) (hv : v < 64) (L : List Int) (hL : L.length ≤ 100000000) : iter (seneschalref01_FromBase64_b2 (v : Int)) (5, L) = some (L ++ bits6 v) := by
  have h0 : ((5 : Int), L) = (fun k : Nat => ((5 : Int) - (k : Int), L ++ (bits6 v).take k)) 0 := by simp
  rw [h0]
  refine iter_run (fun k : Nat => ((5 : Int) - (k : Int), L ++ (bits6 v).take k)) 6 (by omega) _ (fun k hk => ?_) ?_
  · have hb := bits6_at v hv k hk
    have hl : ((bits6 v).take k).length ≤ 6 := by rw [List.length_take]; simp only [bits6, List.length_cons, List.length_nil]; omega
    unfold seneschalref01_FromBase64_b2
    dsimp only
    rw [dec_t (show (0 : Int) ≤ 5 - (k : Int) by omega), chk_ok (by rw [decide_eq_true_eq]; omega), some_bind, app_ok (by simp only [List.length_append, List.length_cons, List.length_nil]; omega), some_bind, w64_of (by omega) (by omega)]
    rw [List.take_add_one, hb, List.append_assoc]
    rw [show (5 : Int) - (k : Int) - 1 = 5 - ((k + 1 : Nat) : Int) by omega]; rfl
  · unfold seneschalref01_FromBase64_b2
    dsimp only
    rw [dec_f (by decide), List.take_of_length_le (by simp [bits6])]
/-- The bits of a text's letters. -/
def bitsL (x : List UInt8) : List Int := x.flatMap fun c => bits6 (cv c).toNat
theorem bitsL_len (x : List UInt8) : (bitsL x).length = 6 * x.length := by
  induction x with
  | nil => rfl
  | cons a x ih => simp only [bitsL, List.flatMap_cons, List.length_append, List.length_cons] at *; rw [ih]; simp only [bits6, List.length_cons, List.length_nil]; omega
def okL (x : List UInt8) : Bool := x.all fun c => decide (0 ≤ cv c)
theorem okL_bad {c : UInt8} {l : List UInt8} (h : cv c < 0) : okL (c :: l) = false := by
  have : decide (0 ≤ cv c) = false := by rw [decide_eq_false_iff_not]; omega
  simp only [okL, List.all_cons, this, Bool.false_and]
theorem okL_good {c : UInt8} {l : List UInt8} (h : ¬ cv c < 0) : okL (c :: l) = okL l := by
  have : decide (0 ≤ cv c) = true := by rw [decide_eq_true_eq]; omega
  simp only [okL, List.all_cons, this, Bool.true_and]
theorem dec1_none : ∀ (l : List UInt8) (m a : Nat), (dec1 m a l).isSome = okL l
  | [], m, a => by simp [dec1, okL]
  | c :: l, m, a => by
    by_cases h : cv c < 0
    · rw [dec1_bad _ _ _ h]
      have : decide (0 ≤ cv c) = false := by simp; omega
      simp [okL, this]
    · have h1 : decide (cv c < 0) = false := by simp; omega
      have h2 : decide (0 ≤ cv c) = true := by simp; omega
      have e : okL (c :: l) = okL l := by simp [okL, h2]
      rw [e]
      match m with
      | 0 => rw [dec1, h1, cond_false]; exact dec1_none l _ _
      | 1 => rw [dec1, h1, cond_false, Option.isSome_map]; exact dec1_none l _ _
      | 2 => rw [dec1, h1, cond_false, Option.isSome_map]; exact dec1_none l _ _
      | m + 3 => rw [dec1, h1, cond_false, Option.isSome_map]; exact dec1_none l _ _
theorem gather_run (x : List UInt8) (hx : x.length ≤ 4194304) : iter (seneschalref01_FromBase64_b0 x) (0, []) = some (bif okL x then .inr (bitsL x) else .inl ([], 11)) := by
  refine iter_eq (fun s => ∃ k : Nat, s.1 = (k : Int) ∧ k ≤ x.length ∧ s.2 = bitsL (x.take k) ∧ okL x = okL (x.drop k)) (fun s => x.length - s.1.toNat) _ (0, []) ⟨0, rfl, by omega, rfl, rfl⟩ (by show x.length - 0 < _; omega) ?_
  rintro ⟨i, L⟩ ⟨k, e, hk, hL, hI⟩
  dsimp only at e hL hI
  subst e hL
  have hlen := bitsL_len (x.take k)
  rw [List.length_take] at hlen
  by_cases h : k < x.length
  · rw [drop_at h] at hI
    have hr := cv_range x[k]
    unfold seneschalref01_FromBase64_b0
    dsimp only
    rw [dec_t (show (k : Int) < (x.length : Int) by omega), look_run x k h]
    simp only [some_bind]
    by_cases hc : cv x[k] < 0
    · right
      have : okL x = false := by rw [hI, okL_bad hc]
      rw [this, dec_t hc, jn_r]; rfl
    · left
      have : okL x = okL (x.drop (k + 1)) := by rw [hI, okL_good hc]
      obtain ⟨v, hv⟩ : ∃ v : Nat, cv x[k] = (v : Int) := ⟨(cv x[k]).toNat, by omega⟩
      rw [dec_f hc, hv, lay_run v (by omega) _ (by omega), some_bind, jn_l, w64_of (by omega) (by omega)]
      refine ⟨_, rfl, ⟨k + 1, by dsimp only; omega, by omega, ?_, this⟩, by dsimp only; omega⟩
      dsimp only
      rw [take_succ h]
      simp only [bitsL, List.flatMap_append, List.flatMap_cons, List.flatMap_nil, List.append_nil]
      rw [show (cv x[k]).toNat = v by omega]
  · right
    have : k = x.length := by omega
    subst this
    rw [List.drop_length] at hI
    unfold seneschalref01_FromBase64_b0
    dsimp only
    rw [dec_f (by omega), hI, List.take_length]; rfl
def bitV (x : List UInt8) (q : Nat) : Nat := (cv (x.getD (q / 6) 65)).toNat / 2 ^ (5 - q % 6) % 2
theorem bitsL_at : ∀ (x : List UInt8) (q : Nat), q < 6 * x.length → (bitsL x)[q]? = some ((bitV x q : Nat) : Int)
  | [], q, h => by simp at h
  | c :: x, q, h => by
    have e : bitsL (c :: x) = bits6 (cv c).toNat ++ bitsL x := by simp [bitsL]
    rw [e]
    by_cases hq : q < 6
    · rw [List.getElem?_append_left (by simpa [bits6] using hq)]
      have h1 : q / 6 = 0 := by omega
      have h2 : q % 6 = q := by omega
      unfold bitV
      rw [h1, h2, List.getD_cons_zero]
      match q, hq with
      | 0, _ => simp [bits6]
      | 1, _ => simp [bits6]
      | 2, _ => simp [bits6]
      | 3, _ => simp [bits6]
      | 4, _ => simp [bits6]
      | 5, _ => simp [bits6]
    · rw [List.getElem?_append_right (by simp only [bits6, List.length_cons, List.length_nil]; omega)]
      have hl : (bits6 (cv c).toNat).length = 6 := rfl
      rw [hl, bitsL_at x (q - 6) (by simp only [List.length_cons] at h; omega)]
      congr 2
      unfold bitV
      rw [show q / 6 = (q - 6) / 6 + 1 by omega, show (q - 6) % 6 = q % 6 by omega, List.getD_cons_succ]
theorem eight_run (x : List UInt8) (hx : x.length ≤ 4194304) (i : Nat) (hi : i + 8 ≤ 6 * x.length) (out : List UInt8) : iter (seneschalref01_FromBase64_b4 (bitsL x) ((i : Int), out)) (0, 0) = some ((accV (fun j => bitV x (i + j)) 8 : Nat) : Int) := by
  have hb : ∀ j, bitV x (i + j) < 2 := fun j => Nat.mod_lt _ (by decide)
  refine iter_run (fun j : Nat => (((accV (fun j => bitV x (i + j)) j : Nat) : Int), (j : Int))) 8 (by omega) _ (fun j hj => ?_) ?_
  · have h1 := accV_lt (f := fun j => bitV x (i + j)) hb j
    have h2 : 2 ^ j ≤ 2 ^ 8 := Nat.pow_le_pow_right (by decide) (by omega)
    have h3 := hb j
    have hv : accV (fun j => bitV x (i + j)) (j + 1) = 2 * accV (fun j => bitV x (i + j)) j + bitV x (i + j) := rfl
    have hix : idx (bitsL x) ((i + j : Nat) : Int) = some ((bitV x (i + j) : Nat) : Int) := by rw [idx_nat]; exact bitsL_at x (i + j) (by omega)
    unfold seneschalref01_FromBase64_b4
    dsimp only
    rw [dec_t (show (j : Int) < 8 by omega), w64_of (x := (i : Int) + (j : Int)) (by omega) (by omega), show (i : Int) + (j : Int) = ((i + j : Nat) : Int) by omega, hix, some_bind,
      w64_of (x := (2 : Int) * _) (by omega) (by omega), w64_of (by omega) (by omega), w64_of (by omega) (by omega), hv]
    rw [show (2 : Int) * ((accV (fun j => bitV x (i + j)) j : Nat) : Int) + ((bitV x (i + j) : Nat) : Int) = ((2 * accV (fun j => bitV x (i + j)) j + bitV x (i + j) : Nat) : Int) by omega, show (j : Int) + 1 = ((j + 1 : Nat) : Int) by omega]
  · unfold seneschalref01_FromBase64_b4
    dsimp only
    rw [dec_f (by decide)]
theorem i8_mb (n : Nat) (h : n < 256) : i8 ((n : Nat) : Int) = mb n := by
  apply UInt8.toNat.inj
  have h1 := i8_of (x := (n : Int)) (by omega) (by omega)
  rw [mb_nat h]; omega
theorem bitV_j (x : List UInt8) (k j : Nat) (h : j < 6) : bitV x (6 * k + j) = (cv (x.getD k 65)).toNat / 2 ^ (5 - j) % 2 := by
  unfold bitV; rw [show (6 * k + j) / 6 = k by omega, show (6 * k + j) % 6 = j by omega]
theorem cvn (c : UInt8) : (cv c).toNat < 64 := by have := cv_range c; omega
theorem eight_0 (x : List UInt8) (k : Nat) : accV (fun j => bitV x (6 * k + j)) 8 = (cv (x.getD k 65)).toNat * 4 + (cv (x.getD (k + 1) 65)).toNat / 16 := by
  have := cvn (x.getD k 65)
  have := cvn (x.getD (k + 1) 65)
  have e : ∀ j, 6 ≤ j → 6 * k + j = 6 * (k + 1) + (j - 6) := fun j hj => by omega
  simp only [accV, e 6 (by decide), e 7 (by decide), Nat.reduceSub]
  rw [bitV_j x k 0 (by decide), bitV_j x k 1 (by decide), bitV_j x k 2 (by decide), bitV_j x k 3 (by decide), bitV_j x k 4 (by decide), bitV_j x k 5 (by decide), bitV_j x (k + 1) 0 (by decide), bitV_j x (k + 1) 1 (by decide)]
  simp only [Nat.sub_zero, Nat.sub_self, Nat.reduceSub, Nat.reducePow]
  omega
theorem eight_2 (x : List UInt8) (k : Nat) : accV (fun j => bitV x (6 * k + 2 + j)) 8 = (cv (x.getD k 65)).toNat % 16 * 16 + (cv (x.getD (k + 1) 65)).toNat / 4 := by
  have := cvn (x.getD k 65)
  have := cvn (x.getD (k + 1) 65)
  have e : ∀ j, 4 ≤ j → 6 * k + 2 + j = 6 * (k + 1) + (j - 4) := fun j hj => by omega
  simp only [accV, e 4 (by decide), e 5 (by decide), e 6 (by decide), e 7 (by decide), Nat.add_assoc, Nat.reduceAdd, Nat.reduceSub]
  rw [bitV_j x k 2 (by decide), bitV_j x k 3 (by decide), bitV_j x k 4 (by decide), bitV_j x k 5 (by decide), bitV_j x (k + 1) 0 (by decide), bitV_j x (k + 1) 1 (by decide), bitV_j x (k + 1) 2 (by decide), bitV_j x (k + 1) 3 (by decide)]
  simp only [Nat.sub_zero, Nat.sub_self, Nat.reduceSub, Nat.reducePow]
  omega
theorem eight_1 (x : List UInt8) (k : Nat) : accV (fun j => bitV x (6 * k + 4 + j)) 8 = (cv (x.getD k 65)).toNat % 4 * 64 + (cv (x.getD (k + 1) 65)).toNat := by
  have := cvn (x.getD k 65)
  have := cvn (x.getD (k + 1) 65)
  have e : ∀ j, 2 ≤ j → 6 * k + 4 + j = 6 * (k + 1) + (j - 2) := fun j hj => by omega
  simp only [accV, e 2 (by decide), e 3 (by decide), e 4 (by decide), e 5 (by decide), e 6 (by decide), e 7 (by decide), Nat.add_assoc, Nat.reduceAdd, Nat.reduceSub]
  rw [bitV_j x k 4 (by decide), bitV_j x k 5 (by decide), bitV_j x (k + 1) 0 (by decide), bitV_j x (k + 1) 1 (by decide), bitV_j x (k + 1) 2 (by decide), bitV_j x (k + 1) 3 (by decide), bitV_j x (k + 1) 4 (by decide), bitV_j x (k + 1) 5 (by decide)]
  simp only [Nat.sub_zero, Nat.sub_self, Nat.reduceSub, Nat.reducePow]
  omega
theorem byte_step (x : List UInt8) (hx : x.length ≤ 4194304) (i : Nat) (hi : i + 8 ≤ 6 * x.length) (out : List UInt8) (hl : out.length ≤ 6 * x.length) (n : Nat) (hn : accV (fun j => bitV x (i + j)) 8 = n) :
    seneschalref01_FromBase64_b3 (bitsL x) ((i : Int), out) = some (.inl (((i + 8 : Nat) : Int), out ++ [mb n])) := by
  have hb : ∀ j, bitV x (i + j) < 2 := fun j => Nat.mod_lt _ (by decide)
  have h1 := accV_lt (f := fun j => bitV x (i + j)) hb 8
  have hlen := bitsL_len x
  unfold seneschalref01_FromBase64_b3
  dsimp only
  rw [w64_of (x := (i : Int) + 8) (by omega) (by omega), dec_t (by omega), eight_run x hx i hi out, hn]
  simp only [some_bind]
  rw [app_ok (by simp only [List.length_cons, List.length_nil]; omega), some_bind, some_bind, i8_mb n (by omega)]
  rfl
theorem byte_end (x : List UInt8) (hx : x.length ≤ 4194304) (i : Nat) (hi : ¬ i + 8 ≤ 6 * x.length) (hi2 : i ≤ 100000000) (out : List UInt8) : seneschalref01_FromBase64_b3 (bitsL x) ((i : Int), out) = some (.inr out) := by
  have hlen := bitsL_len x
  unfold seneschalref01_FromBase64_b3
  dsimp only
  rw [w64_of (x := (i : Int) + 8) (by omega) (by omega), dec_f (by omega)]
theorem getDc {x : List UInt8} {k : Nat} (h : k < x.length) : x.getD k 65 = x[k] := by
  rw [List.getD_eq_getElem?_getD, List.getElem?_eq_getElem h]; rfl
theorem bytes_run (x : List UInt8) (hx : x.length ≤ 4194304) (r : Dst) (h : dec1 0 0 x = some r) : iter (seneschalref01_FromBase64_b3 (bitsL x)) (0, []) = some r.1 := by
  have hok : okL x = true := by rw [← dec1_none x 0 0, h]; rfl
  have hcv : ∀ k (hk : k < x.length), decide (cv x[k] < 0) = false := fun k hk => by
    have := List.all_eq_true.1 hok x[k] (List.getElem_mem hk)
    simp only [decide_eq_true_eq] at this
    simp; omega
  refine iter_eq (fun s => ∃ i : Nat, s.1 = (i : Int) ∧ i ≤ 6 * x.length ∧ s.2.length ≤ i ∧ ((∃ k, i = 6 * k ∧ k ≤ x.length ∧ some r = (dec1 0 0 (x.drop k)).map (addTo s.2)) ∨ (∃ k, i = 6 * k + 2 ∧ k < x.length ∧ some r = (dec1 2 ((cv (x.getD k 65)).toNat % 16) (x.drop (k + 1))).map (addTo s.2)) ∨
      (∃ k, i = 6 * k + 4 ∧ k < x.length ∧ some r = (dec1 1 ((cv (x.getD k 65)).toNat % 4) (x.drop (k + 1))).map (addTo s.2)))) (fun s => 6 * x.length - s.1.toNat) _ (0, []) ⟨0, rfl, by omega, by simp, .inl ⟨0, rfl, by omega, ?_⟩⟩ (by show 6 * x.length - 0 < _; omega) ?_
  · rw [List.drop_zero, h]; simp [addTo]
  rintro ⟨i0, out⟩ ⟨i, e, hi, hL, hI⟩
  dsimp only at e hL hI
  subst e
  rcases hI with ⟨k, rfl, hk, hI⟩ | ⟨k, rfl, hk, hI⟩ | ⟨k, rfl, hk, hI⟩
  · by_cases h2 : k + 1 < x.length
    · left
      have hk' : k < x.length := by omega
      rw [drop_at hk', drop_at h2, dec1, hcv k hk', cond_false, dec1, hcv (k + 1) h2, cond_false, map_pre] at hI
      refine ⟨_, byte_step x hx (6 * k) (by omega) out (by omega) _ (eight_0 x k), ⟨6 * k + 8, rfl, by omega, by simp only [List.length_append, List.length_cons, List.length_nil]; omega, .inr (.inl ⟨k + 1, by omega, h2, ?_⟩)⟩, by dsimp only; omega⟩
      dsimp only
      rw [getDc hk', getDc h2, hI]
    · right
      rw [byte_end x hx (6 * k) (by omega) (by omega) out]
      by_cases h3 : k < x.length
      · rw [drop_at h3, List.drop_eq_nil_of_le (by omega), dec1, hcv k h3, cond_false] at hI
        simp only [dec1, Option.map_some, Option.some.injEq] at hI
        rw [hI]; simp [addTo]
      · rw [List.drop_eq_nil_of_le (by omega)] at hI
        simp only [dec1, Option.map_some, Option.some.injEq] at hI
        rw [hI]; simp [addTo]
  · by_cases h2 : k + 1 < x.length
    · left
      rw [drop_at h2, dec1, hcv (k + 1) h2, cond_false, map_pre] at hI
      refine ⟨_, byte_step x hx (6 * k + 2) (by omega) out (by omega) _ (eight_2 x k), ⟨6 * k + 2 + 8, rfl, by omega, by simp only [List.length_append, List.length_cons, List.length_nil]; omega, .inr (.inr ⟨k + 1, by omega, h2, ?_⟩)⟩, by dsimp only; omega⟩
      dsimp only
      rw [getDc h2, hI]
    · right
      rw [byte_end x hx (6 * k + 2) (by omega) (by omega) out]
      rw [List.drop_eq_nil_of_le (by omega)] at hI
      simp only [dec1, Option.map_some, Option.some.injEq] at hI
      rw [hI]; simp [addTo]
  · by_cases h2 : k + 1 < x.length
    · left
      rw [drop_at h2, dec1, hcv (k + 1) h2, cond_false, map_pre] at hI
      refine ⟨_, byte_step x hx (6 * k + 4) (by omega) out (by omega) _ (eight_1 x k), ⟨6 * k + 4 + 8, rfl, by omega, by simp only [List.length_append, List.length_cons, List.length_nil]; omega, .inl ⟨k + 2, by omega, by omega, ?_⟩⟩, by dsimp only; omega⟩
      dsimp only
      rw [getDc h2, hI]
    · right
      rw [byte_end x hx (6 * k + 4) (by omega) (by omega) out]
      rw [List.drop_eq_nil_of_le (by omega)] at hI
      simp only [dec1, Option.map_some, Option.some.injEq] at hI
      rw [hI]; simp [addTo]
theorem dec1_len : ∀ (l : List UInt8) (m a : Nat) (r : Dst), dec1 m a l = some r → r.1.length ≤ l.length
  | [], m, a, r, h => by simp only [dec1, Option.some.injEq] at h; rw [← h]; simp
  | c :: l, m, a, r, h => by
    by_cases hc : cv c < 0
    · rw [dec1_bad _ _ _ hc] at h; cases h
    · have hcf : decide (cv c < 0) = false := by simp; omega
      match m with
      | 0 => rw [dec1, hcf, cond_false] at h; have := dec1_len l _ _ r h; simp only [List.length_cons]; omega
      | 1 =>
        rw [dec1, hcf, cond_false, Option.map_eq_some_iff] at h
        obtain ⟨r1, h1, rfl⟩ := h
        have := dec1_len l _ _ r1 h1; simp only [pre, List.length_cons]; omega
      | 2 =>
        rw [dec1, hcf, cond_false, Option.map_eq_some_iff] at h
        obtain ⟨r1, h1, rfl⟩ := h
        have := dec1_len l _ _ r1 h1; simp only [pre, List.length_cons]; omega
      | m + 3 =>
        rw [dec1, hcf, cond_false, Option.map_eq_some_iff] at h
        obtain ⟨r1, h1, rfl⟩ := h
        have := dec1_len l _ _ r1 h1; simp only [pre, List.length_cons]; omega
theorem refFromBase64_run (x : List UInt8) (hx : x.length ≤ 4194304) : seneschalref01_FromBase64_p x = some (accept (dec1 0 0 x)) := by
  rw [seneschalref01_FromBase64_p, gather_run x hx, ← dec1_none x 0 0]
  cases h : dec1 0 0 x with
  | none => rfl
  | some r =>
    obtain ⟨o, m, a⟩ := r
    have hl := dec1_len x 0 0 _ h
    dsimp only at hl
    simp only [Option.isSome_some, cond_true, some_bind, jnO, jn_l]
    rw [bytes_run x hx _ h]
    simp only [some_bind]
    rw [refBase64_run o (by omega), some_bind]
    have e := b64_iff h
    have e2 : (b64 o != x) = (m == 3 || a != 0) := by rw [bne, e, Bool.not_not]
    rw [e2, accept]
    cases (m == 3 || a != 0) <;> rfl
/-- THE LAW. -/
theorem codecBase_plain (x0 x1 : List UInt8) (h : x0.length + x1.length ≤ 1048576) : seneschallaw01_CodecBase_p x0 x1 = some true := by
  rw [seneschallaw01_CodecBase_p, fromBase64_run x1 (by omega), refFromBase64_run x1 (by omega), awake_true, base64_run x0 (by omega), refBase64_run x0 (by omega)]
  simp only [some_bind, cond_true, beq_self_eq_true]
end Go.Proofs.YtdomaggikbmooaaDoor
