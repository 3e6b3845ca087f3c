/- What package codec and its reference make of forms. Conditions: as each theorem says. -/
import Derived.Test.YtdomaggikbmooaaDoorPct
import Derived.Test.YtdomaggikbmooaaDoorPge
import Derived.Test.YtdomaggikbmooaaDoorJs
namespace Go.Proofs.YtdomaggikbmooaaDoor
open Go Go.RowKit
/-! ### Writing -/
def joinA : List (List UInt8) → List UInt8
  | [] => []
  | [a] => a
  | a :: b :: l => a ++ 38 :: joinA (b :: l)
theorem join_joinA : ∀ l : List (List UInt8), Lib.join l [38] = joinA l
  | [] => rfl
  | [a] => by simp [Lib.join, List.intercalate, joinA]
  | a :: b :: l => by
    have ih := join_joinA (b :: l)
    have e : Lib.join (a :: b :: l) [38] = a ++ ([38] ++ Lib.join (b :: l) [38]) := by simp [Lib.join, List.intercalate, List.intersperse]
    rw [e, ih, joinA]; simp
theorem joinA_snoc : ∀ (l : List (List UInt8)) (a : List UInt8), l ≠ [] → joinA (l ++ [a]) = joinA l ++ [38] ++ a
  | [], a, h => absurd rfl h
  | [b], a, _ => by simp [joinA]
  | b :: c :: l, a, _ => by
    have ih := joinA_snoc (c :: l) a (by simp)
    rw [List.cons_append] at ih
    simp only [List.cons_append, joinA, ih]
    simp
def piece1 (p : Pr2) : List UInt8 := pctL [43] p.1 ++ [61] ++ pctL [43] p.2
def formL (x : List Pr2) : List UInt8 := joinA (x.map piece1)
theorem piece1_len (p : Pr2) : (piece1 p).length ≤ 3 * p.1.length + 3 * p.2.length + 1 := by
  have h1 := pctL_len [43] p.1 (by decide)
  have h2 := pctL_len [43] p.2 (by decide)
  simp only [piece1, List.length_append, List.length_cons, List.length_nil]; omega
theorem formL_len : ∀ x : List Pr2, (formL x).length ≤ 3 * pairsLen x
  | [] => by simp [formL, joinA]
  | [p] => by
    have := piece1_len p
    simp only [formL, List.map_cons, List.map_nil, joinA, pairsLen, List.sum_cons, List.sum_nil]; omega
  | p :: q :: r => by
    have ih := formL_len (q :: r)
    have := piece1_len p
    simp only [formL, List.map_cons, List.map_nil, joinA, pairsLen, List.sum_cons, List.sum_nil, List.length_append, List.length_cons] at *; omega
theorem pairsLen_take (x : List Pr2) (k : Nat) : pairsLen (x.take k) ≤ pairsLen x := by
  induction x generalizing k with
  | nil => simp [pairsLen]
  | cons a x ih =>
    cases k with
    | zero => simp [pairsLen]
    | succ k =>
      have := ih k
      simp only [List.take_succ_cons, pairsLen, List.map_cons, List.sum_cons] at *; omega
def limit (y : List UInt8) : List UInt8 × Int := bif decide ((8192 : Int) < (y.length : Int)) then ([], 14) else (y, 0)
def formS (x : List Pr2) : List UInt8 × Int := bif decide ((64 : Int) < (x.length : Int)) then ([], 14) else limit (formL x)
theorem form_run (x : List Pr2) (hx : pairsLen x ≤ 1048576) : codec_Form_p x = some (formS x) := by
  have hn := pairsLen_length x
  rw [codec_Form_p, formS]
  by_cases h64 : (64 : Int) < (x.length : Int)
  · rw [dec_t h64, dec_t h64]
  · rw [dec_f h64, dec_f h64]
    have key : iter (codec_Form_b0 x) ([], 0) = some (x.map piece1) := by
      refine iter_run (fun k : Nat => ((x.take k).map piece1, (k : Int))) x.length (by omega) _ (fun k hk => ?_) ?_
      · have hm := pairsLen_mem (List.getElem_mem hk)
        have h1 := pctL_len [43] x[k].1 (by decide)
        have h2 := pctL_len [43] x[k].2 (by decide)
        unfold codec_Form_b0
        dsimp only
        rw [dec_t (show (k : Int) < (x.length : Int) by omega), idx_ok rfl hk, some_bind, percent_run _ _ (by decide) (by omega), some_bind, app_ok (by simp only [List.length_cons, List.length_nil]; omega), some_bind, percent_run _ _ (by decide) (by omega), some_bind,
          app_ok (by simp only [List.length_append, List.length_cons, List.length_nil]; omega), some_bind, app_ok (by simp only [List.length_map, List.length_take, List.length_cons, List.length_nil]; omega), some_bind, w64_of (by omega) (by omega), take_succ hk, List.map_append]
        rfl
      · unfold codec_Form_b0
        dsimp only
        rw [dec_f (by omega), List.take_length]
    rw [key]
    have hl := formL_len x
    have hj : Join_p (x.map piece1) [38] = some (formL x) := by
      unfold Join_p
      rw [join_joinA, show joinA (x.map piece1) = formL x from rfl]
      have hc : (decide ((x.map piece1).length ≤ 68719476736) && decide ((formL x).length ≤ 68719476736)) = true := by
        rw [List.length_map]; simp only [Bool.and_eq_true, decide_eq_true_eq]; omega
      rw [hc]; rfl
    simp only [some_bind, hj, limit]
    cases decide ((8192 : Int) < ((formL x).length : Int)) <;> rfl
theorem refForm_run (x : List Pr2) (hx : pairsLen x ≤ 1048576) : seneschalref01_Form_p x = some (formS x) := by
  have hn := pairsLen_length x
  rw [seneschalref01_Form_p, formS]
  by_cases h64 : (64 : Int) < (x.length : Int)
  · rw [dec_t h64, dec_t h64]
  · rw [dec_f h64, dec_f h64]
    have key : iter (seneschalref01_Form_b0 x) ([], 0) = some (formL x) := by
      refine iter_run (fun k : Nat => (formL (x.take k), (k : Int))) x.length (by omega) _ (fun k hk => ?_) ?_
      · have hm := pairsLen_mem (List.getElem_mem hk)
        have h1 := pctL_len [43] x[k].1 (by decide)
        have h2 := pctL_len [43] x[k].2 (by decide)
        have hl := formL_len (x.take k)
        have ht := pairsLen_take x k
        unfold seneschalref01_Form_b0
        dsimp only
        rw [dec_t (show (k : Int) < (x.length : Int) by omega), idx_ok rfl hk]
        have w1 := refWord_run x[k].1 (by omega)
        have w2 := refWord_run x[k].2 (by omega)
        have a1 : app (pctL [43] x[k].1) [61] = some (pctL [43] x[k].1 ++ [61]) := app_ok (by simp only [List.length_cons, List.length_nil]; omega)
        have a2 : app (pctL [43] x[k].1 ++ [61]) (pctL [43] x[k].2) = some (piece1 x[k]) := app_ok (by simp only [List.length_append, List.length_cons, List.length_nil]; omega)
        have hpl := piece1_len x[k]
        simp only [some_bind, w1, w2, a1, a2]
        rw [w64_of (by omega) (by omega)]
        by_cases h0 : k = 0
        · subst h0
          rw [dec_f (by decide), some_bind, app_ok (by omega), some_bind, take_succ hk]
          simp [formL, joinA]
        · rw [dec_t (show (0 : Int) < (k : Int) by omega), app_ok (by simp only [List.length_cons, List.length_nil]; omega), some_bind, some_bind, app_ok (by simp only [List.length_append, List.length_cons, List.length_nil]; omega), some_bind, take_succ hk]
          have e : formL (x.take k ++ [x[k]]) = formL (x.take k) ++ [38] ++ piece1 x[k] := by
            unfold formL
            rw [List.map_append, List.map_cons, List.map_nil, joinA_snoc _ _ (by
              intro e
              have := congrArg List.length e
              simp only [List.length_map, List.length_take, List.length_nil] at this; omega)]
          rw [e]; rfl
      · unfold seneschalref01_Form_b0
        dsimp only
        rw [dec_f (by omega), List.take_length]
    rw [key]
    simp only [some_bind, limit]
    cases decide ((8192 : Int) < ((formL x).length : Int)) <;> rfl
/-! ### Reading: cutting at a byte -/
def splitA (d : UInt8) : List UInt8 → List (List UInt8)
  | [] => [[]]
  | c :: l => bif c == d then [] :: splitA d l else match splitA d l with
    | p :: r => (c :: p) :: r
    | [] => [[c]]
theorem splitA_ne (d : UInt8) : ∀ l, ∃ p r, splitA d l = p :: r
  | [] => ⟨[], [], rfl⟩
  | c :: l => by
    obtain ⟨p, r, e⟩ := splitA_ne d l
    unfold splitA
    cases c == d
    · rw [e]; exact ⟨_, _, rfl⟩
    · exact ⟨_, _, rfl⟩
theorem splitA_hit (d : UInt8) (l : List UInt8) : splitA d (d :: l) = [] :: splitA d l := by
  rw [splitA]; simp
theorem splitA_miss {c d : UInt8} (h : (c == d) = false) {l p : List UInt8} {r : List (List UInt8)} (e : splitA d l = p :: r) : splitA d (c :: l) = (c :: p) :: r := by
  rw [splitA, h, cond_false, e]
theorem splitK_A (d : UInt8) : ∀ (s : List UInt8) (k : Nat), Lib.count s [d] ≤ k → Lib.splitK [d] 0 k s = splitA d s
  | [], k, _ => by
    cases k with
    | zero => rfl
    | succ k => rfl
  | c :: l, k, h => by
    cases hc : c == d
    · have hne : c ≠ d := by rw [beq_eq_false_iff_ne] at hc; exact hc
      rw [Lib.count_cons_ne _ _ _ hne] at h
      have ih := splitK_A d l k h
      have hdc : (d == c) = false := by rw [beq_eq_false_iff_ne]; exact fun e => hne e.symm
      have hg := Lib.index_ge l [d]
      cases k with
      | zero =>
        rw [Lib.splitK] at ih
        rw [splitA_miss hc ih.symm]; rfl
      | succ k =>
        rw [Lib.splitK] at ih ⊢
        rw [index1_cons, hdc]
        by_cases h1 : Lib.index l [d] = -1
        · rw [h1] at ih
          rw [if_pos (by decide)] at ih
          rw [splitA_miss hc ih.symm, h1]; rfl
        · have h2 : (Lib.index l [d] == -1) = false := by rw [beq_eq_false_iff_ne]; exact h1
          rw [h2] at ih
          rw [if_neg (by decide)] at ih
          rw [splitA_miss hc ih.symm, h2]
          have h3 : (Lib.index l [d] + 1 == -1) = false := by rw [beq_eq_false_iff_ne]; omega
          simp only [Bool.false_eq_true, if_false, h3]
          have h4 : (Lib.index l [d] + 1).toNat = (Lib.index l [d]).toNat + 1 := by omega
          rw [h4, show (Lib.index l [d]).toNat + 1 + 0 = ((Lib.index l [d]).toNat + 0) + 1 by omega, List.take_succ_cons, show (Lib.index l [d]).toNat + 0 + 1 + [d].length = ((Lib.index l [d]).toNat + [d].length) + 1 by omega, List.drop_succ_cons]
          rfl
    · have e := eq_of_beq hc
      subst e
      rw [Lib.count_cons_eq] at h
      match k, h with
      | k + 1, h =>
        rw [Lib.splitK, index1_cons]
        simp only [beq_self_eq_true, if_true]
        rw [splitA_hit, ← splitK_A c l k (by omega)]
        rfl
      | 0, h => omega
theorem Split_ok {s : List UInt8} {d : UInt8} (h : s.length ≤ 4194304) : Split_p s [d] = some (splitA d s) := by
  have hc : (decide (s.length < 4294967281) && decide (1 ≤ [d].length)) = true := by simp; omega
  unfold Split_p
  rw [hc, cond_true, Lib.split, splitK_A d s _ (Nat.le_refl _)]
def plusC (c : UInt8) : UInt8 := bif c == 43 then 32 else c
theorem replaceK_A : ∀ (s : List UInt8) (k : Nat), Lib.count s [43] ≤ k → Lib.replaceK [43] [32] k s = s.map plusC
  | [], k, _ => by
    cases k with
    | zero => rfl
    | succ k => rfl
  | c :: l, k, h => by
    cases hc : c == 43
    · have hne : c ≠ 43 := by rw [beq_eq_false_iff_ne] at hc; exact hc
      rw [Lib.count_cons_ne _ _ _ hne] at h
      have ih := replaceK_A l k h
      have hdc : ((43 : UInt8) == c) = false := by rw [beq_eq_false_iff_ne]; exact fun e => hne e.symm
      have hg := Lib.index_ge l [43]
      have hp : plusC c = c := by unfold plusC; rw [hc]; rfl
      cases k with
      | zero =>
        rw [Lib.replaceK] at ih ⊢
        rw [List.map_cons, ← ih, hp]
      | succ k =>
        rw [Lib.replaceK] at ih ⊢
        rw [index1_cons, hdc, List.map_cons, ← ih, hp]
        by_cases h1 : Lib.index l [43] = -1
        · rw [h1]; rfl
        · have h2 : (Lib.index l [43] == -1) = false := by rw [beq_eq_false_iff_ne]; exact h1
          have h3 : (Lib.index l [43] + 1 == -1) = false := by rw [beq_eq_false_iff_ne]; omega
          have h4 : (Lib.index l [43] + 1).toNat = (Lib.index l [43]).toNat + 1 := by omega
          simp only [Bool.false_eq_true, if_false, h2, h3]
          rw [h4, List.take_succ_cons, show (Lib.index l [43]).toNat + 1 + [(43 : UInt8)].length = ((Lib.index l [43]).toNat + [(43 : UInt8)].length) + 1 by omega, List.drop_succ_cons]
          rfl
    · have e := eq_of_beq hc
      subst e
      rw [Lib.count_cons_eq] at h
      match k, h with
      | k + 1, h =>
        rw [Lib.replaceK, index1_cons]
        simp only [beq_self_eq_true, if_true]
        rw [List.map_cons, ← replaceK_A l k (by omega)]
        rfl
      | 0, h => omega
theorem Replace_ok {s : List UInt8} (h : s.length ≤ 4194304) : ReplaceAll_p s [43] [32] = some (s.map plusC) := by
  have hcb := Lib.countB_le ⟨([43] : List UInt8).toArray⟩ (by decide) s.length ⟨s.toArray⟩ (by simp [str_size])
  rw [str_size] at hcb
  have hc : (decide (s.length < 4294967281) && decide (1 ≤ ([43] : List UInt8).length) && decide (s.length + Lib.countB ⟨s.toArray⟩ ⟨([43] : List UInt8).toArray⟩ * ([32] : List UInt8).length ≤ 140737488355328)) = true := by
    simp only [Bool.and_eq_true, decide_eq_true_eq, List.length_cons, List.length_nil]; omega
  unfold ReplaceAll_p
  rw [hc, cond_true, Lib.replaceAll, Lib.replace, if_neg (by decide)]
  have : Lib.replaceNum s [43] (-1) = Lib.count s [43] := by unfold Lib.replaceNum; rw [if_pos (by omega)]
  rw [this, replaceK_A s _ (Nat.le_refl _)]
/-- Where the first sign of equality stands; the length, where there is none. -/
def eqI : List UInt8 → Nat
  | [] => 0
  | c :: l => bif c == 61 then 0 else eqI l + 1
theorem eqI_le : ∀ l, eqI l ≤ l.length
  | [] => Nat.le_refl _
  | c :: l => by
    have := eqI_le l
    unfold eqI
    cases c == 61
    · simp only [cond_false, List.length_cons]; omega
    · simp
theorem plusC_61 (c : UInt8) : (plusC c == 61) = (c == 61) := by
  have := byte_all (fun c => (plusC c == 61) == (c == 61)) (by decide +kernel) c
  exact eq_of_beq this
theorem eqI_map : ∀ l : List UInt8, eqI (l.map plusC) = eqI l
  | [] => rfl
  | c :: l => by rw [List.map_cons, eqI, eqI, eqI_map l, plusC_61]
theorem cut_eqI : ∀ l : List UInt8, (Lib.cut l [61]).1 = l.take (eqI l) ∧ (Lib.cut l [61]).2.1 = l.drop (eqI l + 1)
  | [] => ⟨rfl, rfl⟩
  | c :: l => by
    have ih := cut_eqI l
    cases hc : c == 61
    · have hdc : ((61 : UInt8) == c) = false := by rw [beq_eq_false_iff_ne] at *; exact fun e => hc e.symm
      rw [cut_miss hdc, eqI, hc, cond_false]
      exact ⟨by rw [ih.1, List.take_succ_cons], by rw [ih.2, List.drop_succ_cons]⟩
    · have e := eq_of_beq hc
      subst e
      rw [cut_hit, eqI]; exact ⟨rfl, rfl⟩
/-! ### Reading: pieces and pairs -/
def keyS (p : List UInt8) : List UInt8 × Int := orNo 12 (unpct ((p.take (eqI p)).map plusC))
def valS (p : List UInt8) : List UInt8 × Int := orNo 12 (unpct ((p.drop (eqI p + 1)).map plusC))
def consS (x : Pr2) (s : List Pr2 × Int ⊕ List Pr2) : List Pr2 × Int ⊕ List Pr2 := match s with
  | .inl e => .inl e
  | .inr l => .inr (x :: l)
def putS (l : List Pr2) (s : List Pr2 × Int ⊕ List Pr2) : List Pr2 × Int ⊕ List Pr2 := match s with
  | .inl e => .inl e
  | .inr m => .inr (l ++ m)
def partsS : List (List UInt8) → List Pr2 × Int ⊕ List Pr2
  | [] => .inr []
  | p :: r => bif p == [] then .inl ([], 13) else bif (bif ((keyS p).2 != 0) then true else ((valS p).2 != 0)) then .inl ([], 12) else consS ((keyS p).1, (valS p).1) (partsS r)
theorem putS_cons (l : List Pr2) (x : Pr2) (s : List Pr2 × Int ⊕ List Pr2) : putS l (consS x s) = putS (l ++ [x]) s := by cases s <;> simp [putS, consS]
def finS (s : List Pr2 × Int ⊕ List Pr2) : List Pr2 × Int := match s with
  | .inl e => e
  | .inr l => (l, 0)
def fromS (x : List UInt8) : List Pr2 × Int := bif (bif decide ((8192 : Int) < (x.length : Int)) then true else decide ((64 : Int) < ((splitA 38 x).length : Int))) then ([], 14) else bif x == [] then ([], 0) else finS (partsS (splitA 38 x))
theorem splitA_mem (d : UInt8) : ∀ (x p : List UInt8), p ∈ splitA d x → p.length ≤ x.length
  | [], p, h => by simp [splitA] at h; subst h; simp
  | c :: x, p, h => by
    cases hc : c == d
    · obtain ⟨a, r, e⟩ := splitA_ne d x
      rw [splitA_miss hc e] at h
      rcases List.mem_cons.1 h with rfl | h
      · have := splitA_mem d x a (by rw [e]; exact List.mem_cons_self)
        simp only [List.length_cons]; omega
      · have := splitA_mem d x p (by rw [e]; exact List.mem_cons_of_mem _ h)
        simp only [List.length_cons]; omega
    · have e := eq_of_beq hc
      subst e
      rw [splitA_hit] at h
      rcases List.mem_cons.1 h with rfl | h
      · simp
      · have := splitA_mem c x p h
        simp only [List.length_cons]; omega
theorem ownParts_run (t : List (List UInt8)) (h64 : t.length ≤ 64) (ht : ∀ p ∈ t, p.length ≤ 8192) : iter (codec_FromForm_b0 t) ([], 0) = some (partsS t) := by
  refine iter_eq (fun s => ∃ k : Nat, s.2 = (k : Int) ∧ k ≤ t.length ∧ partsS t = putS s.1 (partsS (t.drop k)) ∧ s.1.length ≤ k) (fun s => t.length - s.2.toNat) _ ([], 0) ⟨0, rfl, by omega, ?_, by simp⟩ (by show t.length - 0 < _; omega) ?_
  · rw [List.drop_zero]; cases partsS t <;> rfl
  rintro ⟨L, i⟩ ⟨k, e, hk, hI, hL⟩
  dsimp only at e hI hL
  subst e
  by_cases h : k < t.length
  · have hp := ht t[k] (List.getElem_mem h)
    rw [drop_at h] at hI
    have hcut := cut_eqI (t[k].map plusC)
    have hle := eqI_le t[k]
    have e1 : (Lib.cut (t[k].map plusC) [61]).1 = (t[k].take (eqI t[k])).map plusC := by rw [hcut.1, eqI_map, List.map_take]
    have e2 : (Lib.cut (t[k].map plusC) [61]).2.1 = (t[k].drop (eqI t[k] + 1)).map plusC := by rw [hcut.2, eqI_map, List.map_drop]
    unfold codec_FromForm_b0
    dsimp only
    rw [dec_t (show (k : Int) < (t.length : Int) by omega), idx_ok rfl h, some_bind]
    cases hn : t[k] == []
    · rw [cond_false, Replace_ok (by omega), some_bind, Cut_ok (by rw [List.length_map]; omega), some_bind, e1, e2, fromPercent_run _ (by rw [List.length_map, List.length_take]; omega), some_bind, fromPercent_run _ (by rw [List.length_map, List.length_drop]; omega), some_bind]
      rw [partsS, hn, cond_false] at hI
      show _ ∨ _
      have ek : orNo 12 (unpct ((t[k].take (eqI t[k])).map plusC)) = keyS t[k] := rfl
      have ev : orNo 12 (unpct ((t[k].drop (eqI t[k] + 1)).map plusC)) = valS t[k] := rfl
      rw [ek, ev]
      cases hb : (bif ((keyS t[k]).2 != 0) then true else ((valS t[k]).2 != 0))
      · left
        rw [hb, cond_false, putS_cons] at hI
        rw [cond_false, app_ok (by simp only [List.length_cons, List.length_nil]; omega), some_bind, w64_of (by omega) (by omega)]
        exact ⟨_, rfl, ⟨k + 1, by dsimp only; omega, by omega, hI, by dsimp only; simp only [List.length_append, List.length_cons, List.length_nil]; omega⟩, by dsimp only; omega⟩
      · right
        rw [hb, cond_true] at hI
        rw [hI]; rfl
    · right
      rw [partsS, hn, cond_true] at hI
      rw [hI]; rfl
  · right
    have : k = t.length := by omega
    subst this
    rw [List.drop_length] at hI
    unfold codec_FromForm_b0
    dsimp only
    rw [dec_f (by omega), hI]
    simp [partsS, putS]
theorem splitA_len (d : UInt8) (x : List UInt8) : (splitA d x).length ≤ x.length + 1 := by
  induction x with
  | nil => simp [splitA]
  | cons c x ih =>
    cases hc : c == d
    · obtain ⟨a, r, e⟩ := splitA_ne d x
      rw [splitA_miss hc e]
      rw [e] at ih
      simp only [List.length_cons] at *; omega
    · have e := eq_of_beq hc
      subst e
      rw [splitA_hit]; simp only [List.length_cons]; omega
theorem fromForm_run (x : List UInt8) (hx : x.length ≤ 4194304) : codec_FromForm_p x = some (fromS x) := by
  rw [codec_FromForm_p, Split_ok hx, some_bind, fromS]
  cases hb : (bif decide ((8192 : Int) < (x.length : Int)) then true else decide ((64 : Int) < ((splitA 38 x).length : Int)))
  · rw [cond_false, cond_false]
    cases hn : x == []
    · rw [cond_false, cond_false]
      have h1 : ¬ (8192 : Int) < (x.length : Int) := by
        intro h; rw [decide_eq_true h, cond_true] at hb; cases hb
      rw [dec_f h1, decide_eq_false_iff_not] at hb
      rw [ownParts_run _ (by omega) (fun p hp => by have := splitA_mem 38 x p hp; omega)]
      cases partsS (splitA 38 x) <;> rfl
    · rfl
  · rfl
end Go.Proofs.YtdomaggikbmooaaDoor
