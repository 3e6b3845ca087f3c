/- What the reference makes of forms, reading; the law of forms. Conditions: as each theorem says. -/
import Derived.Test.YtdomaggikbmooaaDoorPfm
namespace Go.Proofs.YtdomaggikbmooaaDoor
open Go Go.RowKit
def preH (p : List UInt8) : List (List UInt8) → List (List UInt8)
  | a :: r => (p ++ a) :: r
  | [] => [p]
theorem preH_nil (d : UInt8) (l : List UInt8) : preH [] (splitA d l) = splitA d l := by
  obtain ⟨p, r, e⟩ := splitA_ne d l
  rw [e]; rfl
theorem preH_miss {c d : UInt8} (h : (c == d) = false) (p l : List UInt8) : preH p (splitA d (c :: l)) = preH (p ++ [c]) (splitA d l) := by
  obtain ⟨a, r, e⟩ := splitA_ne d l
  rw [splitA_miss h e, e]; simp [preH]
theorem slice_snoc (x : List UInt8) {a k : Nat} (h : k < x.length) (ha : a ≤ k) : (x.take (k + 1)).drop a = (x.take k).drop a ++ [x[k]] := by
  rw [take_succ h, List.drop_append_of_le_length (by rw [List.length_take]; omega)]
theorem pieces_run (x : List UInt8) (hx : x.length ≤ 4194304) : iter (seneschalref01_FromForm_b0 x) (0, 0, []) = some (splitA 38 x) := by
  refine iter_eq (fun s => ∃ a k : Nat, s.1 = (a : Int) ∧ s.2.1 = (k : Int) ∧ s.2.2.length ≤ k ∧ ((k ≤ x.length ∧ a ≤ k ∧ splitA 38 x = s.2.2 ++ preH ((x.take k).drop a) (splitA 38 (x.drop k))) ∨ (k = x.length + 1 ∧ splitA 38 x = s.2.2))) (fun s => x.length + 1 - s.2.1.toNat) _ (0, 0, []) ⟨0, 0, rfl, rfl, by simp, .inl ⟨by omega, by omega, ?_⟩⟩ (by show x.length + 1 - 0 < _; omega) ?_
  · simp [preH_nil]
  rintro ⟨i, j, L⟩ ⟨a, k, e1, e2, hL, hI⟩
  dsimp only at e1 e2 hL hI
  subst e1 e2
  rcases hI with ⟨hk, ha, hI⟩ | ⟨hk, hI⟩
  · left
    have hs : sub3 x (a : Int) (k : Int) = some ((x.take k).drop a) := sub3_ok ha hk
    unfold seneschalref01_FromForm_b0
    dsimp only
    rw [dec_t (show (k : Int) ≤ (x.length : Int) by omega), w64_of (x := (k : Int) + 1) (by omega) (by omega)]
    by_cases he : k = x.length
    · have e : ((k : Int) == (x.length : Int)) = true := by rw [beq_iff_eq]; omega
      rw [e, cond_true, some_bind, cond_true, hs, some_bind, app_ok (by simp only [List.length_cons, List.length_nil]; omega), some_bind, some_bind]
      refine ⟨_, rfl, ⟨k + 1, k + 1, rfl, rfl, by dsimp only; simp only [List.length_append, List.length_cons, List.length_nil]; omega, .inr ⟨by omega, ?_⟩⟩, by dsimp only; omega⟩
      dsimp only
      rw [hI, show x.drop k = [] from List.drop_eq_nil_of_le (by omega)]; simp [splitA, preH]
    · have hlt : k < x.length := by omega
      have e : ((k : Int) == (x.length : Int)) = false := by rw [beq_eq_false_iff_ne]; omega
      rw [e, cond_false, idx_ok rfl hlt]
      simp only [some_bind]
      have hcc : (((x[k]).toNat : Int) == 38) = (x[k] == 38) := by
        have := byte_all (fun c => ((c.toNat : Int) == 38) == (c == 38)) (by decide +kernel) x[k]
        exact eq_of_beq this
      rw [hcc]
      rw [drop_at hlt] at hI
      cases hc : x[k] == 38
      · rw [cond_false]
        simp only [some_bind]
        refine ⟨_, rfl, ⟨a, k + 1, rfl, rfl, by dsimp only; omega, .inl ⟨by omega, by omega, ?_⟩⟩, by dsimp only; omega⟩
        dsimp only
        rw [hI, preH_miss hc, slice_snoc x hlt ha]
      · rw [cond_true, hs, some_bind, app_ok (by simp only [List.length_cons, List.length_nil]; omega)]
        simp only [some_bind]
        refine ⟨_, rfl, ⟨k + 1, k + 1, rfl, rfl, by dsimp only; simp only [List.length_append, List.length_cons, List.length_nil]; omega, .inl ⟨by omega, by omega, ?_⟩⟩, by dsimp only; omega⟩
        dsimp only
        have e := eq_of_beq hc
        have e0 : (x.take (k + 1)).drop (k + 1) = [] := List.drop_eq_nil_of_le (by rw [List.length_take]; omega)
        rw [hI, e, splitA_hit, e0, preH_nil]; simp [preH]
  · right
    unfold seneschalref01_FromForm_b0
    dsimp only
    rw [dec_f (by omega), hI]
theorem swap_run (x : List UInt8) (hx : x.length ≤ 4194304) : seneschalref01_swap_p x (43 : UInt8) (32 : UInt8) = some (x.map plusC) := by
  have key : iter (seneschalref01_swap_b0 x 43 32) (0, []) = some (x.map plusC) := by
    refine iter_run (fun k : Nat => ((k : Int), (x.take k).map plusC)) x.length (by omega) _ (fun k hk => ?_) ?_
    · have hcc : (((x[k]).toNat : Int) == (((43 : UInt8)).toNat : Int)) = (x[k] == 43) := by
        have := byte_all (fun c => ((c.toNat : Int) == (((43 : UInt8)).toNat : Int)) == (c == 43)) (by decide +kernel) x[k]
        exact eq_of_beq this
      unfold seneschalref01_swap_b0
      dsimp only
      rw [dec_t (show (k : Int) < (x.length : Int) by omega), idx_ok rfl hk, some_bind, hcc, w64_of (x := (k : Int) + 1) (by omega) (by omega), take_succ hk, List.map_append]
      cases hc : x[k] == 43
      · rw [cond_false, some_bind, app_ok (by simp only [List.length_map, List.length_take, List.length_cons, List.length_nil]; omega), some_bind]
        simp only [List.map_cons, List.map_nil, plusC, hc, cond_false]; rfl
      · rw [cond_true, some_bind, app_ok (by simp only [List.length_map, List.length_take, List.length_cons, List.length_nil]; omega), some_bind]
        simp only [List.map_cons, List.map_nil, plusC, hc, cond_true]; rfl
    · unfold seneschalref01_swap_b0
      dsimp only
      rw [dec_f (by omega), List.take_length]
  rw [seneschalref01_swap_p, key]; rfl
theorem eq_run (p : List UInt8) (hp : p.length ≤ 4194304) : iter (seneschalref01_FromForm_b2 p) 0 = some ((eqI p : Nat) : Int) := by
  refine iter_eq (fun s => ∃ k : Nat, s = (k : Int) ∧ k ≤ p.length ∧ eqI p = k + eqI (p.drop k)) (fun s => p.length - s.toNat) _ 0 ⟨0, rfl, by omega, by simp⟩ (by show p.length - 0 < _; omega) ?_
  rintro s ⟨k, rfl, hk, hI⟩
  unfold seneschalref01_FromForm_b2
  by_cases h : k < p.length
  · rw [dec_t (show (k : Int) < (p.length : Int) by omega), idx_ok rfl h, some_bind, some_bind, w64_of (x := (k : Int) + 1) (by omega) (by omega)]
    have hcc : (((p[k]).toNat : Int) != 61) = !(p[k] == 61) := by
      have := byte_all (fun c => ((c.toNat : Int) != 61) == !(c == 61)) (by decide +kernel) p[k]
      exact eq_of_beq this
    rw [hcc]
    rw [drop_at h, eqI] at hI
    cases hc : p[k] == 61
    · left
      rw [hc, cond_false] at hI
      exact ⟨_, rfl, ⟨k + 1, by omega, by omega, by omega⟩, by omega⟩
    · right
      rw [hc, cond_true] at hI
      rw [hI]; rfl
  · right
    have : k = p.length := by omega
    subst this
    rw [List.drop_length, eqI] at hI
    rw [dec_f (by omega), some_bind, hI]; rfl
theorem refParts_run (t : List (List UInt8)) (h64 : t.length ≤ 64) (ht : ∀ p ∈ t, p.length ≤ 8192) : iter (seneschalref01_FromForm_b1 t) (0, []) = some (partsS t) := by
  refine iter_eq (fun s => ∃ k : Nat, s.1 = (k : Int) ∧ k ≤ t.length ∧ partsS t = putS s.2 (partsS (t.drop k)) ∧ s.2.length ≤ k) (fun s => t.length - s.1.toNat) _ (0, []) ⟨0, rfl, by omega, ?_, by simp⟩ (by show t.length - 0 < _; omega) ?_
  · rw [List.drop_zero]; cases partsS t <;> rfl
  rintro ⟨i, L⟩ ⟨k, e, hk, hI, hL⟩
  dsimp only at e hI hL
  subst e
  by_cases h : k < t.length
  · have hp := ht t[k] (List.getElem_mem h)
    rw [drop_at h] at hI
    have hle := eqI_le t[k]
    have hval : (bif decide (((eqI t[k] : Nat) : Int) < (t[k].length : Int)) then (Option.bind (subL t[k] (w64 (((eqI t[k] : Nat) : Int) + 1))) fun y6 => some (y6)) else (some (([] : List UInt8)))) = some (t[k].drop (eqI t[k] + 1)) := by
      by_cases he : eqI t[k] < t[k].length
      · rw [dec_t (by omega), w64_of (by omega) (by omega), show ((eqI t[k] : Nat) : Int) + 1 = ((eqI t[k] + 1 : Nat) : Int) by omega, subL_ok (by omega), some_bind]
      · rw [dec_f (by omega), List.drop_eq_nil_of_le (by omega)]
    have hkey : subH t[k] ((eqI t[k] : Nat) : Int) = some (t[k].take (eqI t[k])) := subH_ok hle
    have q1 := swap_run (t[k].take (eqI t[k])) (by rw [List.length_take]; omega)
    have q2 := swap_run (t[k].drop (eqI t[k] + 1)) (by rw [List.length_drop]; omega)
    have q3 : seneschalref01_FromPercent_p ((t[k].take (eqI t[k])).map plusC) = some (keyS t[k]) := refFromPercent_run _ (by rw [List.length_map, List.length_take]; omega)
    have q4 : seneschalref01_FromPercent_p ((t[k].drop (eqI t[k] + 1)).map plusC) = some (valS t[k]) := refFromPercent_run _ (by rw [List.length_map, List.length_drop]; omega)
    unfold seneschalref01_FromForm_b1
    dsimp only
    rw [dec_t (show (k : Int) < (t.length : Int) by omega), idx_ok rfl h, some_bind]
    cases hn : t[k] == []
    · rw [cond_false, eq_run _ (by omega)]
      simp only [some_bind, hval, hkey, q1, q2, q3, q4]
      rw [partsS, hn, cond_false] at hI
      cases hb : (bif ((keyS t[k]).2 != 0) then true else ((valS t[k]).2 != 0))
      · left
        rw [hb, cond_false, putS_cons] at hI
        rw [cond_false, app_ok (by simp only [List.length_cons, List.length_nil]; omega), some_bind, jn_l, w64_of (by omega) (by omega)]
        exact ⟨_, rfl, ⟨k + 1, by dsimp only; omega, by omega, hI, by dsimp only; simp only [List.length_append, List.length_cons, List.length_nil]; omega⟩, by dsimp only; omega⟩
      · right
        rw [hb, cond_true] at hI
        rw [hI]; rfl
    · right
      rw [partsS, hn, cond_true] at hI
      rw [hI]; rfl
  · right
    have : k = t.length := by omega
    subst this
    rw [List.drop_length] at hI
    unfold seneschalref01_FromForm_b1
    dsimp only
    rw [dec_f (by omega), hI]
    simp [partsS, putS]
theorem refFromForm_run (x : List UInt8) (hx : x.length ≤ 4194304) : seneschalref01_FromForm_p x = some (fromS x) := by
  rw [seneschalref01_FromForm_p, fromS]
  by_cases h1 : (8192 : Int) < (x.length : Int)
  · rw [dec_t h1, dec_t h1]; rfl
  · rw [dec_f h1, dec_f h1]
    cases hn : x == []
    · rw [cond_false, pieces_run x hx]
      simp only [some_bind]
      by_cases h2 : (64 : Int) < ((splitA 38 x).length : Int)
      · rw [dec_t h2, dec_t h2]
      · rw [dec_f h2, dec_f h2, cond_false, refParts_run _ (by omega) (fun p hp => by have := splitA_mem 38 x p hp; omega)]
        cases partsS (splitA 38 x) <;> rfl
    · have e : x = [] := eq_of_beq hn
      subst e; rfl
theorem same_run (a : List Pr2) (ha : a.length ≤ 4194304) : seneschalref01_Same_p a a = some true := by
  have key : iter (seneschalref01_Same_b0 a a) 0 = some (.inr ()) := by
    refine iter_run (fun k : Nat => (k : Int)) a.length (by omega) _ (fun k hk => ?_) ?_
    · unfold seneschalref01_Same_b0
      rw [dec_t (show (k : Int) < (a.length : Int) by omega), idx_ok rfl hk, some_bind, some_bind, w64_of (by omega) (by omega)]
      simp only [beq_self_eq_true, Bool.and_self, Bool.not_true, cond_false]
      rfl
    · unfold seneschalref01_Same_b0
      rw [dec_f (by omega)]
  have : ((a.length : Int) != (a.length : Int)) = false := by simp
  rw [seneschalref01_Same_p, this, key]; rfl
theorem setL_ok {α : Type} {l : List α} {k : Nat} {x : α} (h : k < l.length) : setL l (k : Int) x = some (l.set k x) := by
  unfold setL
  have : (decide (0 ≤ (k : Int)) && decide ((k : Int) < (l.length : Int))) = true := by simp; omega
  rw [this]; rfl
theorem spoil_run (l : List Pr2) (hl : l.length ≤ 4194304) : ∃ l', iter seneschallaw01_CodecForm_b1 (0, l) = some l' ∧ l'.length = l.length := by
  refine iter_ind (fun s => ∃ k : Nat, s.1 = (k : Int) ∧ k ≤ l.length ∧ s.2.length = l.length) (fun s => l.length - s.1.toNat) (fun l' : List Pr2 => l'.length = l.length) (0, l) ⟨0, rfl, by omega, rfl⟩ (by show l.length - 0 < _; omega) ?_
  rintro ⟨i, L⟩ ⟨k, e, hk, hL⟩
  dsimp only at e hL
  subst e
  unfold seneschallaw01_CodecForm_b1
  dsimp only
  by_cases h : k < l.length
  · left
    have h' : k < L.length := by omega
    rw [dec_t (by omega), idx_ok rfl h', some_bind, setL_ok h', some_bind, w64_of (by omega) (by omega)]
    exact ⟨_, rfl, ⟨k + 1, by dsimp only; omega, by omega, by simpa using hL⟩, by dsimp only; omega⟩
  · right
    rw [dec_f (by omega)]
    exact ⟨L, rfl, hL⟩
theorem partsS_len : ∀ (t : List (List UInt8)) (l : List Pr2), partsS t = .inr l → l.length = t.length
  | [], l, h => by simp only [partsS, Sum.inr.injEq] at h; rw [← h]; rfl
  | p :: r, l, h => by
    rw [partsS] at h
    cases hn : p == []
    · rw [hn, cond_false] at h
      cases hb : (bif ((keyS p).2 != 0) then true else ((valS p).2 != 0))
      · rw [hb, cond_false] at h
        cases hr : partsS r with
        | inl e => rw [hr] at h; cases h
        | inr m =>
          rw [hr] at h
          simp only [consS, Sum.inr.injEq] at h
          rw [← h]; simp only [List.length_cons, partsS_len r m hr]
      · rw [hb, cond_true] at h; cases h
    · rw [hn, cond_true] at h; cases h
theorem fromS_len (x : List UInt8) : (fromS x).1.length ≤ 64 := by
  unfold fromS
  cases hb : (bif decide ((8192 : Int) < (x.length : Int)) then true else decide ((64 : Int) < ((splitA 38 x).length : Int)))
  · rw [cond_false]
    have h1 : ¬ (8192 : Int) < (x.length : Int) := by
      intro h; rw [decide_eq_true h, cond_true] at hb; cases hb
    rw [dec_f h1, decide_eq_false_iff_not] at hb
    cases x == []
    · rw [cond_false]
      cases hp : partsS (splitA 38 x) with
      | inl e =>
        have : ∀ t : List (List UInt8), ∀ e, partsS t = .inl e → e.1 = [] := by
          intro t
          induction t with
          | nil => intro e h; cases h
          | cons p r ih =>
            intro e h
            rw [partsS] at h
            cases hn : p == []
            · rw [hn, cond_false] at h
              cases hb : (bif ((keyS p).2 != 0) then true else ((valS p).2 != 0))
              · rw [hb, cond_false] at h
                cases hr : partsS r with
                | inl e' =>
                  rw [hr] at h
                  simp only [consS, Sum.inl.injEq] at h
                  rw [← h]; exact ih e' hr
                | inr m => rw [hr] at h; cases h
              · rw [hb, cond_true] at h
                simp only [Sum.inl.injEq] at h
                rw [← h]
            · rw [hn, cond_true] at h
              simp only [Sum.inl.injEq] at h
              rw [← h]
        simp only [finS]; rw [this _ e hp]; simp
      | inr l =>
        have := partsS_len _ l hp
        simp only [finS]; omega
    · simp
  · simp
/-- THE LAW. -/
theorem codecForm_plain (x0 : List Pr2) (x1 : List UInt8) (h : pairsLen x0 + x1.length ≤ 1048576) : seneschallaw01_CodecForm_p x0 x1 = some true := by
  have hlen := fromS_len x1
  have key : iter (seneschallaw01_CodecForm_b0 x1) 0 = some (.inr ()) := by
    refine iter_run (fun k : Nat => (k : Int)) 2 (by omega) _ (fun k hk => ?_) ?_
    · obtain ⟨l', h1, h2⟩ := spoil_run (fromS x1).1 (by omega)
      have hne : ((fromS x1).2 != (fromS x1).2) = false := by simp
      unfold seneschallaw01_CodecForm_b0
      rw [dec_t (show (k : Int) < 2 by omega), fromForm_run x1 (by omega), refFromForm_run x1 (by omega)]
      simp only [some_bind, hne, cond_false, same_run _ (show (fromS x1).1.length ≤ 4194304 by omega), Bool.not_true, h1]
      rw [app_ok (by simp only [List.length_cons, List.length_nil]; omega), some_bind, jn_l, w64_of (by omega) (by omega)]
      rfl
    · unfold seneschallaw01_CodecForm_b0
      rw [dec_f (by decide)]
  have hne1 : ((formS x0).1 != (formS x0).1) = false := by simp
  have hne2 : ((formS x0).2 != (formS x0).2) = false := by simp
  rw [seneschallaw01_CodecForm_p, form_run x0 (by omega), refForm_run x0 (by omega), awake_true]
  simp only [some_bind, Bool.not_true, cond_false, hne1, hne2, key]
  rfl
end Go.Proofs.YtdomaggikbmooaaDoor
