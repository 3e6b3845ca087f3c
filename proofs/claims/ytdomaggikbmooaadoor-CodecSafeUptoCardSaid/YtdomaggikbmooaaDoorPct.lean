/- What package codec and its reference make of percent texts. Conditions: as each theorem says. -/
import Derived.Test.YtdomaggikbmooaaDoorPha
namespace Go.Proofs.YtdomaggikbmooaaDoor
open Go Go.RowKit
def pl (c : UInt8) : Bool := (seneschalref01_plain_p c).getD false
theorem pl_ref (c : UInt8) : seneschalref01_plain_p c = some (pl c) := rfl
theorem pl_own (c : UInt8) : (bif (bif (bif (bif decide ((65 : Int) ≤ ((c).toNat : Int)) then decide (((c).toNat : Int) ≤ 90) else false) then true else (bif decide ((97 : Int) ≤ ((c).toNat : Int)) then decide (((c).toNat : Int) ≤ 122) else false)) then true else (bif decide ((48 : Int) ≤ ((c).toNat : Int)) then decide (((c).toNat : Int) ≤ 57) else false)) then (some (true)) else (Option.bind (codec_index_p ([45, 46, 95, 126] : List UInt8) c) fun y2 => some (decide ((0 : Int) ≤ y2)))) = some (pl c) := by
  rw [index_run _ _ rfl (by decide)]
  have := byte_all (fun c => (bif (bif (bif (bif decide ((65 : Int) ≤ ((c).toNat : Int)) then decide (((c).toNat : Int) ≤ 90) else false) then true else (bif decide ((97 : Int) ≤ ((c).toNat : Int)) then decide (((c).toNat : Int) ≤ 122) else false)) then true else (bif decide ((48 : Int) ≤ ((c).toNat : Int)) then decide (((c).toNat : Int) ≤ 57) else false)) then (some (true)) else (Option.bind (some (findI ([45, 46, 95, 126] : List UInt8) c)) fun y2 => some (decide ((0 : Int) ≤ y2)))) == some (pl c)) (by decide +kernel) c
  exact eq_of_beq this
def hu (n : Nat) : UInt8 := hexU.getD n 0
/-- A byte's text, where a blank is told as sp. -/
def pctB (sp : List UInt8) (c : UInt8) : List UInt8 := bif pl c then [c] else bif (((c).toNat : Int) == 32) then sp else [37, hu (c.toNat / 16), hu (c.toNat % 16)]
def pctL (sp x : List UInt8) : List UInt8 := x.flatMap (pctB sp)
theorem pctL_snoc (sp x : List UInt8) (b : UInt8) : pctL sp (x ++ [b]) = pctL sp x ++ pctB sp b := by simp [pctL]
theorem pctB_len (sp : List UInt8) (c : UInt8) (h : sp.length ≤ 3) : (pctB sp c).length ≤ 3 := by
  unfold pctB
  cases pl c
  · cases (((c).toNat : Int) == 32)
    · simp
    · simpa using h
  · simp
theorem pctL_len (sp x : List UInt8) (h : sp.length ≤ 3) : (pctL sp x).length ≤ 3 * x.length := by
  induction x with
  | nil => simp [pctL]
  | cons a x ih =>
    have := pctB_len sp a h
    simp only [pctL, List.flatMap_cons, List.length_append, List.length_cons] at *; omega
theorem sub_own (c : UInt8) : sub3 hexU (((i8 (shrI .u8 ((c).toNat : Int) 4))).toNat : Int) (((i8 ((((i8 (shrI .u8 ((c).toNat : Int) 4))).toNat : Int) + 1))).toNat : Int) = some [hu (c.toNat / 16)] ∧
    sub3 hexU (((c &&& (15 : UInt8))).toNat : Int) (((i8 ((((c &&& (15 : UInt8))).toNat : Int) + 1))).toNat : Int) = some [hu (c.toNat % 16)] := by
  have := byte_all (fun c => sub3 hexU (((i8 (shrI .u8 ((c).toNat : Int) 4))).toNat : Int) (((i8 ((((i8 (shrI .u8 ((c).toNat : Int) 4))).toNat : Int) + 1))).toNat : Int) == some [hu (c.toNat / 16)] && sub3 hexU (((c &&& (15 : UInt8))).toNat : Int) (((i8 ((((c &&& (15 : UInt8))).toNat : Int) + 1))).toNat : Int) == some [hu (c.toNat % 16)]) (by decide +kernel) c
  simpa using this
theorem sub_ref (b : UInt8) : idx hexU (((i8 (Int.tdiv (b.toNat : Int) 16))).toNat : Int) = some (hu (b.toNat / 16)) ∧ idx hexU (((i8 (Int.tmod (b.toNat : Int) 16))).toNat : Int) = some (hu (b.toNat % 16)) := by
  have := byte_all (fun b => idx hexU (((i8 (Int.tdiv (b.toNat : Int) 16))).toNat : Int) == some (hu (b.toNat / 16)) && idx hexU (((i8 (Int.tmod (b.toNat : Int) 16))).toNat : Int) == some (hu (b.toNat % 16))) (by decide +kernel) b
  simpa using this
theorem pctB_sp (c : UInt8) : pctB [37, 50, 48] c = bif pl c then [c] else [37, hu (c.toNat / 16), hu (c.toNat % 16)] := by
  have := byte_all (fun c => pctB [37, 50, 48] c == bif pl c then [c] else [37, hu (c.toNat / 16), hu (c.toNat % 16)]) (by decide +kernel) c
  exact eq_of_beq this
theorem writeString_ok {l b : List UInt8} (h : l.length + b.length ≤ 68719476736) : Builder_WriteString_p l b = some ((b.length : Int), l ++ b) := by
  simp only [Builder_WriteString_p, Builder_copyCheck_p, some_bind, app_ok h]
theorem percent_run (x sp : List UInt8) (hsp : sp.length ≤ 3) (hx : x.length ≤ 4194304) : codec_percent_p x sp = some (pctL sp x) := by
  have key : iter (codec_percent_b0 x sp) (0, []) = some (pctL sp x) := by
    refine iter_run (fun k => ((k : Int), pctL sp (x.take k))) x.length (by omega) _ (fun k hk => ?_) ?_
    · have e1 : idx x (k : Int) = some x[k] := idx_ok rfl hk
      have hl := pctL_len sp (x.take k) hsp
      rw [List.length_take] at hl
      simp only [codec_percent_b0, dec_t (show ((k : Int) < (x.length : Int)) by omega), e1, some_bind, pl_own, (sub_own x[k]).1, (sub_own x[k]).2]
      rw [w64_of (by omega) (by omega), take_succ hk, pctL_snoc]
      unfold pctB
      cases pl x[k]
      · cases (((x[k]).toNat : Int) == 32)
        · have e2 : app ([37] : List UInt8) [hu (x[k].toNat / 16)] = some [37, hu (x[k].toNat / 16)] := app_ok (by simp)
          have e3 : app ([37, hu (x[k].toNat / 16)] : List UInt8) [hu (x[k].toNat % 16)] = some [37, hu (x[k].toNat / 16), hu (x[k].toNat % 16)] := app_ok (by simp)
          simp only [cond_false, e2, e3, some_bind, writeString_ok (l := pctL sp (x.take k)) (b := [37, hu (x[k].toNat / 16), hu (x[k].toNat % 16)]) (by simp only [List.length_cons, List.length_nil]; omega)]
          rfl
        · simp only [cond_false, cond_true, writeString_ok (l := pctL sp (x.take k)) (b := sp) (by omega), some_bind]
          rfl
      · simp only [cond_true, writeByte_ok (l := pctL sp (x.take k)) (b := x[k]) (by omega), some_bind]
        rfl
    · simp only [codec_percent_b0, dec_f (show ¬ ((x.length : Int) < (x.length : Int)) by omega), List.take_length]
  rw [codec_percent_p, key]
  have hl := pctL_len sp x hsp
  simp only [some_bind, chk_ok (show decide ((pctL sp x).length ≤ 68719476736) = true by rw [decide_eq_true_eq]; omega)]
theorem ownPercent_run (x : List UInt8) (hx : x.length ≤ 4194304) : codec_Percent_p x = some (pctL [37, 50, 48] x) := by
  rw [codec_Percent_p, percent_run x _ (by decide) hx]; rfl
theorem refPercent_run (x : List UInt8) (hx : x.length ≤ 4194304) : seneschalref01_Percent_p x = some (pctL [37, 50, 48] x) := by
  have key : iter (seneschalref01_Percent_b0 x) (0, []) = some (pctL [37, 50, 48] x) := by
    refine iter_run (fun k => ((k : Int), pctL [37, 50, 48] (x.take k))) x.length (by omega) _ (fun k hk => ?_) ?_
    · have e1 : idx x (k : Int) = some x[k] := idx_ok rfl hk
      have hl := pctL_len [37, 50, 48] (x.take k) (by decide)
      rw [List.length_take] at hl
      simp only [seneschalref01_Percent_b0, dec_t (show ((k : Int) < (x.length : Int)) by omega), e1, some_bind, pl_ref, (sub_ref x[k]).1, (sub_ref x[k]).2]
      rw [w64_of (by omega) (by omega), take_succ hk, pctL_snoc, pctB_sp]
      cases pl x[k]
      · rw [cond_false, app_ok (by simp only [List.length_cons, List.length_nil]; omega)]; rfl
      · rw [cond_true, app_ok (by simp only [List.length_cons, List.length_nil]; omega)]; rfl
    · simp only [seneschalref01_Percent_b0, dec_f (show ¬ ((x.length : Int) < (x.length : Int)) by omega), List.take_length]
  rw [seneschalref01_Percent_p, key]; rfl
theorem refWord_run (x : List UInt8) (hx : x.length ≤ 4194304) : seneschalref01_word_p x = some (pctL [43] x) := by
  have key : iter (seneschalref01_word_b0 x) (0, []) = some (pctL [43] x) := by
    refine iter_run (fun k => ((k : Int), pctL [43] (x.take k))) x.length (by omega) _ (fun k hk => ?_) ?_
    · have e1 : idx x (k : Int) = some x[k] := idx_ok rfl hk
      have hl := pctL_len [43] (x.take k) (by decide)
      rw [List.length_take] at hl
      have e2 : w64 ((k : Int) + 1) = ((k + 1 : Nat) : Int) := by rw [w64_of (by omega) (by omega)]; omega
      have e3 : sub3 x (k : Int) (w64 ((k : Int) + 1)) = some [x[k]] := by
        rw [e2, sub3_ok (by omega) (by omega), take_succ hk, List.drop_append_of_le_length (by rw [List.length_take]; omega), List.drop_take_self]; rfl
      have e4 : seneschalref01_Percent_p [x[k]] = some (pctB [37, 50, 48] x[k]) := by rw [refPercent_run _ (by simp)]; simp [pctL]
      have hb := pctB_len [37, 50, 48] x[k] (by decide)
      simp only [seneschalref01_word_b0, dec_t (show ((k : Int) < (x.length : Int)) by omega), e1, e3, e4, some_bind]
      rw [e2, take_succ hk, pctL_snoc, app_ok (a := pctL [43] (x.take k)) (b := [43]) (by simp only [List.length_cons, List.length_nil]; omega), app_ok (a := pctL [43] (x.take k)) (b := pctB [37, 50, 48] x[k]) (by omega)]
      have e5 := byte_all (fun c => pctB [43] c == bif (((c).toNat : Int) == 32) then [43] else pctB [37, 50, 48] c) (by decide +kernel) x[k]
      rw [eq_of_beq e5]
      cases (((x[k]).toNat : Int) == 32) <;> rfl
    · simp only [seneschalref01_word_b0, dec_f (show ¬ ((x.length : Int) < (x.length : Int)) by omega), List.take_length]
  rw [seneschalref01_word_p, key]; rfl
/-! ### Reading -/
abbrev hex32 : List UInt8 := [48, 49, 50, 51, 52, 53, 54, 55, 56, 57, 97, 98, 99, 100, 101, 102, 95, 95, 95, 95, 95, 95, 95, 95, 95, 95, 65, 66, 67, 68, 69, 70]
def pv (c : UInt8) : Int := (seneschalref01_digit_p c true).getD (-1)
theorem pv_all (c : UInt8) : seneschalref01_digit_p c true = some (pv c) ∧ -1 ≤ pv c ∧ pv c < 16 ∧ (0 ≤ pv c → pv c = Int.tmod (findI hex32 c) 16) ∧ (0 ≤ findI hex32 c → c.toNat < 128) ∧ ((0 ≤ findI hex32 c ∧ c ≠ 95) ↔ 0 ≤ pv c) := by
  have := byte_all (fun c => decide (seneschalref01_digit_p c true = some (pv c) ∧ -1 ≤ pv c ∧ pv c < 16 ∧ (0 ≤ pv c → pv c = Int.tmod (findI hex32 c) 16) ∧ (0 ≤ findI hex32 c → c.toNat < 128) ∧ ((0 ≤ findI hex32 c ∧ c ≠ 95) ↔ 0 ≤ pv c))) (by decide +kernel) c
  exact of_decide_eq_true this
def unpct : List UInt8 → Option (List UInt8)
  | [] => some []
  | [c] => bif c == 37 then none else some [c]
  | [c, a] => bif c == 37 then none else (unpct [a]).map (c :: ·)
  | c :: a :: b :: r => bif c == 37 then (bif decide (0 ≤ pv a) && decide (0 ≤ pv b) then (unpct r).map (i8 (16 * pv a + pv b) :: ·) else none) else (unpct (a :: b :: r)).map (c :: ·)
def esc : List UInt8 → Option (List UInt8)
  | a :: b :: r => bif decide (0 ≤ pv a) && decide (0 ≤ pv b) then (unpct r).map (i8 (16 * pv a + pv b) :: ·) else none
  | _ => none
theorem unpct_cons (c : UInt8) (l : List UInt8) : unpct (c :: l) = bif c == 37 then esc l else (unpct l).map (c :: ·) := by
  match l with
  | [] => simp only [unpct, esc, Option.map_some]
  | [a] => simp only [unpct, esc]
  | a :: b :: r => simp only [unpct, esc]
/-! ### Cutting at a byte -/
theorem index1_cons (b d : UInt8) (l : List UInt8) : Lib.index (b :: l) [d] = if d == b then 0 else if Lib.index l [d] == -1 then -1 else Lib.index l [d] + 1 := by
  rw [Lib.index]
  simp [List.isPrefixOf]
theorem index1_nil (d : UInt8) : Lib.index [] [d] = -1 := rfl
theorem cut_nil (d : UInt8) : Lib.cut [] [d] = ([], [], false) := rfl
theorem cut_hit (d : UInt8) (l : List UInt8) : Lib.cut (d :: l) [d] = ([], l, true) := by
  unfold Lib.cut
  rw [index1_cons]
  simp
theorem cut_miss {c d : UInt8} (h : (d == c) = false) (l : List UInt8) : Lib.cut (c :: l) [d] = (c :: (Lib.cut l [d]).1, (Lib.cut l [d]).2.1, (Lib.cut l [d]).2.2) := by
  unfold Lib.cut
  rw [index1_cons, h]
  have hg := Lib.index_ge l [d]
  by_cases h1 : Lib.index l [d] = -1
  · simp [h1]
  · have h2 : 0 ≤ Lib.index l [d] := by omega
    have h3 : ((Lib.index l [d]) == -1) = false := by rw [beq_eq_false_iff_ne]; exact h1
    have h4 : (Lib.index l [d] + 1).toNat = (Lib.index l [d]).toNat + 1 := by omega
    simp only [h3, Bool.false_eq_true, if_false, if_pos h2, if_pos (show 0 ≤ Lib.index l [d] + 1 by omega), h4, List.take_succ_cons, List.length_cons, List.length_nil]
    rw [show (Lib.index l [d]).toNat + 1 + (0 + 1) = ((Lib.index l [d]).toNat + (0 + 1)) + 1 by omega, List.drop_succ_cons]
theorem cut_len (d : UInt8) : ∀ l : List UInt8, (Lib.cut l [d]).1.length + (Lib.cut l [d]).2.1.length ≤ l.length ∧ ((Lib.cut l [d]).2.2 = true → (Lib.cut l [d]).1.length + (Lib.cut l [d]).2.1.length + 1 = l.length)
  | [] => by simp [cut_nil]
  | c :: l => by
    have ih := cut_len d l
    cases h : d == c
    · rw [cut_miss h]
      simp only [List.length_cons]
      refine ⟨by omega, fun e => ?_⟩
      have := ih.2 e; omega
    · have e := eq_of_beq h
      subst e
      rw [cut_hit]; simp
theorem map_app2 {c : UInt8} {a : List UInt8} (o : Option (List UInt8)) : (o.map (a ++ ·)).map (c :: ·) = o.map ((c :: a) ++ ·) := by cases o <;> simp
theorem unpct_cut : ∀ l : List UInt8, unpct l = bif (Lib.cut l [37]).2.2 then (esc (Lib.cut l [37]).2.1).map ((Lib.cut l [37]).1 ++ ·) else some (Lib.cut l [37]).1
  | [] => rfl
  | c :: l => by
    have ih := unpct_cut l
    rw [unpct_cons]
    cases h : (37 : UInt8) == c
    · have h' : (c == 37) = false := by rw [beq_eq_false_iff_ne] at *; exact fun e => h e.symm
      rw [cut_miss h, h', cond_false, ih]
      cases (Lib.cut l [37]).2.2
      · rfl
      · simp only [cond_true, map_app2]
    · have e := eq_of_beq h
      subst e
      rw [cut_hit]
      simp only [beq_self_eq_true, cond_true]
      cases esc l <;> simp
theorem Cut_ok {l : List UInt8} {d : UInt8} (h : l.length ≤ 4194304) : Cut_p l [d] = some (Lib.cut l [d]) := by
  unfold Cut_p
  rw [dec_t (by omega)]
theorem any_run {a b : UInt8} (ha : a.toNat < 128) (hb : b.toNat < 128) : ContainsAny_p [a, b] [95] = some (a == 95 || b == 95) := by
  have h : (decide ([a, b].length < 4294967281) && decide (([95] : List UInt8).length < 4294967281) && ascii [a, b] && ascii [95]) = true := by simp [ascii, ha, hb]
  unfold ContainsAny_p
  rw [h, cond_true]
  congr 1
  unfold Lib.containsAny
  simp only [Lib.indexAny]
  cases h1 : a == 95
  · cases h2 : b == 95
    · simp only [List.contains_cons, List.contains_nil, h1, h2]; decide
    · simp only [List.contains_cons, List.contains_nil, h1, h2]; decide
  · simp only [List.contains_cons, List.contains_nil, h1]; simp
theorem fromPercent_run (x : List UInt8) (hx : x.length ≤ 4194304) : codec_FromPercent_p x = some (orNo 12 (unpct x)) := by
  have key : iter codec_FromPercent_b0 (x, []) = some (orNo 12 (unpct x)) := by
    refine iter_eq (fun s => unpct x = (unpct s.1).map (s.2 ++ ·) ∧ s.2.length + s.1.length ≤ x.length) (fun s => s.1.length) _ (x, []) ⟨by simp, by simp⟩ (by show x.length < _; omega) ?_
    rintro ⟨l, acc⟩ ⟨hI, hL⟩
    dsimp only at hI hL
    have hc := cut_len 37 l
    rw [unpct_cut l] at hI
    simp only [codec_FromPercent_b0, Cut_ok (show l.length ≤ 4194304 by omega), some_bind, writeString_ok (l := acc) (b := (Lib.cut l [37]).1) (by omega), digits_run _ hex32 rfl (by decide)]
    cases hf : (Lib.cut l [37]).2.2
    · right
      rw [hf] at hI
      rw [hI]
      simp only [Bool.not_false, cond_true, cond_false, Option.map_some, orNo, chk_ok (show decide ((acc ++ (Lib.cut l [37]).1).length ≤ 68719476736) = true by rw [decide_eq_true_eq, List.length_append]; omega), some_bind]
    · rw [hf] at hI hc
      rw [cond_true] at hI
      simp only [Bool.not_true, cond_false]
      match hr : (Lib.cut l [37]).2.1 with
      | [] => right; rw [hr] at hI; rw [hI]; rfl
      | [a] => right; rw [hr] at hI; rw [hI]; rfl
      | a :: b :: r =>
        rw [hr] at hI hc
        have pa := pv_all a
        have pb := pv_all b
        dsimp only
        have eS : subH (a :: b :: r) 2 = some [a, b] := subH_ok (n := 2) (by simp)
        have eL : subL (a :: b :: r) 2 = some r := subL_ok (n := 2) (by simp)
        cases hok : (decide (0 ≤ findI hex32 a) && decide (0 ≤ findI hex32 b))
        · right
          have hno : (decide (0 ≤ pv a) && decide (0 ≤ pv b)) = false := by
            simp only [Bool.and_eq_false_iff, decide_eq_false_iff_not] at hok ⊢
            rcases hok with h | h
            · left; intro h1; exact h (pa.2.2.2.2.2.2 h1).1
            · right; intro h1; exact h (pb.2.2.2.2.2.2 h1).1
          rw [hI]
          simp only [esc, hno, cond_false, Option.map_none, orNo]
          rfl
        · simp only [Bool.and_eq_true, decide_eq_true_eq] at hok
          simp only [Bool.not_true, cond_false, eS, eL, some_bind, any_run (pa.2.2.2.2.1 hok.1) (pb.2.2.2.2.1 hok.2)]
          cases hu : (a == 95 || b == 95)
          · left
            simp only [Bool.or_eq_false_iff, beq_eq_false_iff_ne] at hu
            have va := pa.2.2.2.2.2.1 ⟨hok.1, hu.1⟩
            have vb := pb.2.2.2.2.2.1 ⟨hok.2, hu.2⟩
            have ja := join16 (pv a).toNat (pv b).toNat (by omega) (by omega)
            rw [show (((pv a).toNat : Nat) : Int) = pv a by omega, show (((pv b).toNat : Nat) : Int) = pv b by omega] at ja
            rw [← pa.2.2.2.1 va, ← pb.2.2.2.1 vb, ja.1]
            simp only [List.length_cons] at hc
            simp only [cond_false, writeByte_ok (l := acc ++ (Lib.cut l [37]).1) (b := i8 (16 * pv a + pv b)) (by rw [List.length_append]; omega), some_bind]
            refine ⟨_, rfl, ⟨?_, ?_⟩, ?_⟩
            · rw [hI]
              have hyes : (decide (0 ≤ pv a) && decide (0 ≤ pv b)) = true := by simp [va, vb]
              simp only [esc, hyes, cond_true]
              cases unpct r <;> simp
            · dsimp only; simp only [List.length_append, List.length_cons, List.length_nil]; have := hc.2 trivial; omega
            · dsimp only; have := hc.2 trivial; omega
          · right
            have hno : (decide (0 ≤ pv a) && decide (0 ≤ pv b)) = false := by
              simp only [Bool.or_eq_true, beq_iff_eq] at hu
              simp only [Bool.and_eq_false_iff, decide_eq_false_iff_not]
              rcases hu with h | h
              · left; intro h1; exact (pa.2.2.2.2.2.2 h1).2 h
              · right; intro h1; exact (pb.2.2.2.2.2.2 h1).2 h
            rw [hI]
            simp only [esc, hno, cond_false, Option.map_none, orNo]
            rfl
  rw [codec_FromPercent_p, key]; rfl
theorem refFromPercent_run (x : List UInt8) (hx : x.length ≤ 4194304) : seneschalref01_FromPercent_p x = some (orNo 12 (unpct x)) := by
  have key : iter (seneschalref01_FromPercent_b0 x) (0, []) = some (match unpct x with | some l => .inr l | none => .inl ([], 12)) := by
    refine iter_eq (fun s => ∃ k : Nat, s.1 = (k : Int) ∧ k ≤ x.length ∧ unpct x = (unpct (x.drop k)).map (s.2 ++ ·) ∧ s.2.length ≤ k) (fun s => x.length - s.1.toNat) _ (0, []) ⟨0, rfl, by omega, by simp, by simp⟩ (by show x.length - 0 < _; omega) ?_
    rintro ⟨i, acc⟩ ⟨k, e, hk, hI, hL⟩
    dsimp only at e hI hL
    subst e
    by_cases h : k < x.length
    · have e1 : idx x (k : Int) = some x[k] := idx_ok rfl h
      rw [drop_at h, unpct_cons] at hI
      simp only [seneschalref01_FromPercent_b0, dec_t (show ((k : Int) < (x.length : Int)) by omega), e1, some_bind]
      rw [w64_of (x := (k : Int) + 2) (by omega) (by omega), w64_of (x := (k : Int) + 1) (by omega) (by omega)]
      have hcc : (((x[k]).toNat : Int) != 37) = !(x[k] == 37) := by
        have := byte_all (fun c => ((c.toNat : Int) != 37) == !(c == 37)) (by decide +kernel) x[k]
        exact eq_of_beq this
      rw [hcc]
      cases h37 : x[k] == 37
      · left
        rw [h37, cond_false] at hI
        simp only [Bool.not_false, cond_true, app_ok (a := acc) (b := [x[k]]) (by simp only [List.length_cons, List.length_nil]; omega), some_bind, jn_l]
        rw [w64_of (x := (k : Int) + 1) (by omega) (by omega)]
        refine ⟨((k : Int) + 1, acc ++ [x[k]]), rfl, ⟨k + 1, by simp, by omega, ?_, ?_⟩, ?_⟩
        · rw [hI, map_snoc]
        · simp only [List.length_append, List.length_cons, List.length_nil]; omega
        · show x.length - ((k : Int) + 1).toNat < x.length - ((k : Int)).toNat; omega
      · rw [h37, cond_true] at hI
        simp only [Bool.not_true, cond_false]
        by_cases h2 : k + 2 < x.length
        · have h1' : k + 1 < x.length := by omega
          rw [drop_at h1', drop_at h2] at hI
          have e2 : idx x ((k : Int) + 1) = some x[k + 1] := idx_ok (by omega) h1'
          have e3 : idx x ((k : Int) + 2) = some x[k + 2] := idx_ok (by omega) h2
          have pa := pv_all x[k + 1]
          have pb := pv_all x[k + 2]
          rw [dec_f (show ¬ ((x.length : Int) ≤ (k : Int) + 2) by omega)]
          simp only [e2, e3, some_bind, pa.1, pb.1]
          cases hc : (decide (0 ≤ pv x[k + 1]) && decide (0 ≤ pv x[k + 2]))
          · right
            rw [hI]
            simp only [esc, hc, cond_false, Option.map_none]
            have : (bif decide (pv x[k + 1] < 0) then true else decide (pv x[k + 2] < 0)) = true := by
              simp only [Bool.and_eq_false_iff, decide_eq_false_iff_not] at hc
              by_cases h1 : pv x[k + 1] < 0
              · simp [h1]
              · simp only [h1, decide_false, cond_false, decide_eq_true_eq]; omega
            rw [this]; rfl
          · left
            have hc' := hc
            simp only [Bool.and_eq_true, decide_eq_true_eq] at hc'
            have : (bif decide (pv x[k + 1] < 0) then true else decide (pv x[k + 2] < 0)) = false := by
              rw [dec_f (by omega)]; simp; omega
            rw [this, cond_false]
            rw [w64_of (x := (16 : Int) * pv x[k + 1]) (by omega) (by omega), w64_of (x := (16 : Int) * pv x[k + 1] + pv x[k + 2]) (by omega) (by omega), app_ok (by simp only [List.length_cons, List.length_nil]; omega)]
            simp only [some_bind, jn_l]
            rw [w64_of (x := (k : Int) + 2 + 1) (by omega) (by omega)]
            refine ⟨((k : Int) + 2 + 1, acc ++ [i8 (16 * pv x[k + 1] + pv x[k + 2])]), rfl, ⟨k + 3, by simp; omega, by omega, ?_, ?_⟩, ?_⟩
            · rw [hI]; simp only [esc, hc, cond_true, map_snoc]
            · simp only [List.length_append, List.length_cons, List.length_nil]; omega
            · show x.length - ((k : Int) + 2 + 1).toNat < x.length - ((k : Int)).toNat; omega
        · right
          rw [dec_t (show ((x.length : Int) ≤ (k : Int) + 2) by omega)]
          have : esc (x.drop (k + 1)) = none := by
            match hd : x.drop (k + 1) with
            | [] => rfl
            | [a] => rfl
            | a :: b :: r =>
              have := congrArg List.length hd
              simp only [List.length_drop, List.length_cons] at this; omega
          rw [hI, this]; rfl
    · right
      have : k = x.length := by omega
      subst this
      rw [List.drop_length] at hI
      rw [hI]
      simp [seneschalref01_FromPercent_b0, unpct]
  rw [seneschalref01_FromPercent_p, key]
  cases unpct x <;> rfl
/-- THE LAW. -/
theorem codecPercent_plain (x0 x1 : List UInt8) (h : x0.length + x1.length ≤ 1048576) : seneschallaw01_CodecPercent_p x0 x1 = some true := by
  rw [seneschallaw01_CodecPercent_p, fromPercent_run x1 (by omega), refFromPercent_run x1 (by omega), awake_true, ownPercent_run x0 (by omega), refPercent_run x0 (by omega)]
  simp only [some_bind, cond_true, beq_self_eq_true]
end Go.Proofs.YtdomaggikbmooaaDoor
