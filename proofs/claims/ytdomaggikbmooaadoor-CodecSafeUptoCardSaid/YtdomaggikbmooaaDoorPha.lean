/- What package codec and its reference make of hexadecimal texts. Conditions: as each theorem says. -/
import Derived.Test.YtdomaggikbmooaaDoorCdL
import Derived.Test.YtdomaggikbmooaaDoorPla
namespace Go.Proofs.YtdomaggikbmooaaDoor
open Go Go.RowKit
theorem awake_true : seneschallaw01_awake_p = some true := by kernel_rfl
theorem findI_hit {a c : UInt8} (l : List UInt8) (h : (a == c) = true) : findI (a :: l) c = 0 := by simp only [findI, h, cond_true]
theorem findI_miss {a c : UInt8} (l : List UInt8) (h : (a == c) = false) : (findI l c < 0 ∧ findI (a :: l) c = -1) ∨ (0 ≤ findI l c ∧ findI (a :: l) c = findI l c + 1) := by
  by_cases h2 : findI l c < 0
  · left; refine ⟨h2, ?_⟩; simp only [findI, h, cond_false, h2, decide_true, cond_true]
  · right; refine ⟨by omega, ?_⟩; simp only [findI, h, cond_false, h2, decide_false]
theorem index_run (al : List UInt8) (c : UInt8) (ha : ascii al = true) (hl : al.length < 1099511627776) : codec_index_p al c = some (findI al c) := by
  have hb : ∀ p (h : p < al.length), al[p].toNat < 128 := fun p h => ascii_at ha p _ (List.getElem?_eq_getElem h)
  have key : iter (codec_index_b0 al c) 0 = some (if findI al c < 0 then .inr () else .inl (findI al c)) := by
    refine iter_eq (fun p => p ≤ al.length ∧ ((findI (al.drop p) c < 0 ∧ findI al c = -1) ∨ (0 ≤ findI (al.drop p) c ∧ findI al c = findI (al.drop p) c + (p : Int)))) (fun p => al.length - p) _ 0 ⟨by omega, ?_⟩ (by show al.length - 0 < _; omega) ?_
    · have := findI_ge al c
      rw [List.drop_zero]
      by_cases h : findI al c < 0
      · left; omega
      · right; omega
    · rintro p ⟨hp, hI⟩
      by_cases h : p < al.length
      · have hd := drop_at h
        rw [hd] at hI
        unfold codec_index_b0
        rw [dec_t h, nxR_ascii h (hb p h), nxP_ascii h (hb p h), i8_nat]
        cases hc : al[p] == c
        · left
          have hc' : ((al[p].toNat : Int) == (c.toNat : Int)) = false := by
            rw [beq_eq_false_iff_ne] at hc ⊢
            intro e; exact hc (UInt8.toNat.inj (by omega))
          rw [hc']
          have hm := findI_miss (al.drop (p + 1)) hc
          exact ⟨p + 1, rfl, ⟨by omega, by omega⟩, by omega⟩
        · right
          have hc' : ((al[p].toNat : Int) == (c.toNat : Int)) = true := by
            rw [beq_iff_eq] at hc ⊢; rw [hc]
          rw [hc']
          have hm := findI_hit (al.drop (p + 1)) hc
          have hI' : findI al c = (p : Int) := by omega
          rw [hI', if_neg (by omega)]; rfl
      · right
        have : p = al.length := by omega
        subst this
        unfold codec_index_b0
        rw [dec_f (by omega)]
        rw [List.drop_length] at hI
        have h0 : findI [] c = -1 := rfl
        rw [if_pos (by omega)]
  rw [codec_index_p, key]
  by_cases h : findI al c < 0
  · have := findI_ge al c
    have e : findI al c = -1 := by omega
    rw [e]; rfl
  · rw [if_neg h]; rfl
abbrev hexA : List UInt8 := [48, 49, 50, 51, 52, 53, 54, 55, 56, 57, 97, 98, 99, 100, 101, 102]
abbrev hexU : List UInt8 := [48, 49, 50, 51, 52, 53, 54, 55, 56, 57, 65, 66, 67, 68, 69, 70]
/-- A hexadecimal digit's value; -1: none. -/
def hv (c : UInt8) : Int := findI hexA c
def hd (n : Nat) : UInt8 := hexA.getD n 0
theorem hv_range (c : UInt8) : -1 ≤ hv c ∧ hv c < 16 := findI_ge hexA c
theorem hv_ref (c : UInt8) : seneschalref01_digit_p c false = some (hv c) := by
  have := byte_all (fun c => seneschalref01_digit_p c false == some (hv c)) (by decide +kernel) c
  exact eq_of_beq this
theorem hv_hd (c : UInt8) (h : 0 ≤ hv c) : hd (hv c).toNat = c := by
  have := byte_all (fun c => decide (hv c < 0) || hd (hv c).toNat == c) (by decide +kernel) c
  simp only [Bool.or_eq_true, decide_eq_true_eq, beq_iff_eq] at this
  rcases this with h1 | h1
  · omega
  · exact h1
theorem hd_hv (n : Nat) (h : n < 16) : hv (hd n) = (n : Int) := by
  have : (List.range 16).all (fun n => hv (hd n) == (n : Int)) = true := by decide +kernel
  have := List.all_eq_true.1 this n (List.mem_range.2 h)
  exact eq_of_beq this
theorem join16 (a b : Nat) (ha : a < 16) (hb : b < 16) : i8 (bits .or .i64 (shlI .i64 (a : Int) 4) (b : Int)) = i8 (16 * (a : Int) + (b : Int)) ∧ (i8 (16 * (a : Int) + (b : Int))).toNat = 16 * a + b := by
  have : (List.range 16).all (fun a => (List.range 16).all fun b => i8 (bits .or .i64 (shlI .i64 (a : Int) 4) (b : Int)) == i8 (16 * (a : Int) + (b : Int)) && (i8 (16 * (a : Int) + (b : Int))).toNat == 16 * a + b) = true := by decide +kernel
  have := List.all_eq_true.1 (List.all_eq_true.1 this a (List.mem_range.2 ha)) b (List.mem_range.2 hb)
  simpa using this
/-- digits: two bytes' value, and whether both are digits. -/
theorem digits_run (l al : List UInt8) (ha : ascii al = true) (hl : al.length < 1099511627776) : codec_digits_p l al = some (match l with
    | a :: b :: _ => (i8 (bits .or .i64 (shlI .i64 (Int.tmod (findI al a) 16) 4) (Int.tmod (findI al b) 16)), decide (0 ≤ findI al a) && decide (0 ≤ findI al b))
    | _ => (0, false)) := by
  match l with
  | [] => rfl
  | [a] => rfl
  | a :: b :: r =>
    have h1 : idx (a :: b :: r) 0 = some a := rfl
    have h2 : idx (a :: b :: r) 1 = some b := rfl
    have h3 : ¬ (((a :: b :: r).length : Int) < 2) := by simp only [List.length_cons]; omega
    simp only [codec_digits_p, h1, h2, index_run al _ ha hl, some_bind, h3, decide_false, cond_false]
    cases decide (0 ≤ findI al a) <;> rfl
def unhex : List UInt8 → Option (List UInt8)
  | [] => some []
  | [_] => none
  | a :: b :: r => bif decide (0 ≤ hv a) && decide (0 ≤ hv b) then (unhex r).map (i8 (16 * hv a + hv b) :: ·) else none
theorem unhex_hit {a b : UInt8} {u v : Nat} (r : List UInt8) (ea : hv a = (u : Int)) (eb : hv b = (v : Int)) : unhex (a :: b :: r) = (unhex r).map (i8 (16 * (u : Int) + (v : Int)) :: ·) := by
  have h : (decide (0 ≤ hv a) && decide (0 ≤ hv b)) = true := by rw [ea, eb]; simp
  rw [unhex, h, cond_true, ea, eb]
theorem map_snoc {acc : List UInt8} {x : UInt8} (o : Option (List UInt8)) : (o.map (x :: ·)).map (acc ++ ·) = o.map ((acc ++ [x]) ++ ·) := by
  cases o <;> simp
def orNo (e : Int) (o : Option (List UInt8)) : List UInt8 × Int := match o with
  | some l => (l, 0)
  | none => ([], e)
theorem pair_ok {a b : UInt8} (h : (decide (0 ≤ hv a) && decide (0 ≤ hv b)) = true) : ∃ x y, x < 16 ∧ y < 16 ∧ hv a = ((x : Nat) : Int) ∧ hv b = ((y : Nat) : Int) := by
  simp only [Bool.and_eq_true, decide_eq_true_eq] at h
  have := hv_range a; have := hv_range b
  exact ⟨(hv a).toNat, (hv b).toNat, by omega, by omega, by omega, by omega⟩
theorem tmod16 {x : Nat} (h : x < 16) : Int.tmod (x : Int) 16 = (x : Int) := by
  rw [show (16 : Int) = ((16 : Nat) : Int) by rfl, ← Int.ofNat_tmod, Nat.mod_eq_of_lt h]
theorem fromHex_run (x : List UInt8) (hx : x.length ≤ 4194304) : codec_FromHex_p x = some (orNo 10 (unhex x)) := by
  have h0 : mkL 0 (0 : UInt8) = some [] := rfl
  have h1 : (decide (0 ≤ (w64 (Int.tdiv (x.length : Int) 2))) && decide ((w64 (Int.tdiv (x.length : Int) 2)) ≤ (LIM : Int))) = true := by
    have h2 : Int.tdiv (x.length : Int) 2 = ((x.length / 2 : Nat) : Int) := by rw [show (2 : Int) = ((2 : Nat) : Int) by rfl, Int.ofNat_tdiv]
    rw [h2, w64_of (by omega) (by omega)]
    unfold LIM
    simp only [Bool.and_eq_true, decide_eq_true_eq]; omega
  have key : iter codec_FromHex_b0 (x, []) = some (match unhex x with | some l => .inr l | none => .inl ([], 10)) := by
    refine iter_eq (fun s => unhex x = (unhex s.1).map (s.2 ++ ·) ∧ s.2.length + s.1.length ≤ x.length) (fun s => s.1.length) _ (x, []) ⟨by simp, by simp⟩ (by show x.length < _; omega) ?_
    rintro ⟨l, acc⟩ ⟨hI, hL⟩
    dsimp only at hI hL
    match l with
    | [] =>
      right
      rw [hI]; simp [codec_FromHex_b0, unhex]
    | [a] =>
      right
      rw [hI]
      simp only [codec_FromHex_b0, digits_run _ hexA rfl (by decide), some_bind]
      rfl
    | a :: b :: r =>
      simp only [codec_FromHex_b0, digits_run _ hexA rfl (by decide), some_bind]
      cases hc : (decide (0 ≤ hv a) && decide (0 ≤ hv b))
      · right
        rw [hI]
        simp only [unhex, hc, cond_false, Option.map_none]
        rw [show findI hexA a = hv a from rfl, show findI hexA b = hv b from rfl, hc]
        rfl
      · left
        obtain ⟨u, v, hu, hv', ea, eb⟩ := pair_ok hc
        rw [show findI hexA a = hv a from rfl, show findI hexA b = hv b from rfl, hc, ea, eb, tmod16 hu, tmod16 hv', (join16 u v hu hv').1]
        simp only [List.length_cons] at hL
        refine ⟨(r, acc ++ [i8 (16 * (u : Int) + (v : Int))]), ?_, ⟨?_, ?_⟩, ?_⟩
        · have e1 : app acc [i8 (16 * (u : Int) + (v : Int))] = some (acc ++ [i8 (16 * (u : Int) + (v : Int))]) := app_ok (by simp only [List.length_cons, List.length_nil]; omega)
          have e2 : subL (a :: b :: r) 2 = some r := subL_ok (n := 2) (by simp)
          simp only [e1, e2, some_bind]; rfl
        · rw [hI, unhex_hit r ea eb, map_snoc]
        · simp only [List.length_append, List.length_cons, List.length_nil]; omega
        · show r.length < r.length + 1 + 1; omega
  rw [codec_FromHex_p, h0, some_bind, chk_ok h1, some_bind, key]
  cases unhex x <;> rfl
theorem unhex_odd : ∀ (x : List UInt8), x.length % 2 = 1 → unhex x = none
  | [], h => by simp at h
  | [_], _ => rfl
  | a :: b :: r, h => by
    simp only [List.length_cons] at h
    simp only [unhex, unhex_odd r (by omega), Option.map_none]
    cases (decide (0 ≤ hv a) && decide (0 ≤ hv b)) <;> rfl
theorem refFromHex_run (x : List UInt8) (hx : x.length ≤ 4194304) : seneschalref01_FromHex_p x = some (orNo 10 (unhex x)) := by
  have hm : Int.tmod (x.length : Int) 2 = ((x.length % 2 : Nat) : Int) := by rw [show (2 : Int) = ((2 : Nat) : Int) by rfl, ← Int.ofNat_tmod]
  rw [seneschalref01_FromHex_p, hm]
  by_cases hodd : x.length % 2 = 1
  · rw [hodd, unhex_odd x hodd]; rfl
  · have : ((((x.length % 2 : Nat) : Int)) == 1) = false := by rw [beq_eq_false_iff_ne]; omega
    rw [this, cond_false]
    have key : iter (seneschalref01_FromHex_b0 x) (0, []) = some (match unhex x with | some l => .inr l | none => .inl ([], 10)) := by
      refine iter_eq (fun s => ∃ k : Nat, s.1 = (k : Int) ∧ k ≤ x.length ∧ k % 2 = 0 ∧ unhex x = (unhex (x.drop k)).map (s.2 ++ ·) ∧ s.2.length ≤ k) (fun s => x.length - s.1.toNat) _ (0, []) ⟨0, rfl, by omega, rfl, by simp, by simp⟩ (by show x.length - 0 < _; omega) ?_
      rintro ⟨i, acc⟩ ⟨k, e, hk, hk2, hI, hL⟩
      dsimp only at e hI hL
      subst e
      by_cases h : k < x.length
      · have h' : k + 1 < x.length := by omega
        rw [drop_at h, drop_at h'] at hI
        have e1 : idx x (k : Int) = some x[k] := idx_ok rfl h
        have e2 : idx x (w64 ((k : Int) + 1)) = some x[k + 1] := idx_ok (by rw [w64_of (by omega) (by omega)]; omega) h'
        simp only [seneschalref01_FromHex_b0, dec_t (show ((k : Int) < (x.length : Int)) by omega), e1, e2, some_bind, hv_ref]
        cases hc : (decide (0 ≤ hv x[k]) && decide (0 ≤ hv x[k + 1]))
        · right
          rw [hI]
          simp only [unhex, hc, cond_false, Option.map_none]
          have : (bif decide (hv x[k] < 0) then true else decide (hv x[k + 1] < 0)) = true := by
            simp only [Bool.and_eq_false_iff, decide_eq_false_iff_not] at hc
            by_cases h1 : hv x[k] < 0
            · simp [h1]
            · simp only [h1, decide_false, cond_false, decide_eq_true_eq]; omega
          rw [this]; rfl
        · left
          obtain ⟨u, v, hu, hv', ea, eb⟩ := pair_ok hc
          have : (bif decide (hv x[k] < 0) then true else decide (hv x[k + 1] < 0)) = false := by
            rw [ea, eb, dec_f (by omega)]; simp
          rw [this, cond_false, ea, eb]
          rw [w64_of (x := (16 : Int) * (u : Int)) (by omega) (by omega), w64_of (x := (16 : Int) * (u : Int) + (v : Int)) (by omega) (by omega), w64_of (x := (k : Int) + 2) (by omega) (by omega), app_ok (by simp only [List.length_cons, List.length_nil]; omega)]
          refine ⟨((k : Int) + 2, acc ++ [i8 (16 * (u : Int) + (v : Int))]), rfl, ⟨k + 2, by simp, by omega, by omega, ?_, ?_⟩, ?_⟩
          · rw [hI, unhex_hit _ ea eb, map_snoc]
          · simp only [List.length_append, List.length_cons, List.length_nil]; omega
          · show x.length - ((k : Int) + 2).toNat < x.length - ((k : Int)).toNat; omega
      · right
        have : k = x.length := by omega
        subst this
        rw [List.drop_length] at hI
        rw [hI]
        simp [seneschalref01_FromHex_b0, unhex]
    rw [key]
    cases unhex x <;> rfl
/-! ### Writing -/
def hexP (b : UInt8) : List UInt8 := [hd (b.toNat / 16), hd (b.toNat % 16)]
def hexL (x : List UInt8) : List UInt8 := x.flatMap hexP
theorem hexL_len (x : List UInt8) : (hexL x).length = 2 * x.length := by
  induction x with
  | nil => rfl
  | cons a x ih => simp only [hexL, List.flatMap_cons, List.length_append, List.length_cons] at *; rw [ih]; simp only [hexP, List.length_cons, List.length_nil]; omega
theorem hexL_snoc (x : List UInt8) (b : UInt8) : hexL (x ++ [b]) = hexL x ++ hexP b := by simp [hexL]
theorem nib_ref (b : UInt8) : idx hexA (((i8 (Int.tdiv (b.toNat : Int) 16))).toNat : Int) = some (hd (b.toNat / 16)) ∧ idx hexA (((i8 (Int.tmod (b.toNat : Int) 16))).toNat : Int) = some (hd (b.toNat % 16)) := by
  have := byte_all (fun b => idx hexA (((i8 (Int.tdiv (b.toNat : Int) 16))).toNat : Int) == some (hd (b.toNat / 16)) && idx hexA (((i8 (Int.tmod (b.toNat : Int) 16))).toNat : Int) == some (hd (b.toNat % 16))) (by decide +kernel) b
  simpa using this
theorem nib_own (b : UInt8) : idx hexA (((i8 (shrI .u8 (b.toNat : Int) 4))).toNat : Int) = some (hd (b.toNat / 16)) ∧ idx hexA (((b &&& (15 : UInt8))).toNat : Int) = some (hd (b.toNat % 16)) := by
  have := byte_all (fun b => idx hexA (((i8 (shrI .u8 (b.toNat : Int) 4))).toNat : Int) == some (hd (b.toNat / 16)) && idx hexA (((b &&& (15 : UInt8))).toNat : Int) == some (hd (b.toNat % 16))) (by decide +kernel) b
  simpa using this
theorem writeByte_ok {l : List UInt8} {b : UInt8} (h : l.length < 68719476736) : Builder_WriteByte_p l b = some (l ++ [b]) := by
  have h' : l.length + [b].length ≤ 68719476736 := by simp only [List.length_cons, List.length_nil]; omega
  simp only [Builder_WriteByte_p, Builder_copyCheck_p, some_bind, app_ok h']
theorem refHex_run (x : List UInt8) (hx : x.length ≤ 4194304) : seneschalref01_Hex_p x = some (hexL x) := by
  have key : iter (seneschalref01_Hex_b0 x) (0, []) = some (hexL x) := by
    refine iter_run (fun k => ((k : Int), hexL (x.take k))) x.length (by omega) _ (fun k hk => ?_) ?_
    · have e1 : idx x (k : Int) = some x[k] := idx_ok rfl hk
      have hl := hexL_len (x.take k)
      rw [List.length_take] at hl
      simp only [seneschalref01_Hex_b0, dec_t (show ((k : Int) < (x.length : Int)) by omega), e1, some_bind, (nib_ref x[k]).1, (nib_ref x[k]).2]
      rw [app_ok (by rw [hl]; simp only [List.length_cons, List.length_nil]; omega), w64_of (by omega) (by omega), take_succ hk, hexL_snoc]
      rfl
    · simp only [seneschalref01_Hex_b0, dec_f (show ¬ ((x.length : Int) < (x.length : Int)) by omega), List.take_length]
  rw [seneschalref01_Hex_p, key]; rfl
theorem hex_run (x : List UInt8) (hx : x.length ≤ 4194304) : codec_Hex_p x = some (hexL x) := by
  have key : iter (codec_Hex_b0 x) (0, []) = some (hexL x) := by
    refine iter_run (fun k => ((k : Int), hexL (x.take k))) x.length (by omega) _ (fun k hk => ?_) ?_
    · have e1 : idx x (k : Int) = some x[k] := idx_ok rfl hk
      have hl := hexL_len (x.take k)
      rw [List.length_take] at hl
      simp only [codec_Hex_b0, dec_t (show ((k : Int) < (x.length : Int)) by omega), e1, some_bind, (nib_own x[k]).1, (nib_own x[k]).2]
      rw [writeByte_ok (by omega), some_bind, writeByte_ok (by rw [List.length_append, hl]; simp only [List.length_cons, List.length_nil]; omega), w64_of (by omega) (by omega), take_succ hk, hexL_snoc]
      simp [hexP]
    · simp only [codec_Hex_b0, dec_f (show ¬ ((x.length : Int) < (x.length : Int)) by omega), List.take_length]
  rw [codec_Hex_p, key]
  have hl := hexL_len x
  simp only [some_bind, chk_ok (show decide ((hexL x).length ≤ 68719476736) = true by rw [decide_eq_true_eq]; omega)]
/-- THE LAW. -/
theorem codecHex_plain (x0 x1 : List UInt8) (h : x0.length + x1.length ≤ 1048576) : seneschallaw01_CodecHex_p x0 x1 = some true := by
  rw [seneschallaw01_CodecHex_p, fromHex_run x1 (by omega), refFromHex_run x1 (by omega), awake_true, hex_run x0 (by omega), refHex_run x0 (by omega)]
  simp only [some_bind, cond_true, beq_self_eq_true]
end Go.Proofs.YtdomaggikbmooaaDoor
