/- The law 'seneschallaw13.ForestLoads' holds of every input whose arguments hold together at most 1048576 values and letters, and its card. Conditions: the row's listed tables hold what the program's text lays; the arguments' bulk is at most 1048576. -/
import Derived.Stop.LaidErr
import Derived.Test.YtebbcofojchkpaaGreatDoorQlK
namespace Go.Proofs.YtebbcofojchkpaaGreatDoor.Am
open Go Go.RowKit
def numR (s : L8) : Int × Bool := bif numB s then ((valF s : Int), true) else (0, false)
theorem ysV {s : L8} (h : s.length ≤ 1048576) : zaB.trim s tenL = some (Lib.trimS s tenL) := by
 show ztN s tenL = _
 unfold ztN
 rw [decide_eq_true (show s.length ≤ 9223372036854775807 by omega), decide_eq_true (show tenL.length < 4294967281 by decide), show tenL.all (fun b => decide (b.toNat < 128)) = true by decide]
 rfl
theorem is48 (b : UInt8) : ((b.toNat : Int) == ((48 : UInt8).toNat : Int)) = (b == 48) := by
 have := znX (fun b => ((b.toNat : Int) == ((48 : UInt8).toNat : Int)) == (b == 48)) (by kernel_rfl) b
 simpa using this
theorem ymK {b : UInt8} {l : L8} (hl : ¬ ((b :: l).length : Int) > 15) (h48 : (b == 48) = false) : numB (b :: l) = (b :: l).all digB := by
 unfold numB
 rw [decide_eq_true (show (b :: l).length ≤ 15 by omega)]
 have h1 : ((b :: l).head? != some 48) = true := by simpa using h48
 rw [h1]
 rfl
theorem zsP (s : L8) (h : s.length ≤ 1048576) : zeS zaB s = some (numR s) := by
 cases hb : numB s with
 | true =>
  have hd := zuW hb
  unfold numR
  rw [hb]
  have := ynJ (valF s) hd.2
  rw [hd.1] at this
  exact this
 | false =>
  have hj : zfN zaB s = some (.inl (0, false)) := by
   unfold zfN
   cases s with
   | nil => rfl
   | cons b l =>
    rw [show ((b :: l : L8) == []) = false from rfl]
    simp only [cond_false]
    by_cases hl : ((b :: l).length : Int) > 15
    ·rw [zbC hl]
    ·rw [zaR hl, show idx (b :: l) 0 = some b from rfl, zaA, is48]
     cases h48 : b == 48 with
     | true =>
      simp only [cond_true]
      cases hz : (b :: l) != ([48] : L8) with
      | true => rfl
      | false =>
       have e : b :: l = [48] := by simpa using hz
       rw [e] at hb; exact absurd hb (by decide)
     | false =>
      simp only [cond_false]
      rw [ymK hl h48] at hb
      rw [show zaB.trim (b :: l) ([48, 49, 50, 51, 52, 53, 54, 55, 56, 57] : L8) = some (Lib.trimS (b :: l) tenL) from ysV h, zaA, ygE, hb]
      rfl
  unfold zeS numR
  rw [hj, hb]
  rfl
theorem zrZ (s : L8) (h : s.length ≤ 1048576) : ziG zaB s = some (numR s) := zsP s h
theorem yrK {b : UInt8} (h : 48 ≤ b.toNat ∧ b.toNat ≤ 57) : (i8 ((b.toNat : Int) - ((48 : UInt8).toNat : Int))).toNat = b.toNat - 48 := by
 have := znX (fun b => !digB b || ((i8 ((b.toNat : Int) - ((48 : UInt8).toNat : Int))).toNat == b.toNat - 48)) (by kernel_rfl) b
 rw [ztV.2 h] at this
 simpa using this
theorem dg_j (b : UInt8) {α : Type} (x y : Option α) : (bif decide ((b.toNat : Int) < ((48 : UInt8).toNat : Int)) then x else (bif decide ((b.toNat : Int) > ((57 : UInt8).toNat : Int)) then x else y)) = bif digB b then y else x := by
 have e1 : ((48 : UInt8).toNat : Int) = 48 := rfl
 have e2 : ((57 : UInt8).toNat : Int) = 57 := rfl
 rw [e1, e2]
 unfold digB
 by_cases h1 : (b.toNat : Int) < 48
 ·rw [zbC h1, decide_eq_false (show ¬ 48 ≤ b.toNat by omega)]; rfl
 ·rw [zaR h1, decide_eq_true (show 48 ≤ b.toNat by omega)]
  by_cases h2 : (b.toNat : Int) > 57
  ·rw [zbC h2, decide_eq_false (show ¬ b.toNat ≤ 57 by omega)]; rfl
  ·rw [zaR h2, decide_eq_true (show b.toNat ≤ 57 by omega)]; rfl
theorem ztQ {α : Type} {l : List α} {p : α → Bool} {k : Nat} (hk : k < l.length) : (l.take (k + 1)).all p = ((l.take k).all p && p l[k]) := by
 rw [List.take_succ_eq_append_getElem hk, List.all_append, List.all_cons, List.all_nil, Bool.and_true]
theorem yfP {α : Type} {l : List α} {p : α → Bool} {k : Nat} (hk : k < l.length) (h : p l[k] = false) : l.all p = false := by
 cases ha : l.all p with
 | false => rfl
 | true => rw [List.all_eq_true.1 ha _ (List.getElem_mem hk)] at h; cases h
theorem ypK {s : L8} {k : Nat} (hk : k < s.length) : valF (s.take (k + 1)) = 10 * valF (s.take k) + (s[k].toNat - 48) := by
 rw [List.take_succ_eq_append_getElem hk, ygO]
theorem ysD {s : L8} {R : Type} {body : Int × Int → Option ((Int × Int) ⊕ (R ⊕ Int))} {bad : R} (hs : s.length ≤ 15)
  (hb : ∀ (n : Nat) (k : Nat) (hk : k < s.length), n < 1000000000000000 → body ((n : Int), (k : Int)) = some (bif digB s[k] then .inl (((10 * n + (s[k].toNat - 48) : Nat) : Int), ((k + 1 : Nat) : Int)) else .inr (.inl bad)))
  (he : ∀ n : Int, body (n, (s.length : Int)) = some (.inr (.inr n))) : iter body ((0 : Int), (0 : Int)) = some (bif s.all digB then .inr (valF s : Int) else .inl bad) := by
 have hT : T (iter body ((0 : Int), (0 : Int))) fun r => r = (bif s.all digB then .inr (valF s : Int) else .inl bad) := by
  refine T.iter (fun x => 0 ≤ x.2 ∧ x.2 ≤ (s.length : Int) ∧ (s.take x.2.toNat).all digB = true ∧ x.1 = (valF (s.take x.2.toNat) : Int)) (fun x => s.length - x.2.toNat) _ (fun x hx => ?_) ⟨Int.le_refl _, by simp, rfl, rfl⟩ (by simp; omega)
  obtain ⟨n, i⟩ := x
  obtain ⟨h1, h2, h3, h4⟩ := hx
  simp only at h1 h2 h3 h4
  obtain ⟨k, rfl⟩ : ∃ k : Nat, i = k := ⟨i.toNat, by omega⟩
  rw [Int.toNat_natCast] at h3 h4
  subst h4
  by_cases hk : k < s.length
  ·have hv : valF (s.take k) < 1000000000000000 := yjD (zyM h3) (by rw [List.length_take]; omega)
   rw [hb _ k hk hv]
   cases hd : digB s[k] with
   | true =>
    refine T.ok ⟨⟨by simp only []; omega, by simp only []; omega, ?_, ?_⟩, by simp only []; omega⟩
    ·simp only [Int.toNat_natCast]; rw [ztQ hk, h3, hd]; rfl
    ·simp only [Int.toNat_natCast]; rw [ypK hk]
   | false => exact T.ok (by rw [yfP hk hd]; rfl)
  ·obtain rfl : k = s.length := by omega
   rw [he]
   rw [List.take_of_length_le (Nat.le_refl _)] at h3 ⊢
   exact T.ok (by rw [h3]; rfl)
 obtain ⟨r, h1, rfl⟩ := hT
 exact h1
theorem ycM {n : Nat} (h : n ≤ 9223372036854775807) : w64 (n : Int) = (n : Int) := ziX (by omega) (by omega)
theorem zyI (s : L8) : zcA zaB s = some (numR s) := by
 have main : s.length ≤ 15 → (Option.bind (iter (fun x => zcU zaB s x.1 x.2) ((0 : Int), (0 : Int))) fun v14 => match v14 with
   | .inl v15 => (some v15)
   | .inr v16 => (some (v16, true))) = some (bif s.all digB then ((valF s : Int), true) else (0, false)) := fun hs => by
  rw [ysD (bad := ((0 : Int), false)) hs (fun n k hk hn => ?_) (fun n => ?_), zaA]
  ·cases s.all digB <;> rfl
  ·unfold zcU zhV
   simp only []
   rw [zbC (show (k : Int) < (s.length : Int) by omega), zdW rfl hk, zaA, zaA, dg_j]
   cases hd : digB s[k] with
   | false => rfl
   | true =>
    have h1 := ztV.1 hd
    simp only [cond_true, zaA]
    rw [yrK h1, ycM (show s[k].toNat - 48 ≤ 9223372036854775807 by omega), show (10 : Int) * (n : Int) = ((10 * n : Nat) : Int) by omega, ycM (show 10 * n ≤ 9223372036854775807 by omega), show ((10 * n : Nat) : Int) + ((s[k].toNat - 48 : Nat) : Int) = ((10 * n + (s[k].toNat - 48) : Nat) : Int) by omega, ycM (show 10 * n + (s[k].toNat - 48) ≤ 9223372036854775807 by omega), zjF (by omega)]
  ·unfold zcU
   simp only []
   rw [zaR (by omega)]
 unfold zcA
 cases s with
 | nil => rfl
 | cons b l =>
  have hj : zeT zaB (b :: l) = some (bif decide (((b :: l).length : Int) > 15) then .inl (0, false) else (bif b == 48 then (bif (b :: l) != ([48] : L8) then .inl (0, false) else .inr ()) else .inr ())) := by
   unfold zeT
   rw [show ((b :: l : L8) == []) = false from rfl]
   simp only [cond_false]
   by_cases hl : ((b :: l).length : Int) > 15
   ·rw [zbC hl, zbC hl]
   ·rw [zaR hl, zaR hl, show idx (b :: l) 0 = some b from rfl, zaA, is48]
    cases b == 48 with
    | false => rfl
    | true => cases (b :: l) != ([48] : L8) <;> rfl
  rw [hj, zaA]
  by_cases hl : ((b :: l).length : Int) > 15
  ·rw [zbC hl]
   have e : numB (b :: l) = false := by
    unfold numB
    rw [decide_eq_false (show ¬ (b :: l).length ≤ 15 by omega)]
    rfl
   unfold numR
   rw [e]
   rfl
  ·rw [zaR hl]
   cases h48 : b == 48 with
   | false =>
    unfold numR
    rw [ymK hl h48]
    exact main (by omega)
   | true =>
    simp only [cond_true]
    cases hz : (b :: l) != ([48] : L8) with
    | true =>
     have e : numB (b :: l) = false := by
      have h1 : b = 48 := by simpa using h48
      subst h1
      have h2 : ((48 :: l : L8) == [48]) = false := by simpa using hz
      unfold numB
      rw [h2]
      simp
     unfold numR
     rw [e]
     rfl
    | false =>
     have e : b :: l = [48] := by simpa using hz
     have := main (by omega)
     simp only [cond_false]
     refine this.trans ?_
     rw [e]
     rfl
theorem yjA (f : Nat) : txtF f [] = some [] := by cases f <;> rfl
def txtR (acc : List L8) (o : Option (List L8)) : Bool ⊕ List L8 := match o with
 | some l => .inr (acc ++ l)
 | none => .inl false
theorem ybS (acc : List L8) (t : L8) (o : Option (List L8)) : txtR acc (o.map (t :: ·)) = txtR (acc ++ [t]) o := by
 cases o with
 | none => rfl
 | some l => show Sum.inr (acc ++ t :: l) = Sum.inr ((acc ++ [t]) ++ l); simp
theorem yzB (f : Nat) (b : UInt8) (s : L8) : txtF (f + 1) (b :: s) = match colF (b :: s) with
  | none => none
  | some (h, r) => bif numB h && decide (valF h ≤ r.length) then (txtF f (r.drop (valF h))).map (r.take (valF h) :: ·) else none := rfl
theorem xcU {s : L8} (h : s.length ≤ 1048576) : zaB.cut s ([58] : L8) = some (Lib.cut s [58]) := by
 show cutP s [58] = _
 unfold cutP
 rw [decide_eq_true (show s.length < 4294967281 by omega)]
 rfl
theorem yrN : ∀ (f : Nat) (s : L8) (acc : List L8) (k : Nat), s.length ≤ f → f < k → acc.length + f ≤ 1048577 → s.length ≤ 1048576 → zkC (fun x : L8 × List L8 => zhO zaB x.1 x.2) k (s, acc) = some (txtR acc (txtF f s))
 | f, [], acc, k + 1, _, _, _, _ => by
  rw [yjA]
  refine zaL ?_
  show some (Sum.inr (Sum.inr acc)) = some (Sum.inr (Sum.inr (acc ++ [])))
  rw [List.append_nil]
 | 0, b :: s, _, _, h, _, _, _ => by simp at h
 | f + 1, b :: s, acc, k + 1, hl, hk, ha, hs => by
  have hbody : zhO zaB (b :: s) acc = match colF (b :: s) with
    | none => some (.inr (.inl false))
    | some (h, r) => bif numB h && decide (valF h ≤ r.length) then some (.inl (r.drop (valF h), acc ++ [r.take (valF h)])) else some (.inr (.inl false)) := by
   unfold zhO
   rw [show ((b :: s : L8) != []) = true from rfl]
   simp only [cond_true]
   rw [xcU hs, zaA, yuK]
   cases hc : colF (b :: s) with
   | none =>
    simp only []
    rw [zsP _ hs, zaA]
    rfl
   | some p =>
    obtain ⟨h, r⟩ := p
    have he := (znR hc).1
    have hlen : h.length + r.length + 1 = (b :: s).length := by rw [he]; simp; omega
    simp only []
    rw [zsP h (by omega), zaA]
    unfold zoM numR
    cases hn : numB h with
    | false => rfl
    | true =>
     simp only [cond_true, Bool.not_true, cond_false, Bool.true_and]
     by_cases hv : valF h ≤ r.length
     ·rw [zaR (show ¬ ((valF h : Nat) : Int) > (r.length : Int) by omega), zaA, decide_eq_true hv]
      simp only [cond_true]
      rw [znZ hv, zaA, zmX (by simp; omega), zaA, znK hv, zaA]
     ·rw [zbC (show ((valF h : Nat) : Int) > (r.length : Int) by omega), zaA, decide_eq_false hv]
      rfl
  rw [yzB]
  cases hc : colF (b :: s) with
  | none =>
   rw [hc] at hbody
   exact zaL hbody
  | some p =>
   obtain ⟨h, r⟩ := p
   have he := (znR hc).1
   have hlen : h.length + r.length + 1 = (b :: s).length := by rw [he]; simp; omega
   rw [hc] at hbody
   simp only [] at hbody ⊢
   cases hb : numB h && decide (valF h ≤ r.length) with
   | false =>
    rw [hb] at hbody
    exact zaL hbody
   | true =>
    rw [hb] at hbody
    simp only [cond_true] at hbody ⊢
    rw [zbB hbody, ybS]
    exact yrN f (r.drop (valF h)) (acc ++ [r.take (valF h)]) k (by rw [List.length_drop]; omega) (by omega) (by simp; omega) (by rw [List.length_drop]; omega)
def txtP (s : L8) : List L8 × Bool := ((txtF s.length s).getD [], (txtF s.length s).isSome)
theorem yaM {s : L8} (h : s.length ≤ 1048576) : zfR zaB s = some (txtP s) := by
 unfold zfR
 rw [show iter _ (s, ([] : List L8)) = _ from yrN s.length s [] FU (Nat.le_refl _) (by unfold FU; omega) (by simp; omega) h, zaA]
 unfold txtP
 cases txtF s.length s <;> rfl
def colN (l : L8) : Nat := match colF l with
 | some p => p.1.length
 | none => l.length
theorem zuU (b : UInt8) (l : L8) : colN (b :: l) = if b = 58 then 0 else colN l + 1 := by
 unfold colN
 rw [colF]
 by_cases h : b = 58
 ·rw [if_pos h, if_pos h]; rfl
 ·rw [if_neg h, if_neg h]
  cases colF l <;> rfl
theorem ydY : ∀ l : L8, colN l ≤ l.length
 | [] => Nat.le_refl _
 | b :: l => by
  rw [zuU]
  split
  ·exact Nat.zero_le _
  ·have := ydY l; simp only [List.length_cons]; omega
theorem ylE : ∀ (l : L8) (k : Nat), k < colN l → ∃ c, l[k]? = some c ∧ c ≠ 58
 | [], k, h => by simp [colN, colF] at h
 | b :: l, k, h => by
  rw [zuU] at h
  split at h
  ·omega
  ·rename_i hb
   cases k with
   | zero => exact ⟨b, rfl, hb⟩
   | succ k =>
    obtain ⟨c, h1, h2⟩ := ylE l k (by omega)
    exact ⟨c, by simpa using h1, h2⟩
theorem ymW : ∀ (l : L8), colN l < l.length → l[colN l]? = some 58
 | [], h => by simp at h
 | b :: l, h => by
  rw [zuU] at h ⊢
  split
  ·rename_i hb; rw [hb]; rfl
  ·rename_i hb
   rw [if_neg hb] at h
   simp only [List.length_cons] at h
   have := ymW l (by omega)
   simpa using this
theorem is58 (b : UInt8) : ((b.toNat : Int) != ((58 : UInt8).toNat : Int)) = (b != 58) := by
 have := znX (fun b => ((b.toNat : Int) != ((58 : UInt8).toNat : Int)) == (b != 58)) (by kernel_rfl) b
 simpa using this
theorem yxC {s : L8} {a : Nat} (acc : List L8) (ha : a ≤ s.length) (hs : s.length ≤ 1048576) : iter (fun x : Int × List L8 => zdE zaB s x.1 x.2) ((a : Int), acc) = some (((a + colN (s.drop a) : Nat) : Int), acc) := by
 have hle := ydY (s.drop a)
 rw [List.length_drop] at hle
 refine zmC (fun k => (((a + k : Nat) : Int), acc)) (colN (s.drop a)) (by omega) _ (fun k hk => ?_) ?_
 ·obtain ⟨c, h1, h2⟩ := ylE _ _ hk
  rw [List.getElem?_drop] at h1
  have hlt := (List.getElem?_eq_some_iff.1 h1).1
  have he := (List.getElem?_eq_some_iff.1 h1).2
  unfold zdE
  simp only []
  rw [zbC (by omega), zdW rfl hlt, zaA, he, is58, show (c != 58) = true by simpa using h2]
  simp only [cond_true]
  rw [zjF (by omega)]
  rfl
 ·unfold zdE
  simp only []
  by_cases hlt : a + colN (s.drop a) < s.length
  ·have h1 := ymW (s.drop a) (by rw [List.length_drop]; omega)
   rw [List.getElem?_drop] at h1
   have he := (List.getElem?_eq_some_iff.1 h1).2
   rw [zbC (by omega), zdW rfl hlt, zaA, he]
   rfl
  ·rw [zaR (by omega)]
theorem ysF {s : L8} (hs : s.length ≤ 1048576) : ∀ (f a : Nat) (acc : List L8) (k : Nat), a ≤ s.length → s.length - a ≤ f → f < k → acc.length + f ≤ 1048577 → zkC (fun x : Int × List L8 => zbZ zaB s x.1 x.2) k ((a : Int), acc) = some (txtR acc (txtF f (s.drop a)))
 | f, a, acc, k + 1, ha, hf, hk, hc => by
  by_cases he : a = s.length
  ·subst he
   rw [List.drop_length, yjA]
   refine zaL ?_
   unfold zbZ
   simp only []
   rw [zaR (by omega)]
   show some (Sum.inr (Sum.inr acc)) = some (Sum.inr (Sum.inr (acc ++ [])))
   rw [List.append_nil]
  ·have halt : a < s.length := by omega
   have hd := List.drop_eq_getElem_cons halt
   obtain ⟨f, rfl⟩ : ∃ g, f = g + 1 := ⟨f - 1, by omega⟩
   have hle := ydY (s.drop a)
   have hdl : (s.drop a).length = s.length - a := List.length_drop ..
   have hsub : sub3 s (a : Int) ((a + colN (s.drop a) : Nat) : Int) = some ((s.drop a).take (colN (s.drop a))) := by
    have := ykF (l := s) (n := a) (m := a + colN (s.drop a)) (by omega) (by omega)
    rw [this, List.drop_take]
    congr 2
    omega
   have hbody : zbZ zaB s (a : Int) acc = match colF (s.drop a) with
     | none => some (.inr (.inl false))
     | some (h, r) => bif numB h && decide (valF h ≤ r.length) then some (.inl (((a + h.length + 1 + valF h : Nat) : Int), acc ++ [r.take (valF h)])) else some (.inr (.inl false)) := by
    unfold zbZ
    rw [zbC (show (a : Int) < (s.length : Int) by omega), yxC acc ha hs, zaA]
    simp only []
    rw [hsub, zaA, zyI, zaA]
    cases hcl : colF (s.drop a) with
    | none =>
     have hn : colN (s.drop a) = s.length - a := by unfold colN; rw [hcl]; exact hdl
     have hj : ∀ v, zdG zaB s (((a + colN (s.drop a) : Nat) : Int), acc) v = some (.inl false) := fun v => by
      unfold zdG
      cases v.2 with
      | false => rfl
      | true =>
       simp only [Bool.not_true, cond_false]
       rw [show (((a + colN (s.drop a) : Nat) : Int) == (s.length : Int)) = true from beq_iff_eq.2 (by omega)]
       rfl
     rw [hj, zaA]
    | some p =>
     obtain ⟨h, r⟩ := p
     have hcs := (znR hcl).1
     have hn : colN (s.drop a) = h.length := by unfold colN; rw [hcl]
     have ht : (s.drop a).take h.length = h := by rw [hcs]; simp
     have hlen : h.length + r.length + 1 = s.length - a := by rw [← hdl, hcs]; simp; omega
     have hr : s.drop (a + h.length + 1) = r := by
      rw [show a + h.length + 1 = a + (h.length + 1) by omega, ← List.drop_drop, hcs]
      simp [List.drop_append]
     rw [hn, ht]
     simp only []
     unfold zdG numR
     cases hb : numB h with
     | false => rfl
     | true =>
      simp only [cond_true, Bool.not_true, cond_false, Bool.true_and]
      rw [show (((a + h.length : Nat) : Int) == (s.length : Int)) = false from beq_eq_false_iff_ne.2 (by omega)]
      simp only [cond_false]
      rw [ziX (x := (s.length : Int) - ((a + h.length : Nat) : Int)) (by omega) (by omega), ziX (x := (s.length : Int) - ((a + h.length : Nat) : Int) - 1) (by omega) (by omega)]
      have hvl := (zuW hb).2
      by_cases hv : valF h ≤ r.length
      ·rw [decide_eq_false (show ¬ ((valF h : Nat) : Int) > (s.length : Int) - ((a + h.length : Nat) : Int) - 1 by omega), decide_eq_true hv]
       simp only [cond_false, cond_true, zaA]
       rw [zjF (show a + h.length < 1099511627776 by omega), show (((a + h.length + 1 : Nat) : Int) + ((valF h : Nat) : Int)) = ((a + h.length + 1 + valF h : Nat) : Int) by omega, ycM (by omega), ykF (n := a + h.length + 1) (m := a + h.length + 1 + valF h) (by omega) (by omega), zaA, List.drop_take, hr, show a + h.length + 1 + valF h - (a + h.length + 1) = valF h by omega, zmX (by simp; omega), zaA]
      ·rw [decide_eq_true (show ((valF h : Nat) : Int) > (s.length : Int) - ((a + h.length : Nat) : Int) - 1 by omega), decide_eq_false hv]
       rfl
   have htx : txtF (f + 1) (s.drop a) = match colF (s.drop a) with
     | none => none
     | some (h, r) => bif numB h && decide (valF h ≤ r.length) then (txtF f (r.drop (valF h))).map (r.take (valF h) :: ·) else none := by
    rw [hd, yzB]
   rw [htx]
   cases hcl : colF (s.drop a) with
   | none =>
    rw [hcl] at hbody
    exact zaL hbody
   | some p =>
    obtain ⟨h, r⟩ := p
    have hcs := (znR hcl).1
    have hlen : h.length + r.length + 1 = s.length - a := by rw [← hdl, hcs]; simp; omega
    have hr : s.drop (a + h.length + 1) = r := by
     rw [show a + h.length + 1 = a + (h.length + 1) by omega, ← List.drop_drop, hcs]
     simp [List.drop_append]
    rw [hcl] at hbody
    simp only [] at hbody ⊢
    cases hb : numB h && decide (valF h ≤ r.length) with
    | false =>
     rw [hb] at hbody
     exact zaL hbody
    | true =>
     have hv : valF h ≤ r.length := by
      rw [Bool.and_eq_true, decide_eq_true_eq] at hb
      exact hb.2
     rw [hb] at hbody
     simp only [cond_true] at hbody ⊢
     rw [zbB hbody, ybS, show r.drop (valF h) = s.drop (a + h.length + 1 + valF h) by rw [← hr, List.drop_drop]]
     exact ysF hs f (a + h.length + 1 + valF h) (acc ++ [r.take (valF h)]) k (by omega) (by omega) (by omega) (by simp; omega)
theorem ycA {s : L8} (h : s.length ≤ 1048576) : zcJ zaB s = some (txtP s) := by
 unfold zcJ
 have := ysF h s.length 0 [] FU (Nat.zero_le _) (by omega) (by unfold FU; omega) (by simp; omega)
 rw [List.drop_zero] at this
 rw [show iter _ ((0 : Int), ([] : List L8)) = _ from this, zaA]
 unfold txtP
 cases txtF s.length s <;> rfl
theorem ybN {α R : Type} {l : List α} {p : α → Bool} {body : Int → Option (Int ⊕ R)} {bad good : R} (hl : l.length < 1099511627776)
  (hb : ∀ (k : Nat) (hk : k < l.length), body (k : Int) = some (bif p l[k] then .inl ((k + 1 : Nat) : Int) else .inr bad)) (he : body (l.length : Int) = some (.inr good)) : iter body (0 : Int) = some (bif l.all p then good else bad) := by
 have hT : T (iter body (0 : Int)) fun r => r = (bif l.all p then good else bad) := by
  refine T.iter (fun x => 0 ≤ x ∧ x ≤ (l.length : Int) ∧ (l.take x.toNat).all p = true) (fun x => l.length - x.toNat) _ (fun x hx => ?_) ⟨Int.le_refl _, by omega, rfl⟩ (by omega)
  obtain ⟨h1, h2, h3⟩ := hx
  obtain ⟨k, rfl⟩ : ∃ k : Nat, x = k := ⟨x.toNat, by omega⟩
  rw [Int.toNat_natCast] at h3
  by_cases hk : k < l.length
  ·rw [hb k hk]
   cases hp : p l[k] with
   | true => exact T.ok ⟨⟨by omega, by omega, by rw [Int.toNat_natCast, ztQ hk, h3, hp]; rfl⟩, by omega⟩
   | false => exact T.ok (by rw [yfP hk hp]; rfl)
  ·obtain rfl : k = l.length := by omega
   rw [he]
   rw [List.take_of_length_le (Nat.le_refl _)] at h3
   exact T.ok (by rw [h3]; rfl)
 obtain ⟨r, h1, rfl⟩ := hT
 exact h1
theorem yaS {α : Type} {l : List α} {p q : α → Bool} (h : ∀ x ∈ l, p x = q x) : l.all p = l.all q := by
 induction l with
 | nil => rfl
 | cons x l ih => rw [List.all_cons, List.all_cons, h x List.mem_cons_self, ih fun y hy => h y (List.mem_cons_of_mem _ hy)]
theorem yyK {s cs : L8} {n : Int} (hn : n ≤ 1048576) (h2 : cs.length < 4294967281) (h3 : cs.all (fun b => decide (b.toNat < 128)) = true) : zdL zaB s n cs = some (s != [] && decide ((s.length : Int) ≤ n) && s.all (cs.contains ·)) := by
 unfold zdL
 cases h0 : s != ([] : L8) with
 | false => rfl
 | true =>
  simp only [cond_true, Bool.true_and]
  by_cases hl : (s.length : Int) ≤ n
  ·rw [zbC hl, decide_eq_true hl]
   have ht : zaB.trim s cs = some (Lib.trimS s cs) := by
    show ztN s cs = _
    unfold ztN
    rw [decide_eq_true (show s.length ≤ 9223372036854775807 by omega), decide_eq_true h2, h3]
    rfl
   rw [ht, zaA, Bool.true_and]
   congr 1
   rw [Bool.eq_iff_iff, beq_iff_eq, zuX, List.all_eq_true]
  ·rw [zaR hl, decide_eq_false hl]
   rfl
abbrev yfY : L8 := [97, 98, 99, 100, 101, 102, 103, 104, 105, 106, 107, 108, 109, 110, 111, 112, 113, 114, 115, 116, 117, 118, 119, 120, 121, 122, 48, 49, 50, 51, 52, 53, 54, 55, 56, 57, 46, 95, 45]
def letB (b : UInt8) : Bool := (zaS zaB b).getD false
theorem yaU (b : UInt8) : zaS zaB b = some (letB b) := by
 have := znX (fun b => (zaS zaB b).isSome) (by kernel_rfl) b
 unfold letB
 cases h : zaS zaB b with
 | none => rw [h] at this; cases this
 | some v => rfl
theorem yyP (b : UInt8) : yfY.contains b = letB b := by
 have := znX (fun b => yfY.contains b == letB b) (by kernel_rfl) b
 simpa using this
abbrev ycD : L8 := [97, 98, 99, 100, 101, 102, 103, 104, 105, 106, 107, 108, 109, 110, 111, 112, 113, 114, 115, 116, 117, 118, 119, 120, 121, 122, 48, 49, 50, 51, 52, 53, 54, 55, 56, 57, 46, 95, 45, 58]
theorem ytV (b : UInt8) : ycD.contains b = (letB b || b == 58) := by
 have := znX (fun b => ycD.contains b == (letB b || b == 58)) (by kernel_rfl) b
 simpa using this
theorem xcM (s : L8) : nmB s = (s != [] && decide (s.length ≤ 24) && s.all letB) := by
 have h := ykT s
 unfold zcL at h
 rw [yyK (by decide) (by decide) (by decide), zaA] at h
 rw [← osi h, yaS fun b _ => yyP b]
 congr 2
 rw [decide_eq_decide]
 omega
theorem ylS (s : L8) : decide ((s.length : Int) ≥ 1) = (s != []) := by
 cases s with
 | nil => rfl
 | cons b l => rw [decide_eq_true (by simp only [List.length_cons]; omega)]; rfl
theorem ygL {s : L8} (hs : s.length ≤ 1048576) : zbS zaB s = some (nmB s) := by
 unfold zbS
 rw [ybN (l := s) (p := letB) (bad := Sum.inl false) (good := Sum.inr ()) (by omega) (fun k hk => ?_) ?_, zaA, xcM]
 ·cases ha : s.all letB with
  | false => simp
  | true =>
   simp only [cond_true, Bool.and_true]
   rw [← ylS]
   by_cases h : (s.length : Int) ≥ 1
   ·rw [zbC h, decide_eq_true h, Bool.true_and]
    congr 1
    rw [decide_eq_decide]
    omega
   ·rw [zaR h, decide_eq_false h]; rfl
 ·unfold zgH
  rw [zaR (by omega)]
 ·unfold zgH
  rw [zbC (show (k : Int) < (s.length : Int) by omega), zdW rfl hk, zaA, yaU, zaA]
  cases letB s[k] with
  | false => rfl
  | true => simp only [Bool.not_true, cond_false, cond_true]; rw [zjF (by omega)]
theorem xaY (s : L8) : scB s = (s != [] && decide (s.length ≤ 32) && s.all fun b => letB b || b == 58) := by
 have h := ylV s
 unfold zdH at h
 rw [yyK (by decide) (by decide) (by decide), zaA] at h
 rw [← osi h, yaS (q := fun b => letB b || b == 58) fun b _ => ytV b]
 congr 2
 rw [decide_eq_decide]
 omega
theorem ylW {s : L8} (hs : s.length ≤ 1048576) : zcH zaB s = some (scB s) := by
 unfold zcH
 rw [ybN (l := s) (p := fun b => letB b || b == 58) (bad := Sum.inl false) (good := Sum.inr ()) (by omega) (fun k hk => ?_) ?_, zaA, xaY]
 ·cases ha : s.all fun b => letB b || b == 58 with
  | false => simp
  | true =>
   simp only [cond_true, Bool.and_true]
   rw [← ylS]
   by_cases h : (s.length : Int) ≥ 1
   ·rw [zbC h, decide_eq_true h, Bool.true_and]
    congr 1
    rw [decide_eq_decide]
    omega
   ·rw [zaR h, decide_eq_false h]; rfl
 ·unfold zfC
  rw [zaR (by omega)]
 ·unfold zfC
  rw [zbC (show (k : Int) < (s.length : Int) by omega), zdW rfl hk, zaA, yaU, zaA]
  cases letB s[k] with
  | true => simp only [Bool.not_true, cond_false, cond_true, Bool.true_or]; rw [zjF (by omega)]
  | false =>
   simp only [Bool.not_false, cond_true, zaA, Bool.false_or]
   rw [is58]
   cases h58 : s[k] == 58 with
   | true => rw [show (s[k] != 58) = false by rw [bne, h58]; rfl]; simp only [cond_false, cond_true]; rw [zjF (by omega)]
   | false => rw [show (s[k] != 58) = true by rw [bne, h58]; rfl]; rfl
def okB (b : UInt8) : Bool := decide (33 ≤ b.toNat) && decide (b.toNat ≤ 126)
theorem yiZ {l : L8} {k : Nat} (hk : k < l.length) (h : l[k].toNat < 128) : nxR l k = (l[k].toNat : Int) ∧ nxP l k = k + 1 := by
 have hg : ((⟨l.toArray⟩ : ByteArray).get! k) = l[k] := by
  simp [ByteArray.get!, hk]
 unfold nxR nxP dec Utf8.decode
 simp only [Nat.add_zero, hg]
 rw [if_pos h, zbC hk]
 exact ⟨rfl, rfl⟩
theorem ypH {l : L8} {k : Nat} (hk : k < l.length) (h : 128 ≤ l[k].toNat) : nxR l k > 126 := by
 have hg : ((⟨l.toArray⟩ : ByteArray).get! k) = l[k] := by
  simp [ByteArray.get!, hk]
 have e : Utf8.runeError > 126 := by decide
 unfold nxR dec Utf8.decode
 simp only [Nat.add_zero, hg]
 rw [if_neg (by omega)]
 repeat' split
 all_goals first | (simp only []; omega) | (simp only []; rename_i h1; simp only [Bool.and_eq_true, decide_eq_true_eq] at h1; omega)
theorem xbY {b : UInt8} (h : okB b = true) : 33 ≤ b.toNat ∧ b.toNat ≤ 126 := by
 unfold okB at h
 simp only [Bool.and_eq_true, decide_eq_true_eq] at h
 exact h
theorem yrG {s : L8} (hs : s.length ≤ 1048576) : zcI zaB s = some (!s.all okB) := by
 have hT : T (iter (fun x : L8 × Int => zeN zaB true x.1 x.2) (s, (0 : Int))) fun r => match r with
   | .inl i => 0 ≤ i ∧ s.all okB = false
   | .inr _ => s.all okB = true := by
  refine T.iter (fun x => x.1 = s ∧ 0 ≤ x.2 ∧ x.2 ≤ (s.length : Int) ∧ (s.take x.2.toNat).all okB = true) (fun x => s.length - x.2.toNat) _ (fun x hx => ?_) ⟨rfl, Int.le_refl _, by simp, rfl⟩ (by simp; omega)
  obtain ⟨v, i⟩ := x
  obtain ⟨e, h1, h2, h3⟩ := hx
  simp only at e h1 h2 h3
  subst e
  obtain ⟨k, rfl⟩ : ∃ k : Nat, i = k := ⟨i.toNat, by omega⟩
  rw [Int.toNat_natCast] at h3
  unfold zeN
  simp only [Int.toNat_natCast]
  refine T.dif (fun hk => ?_) fun hk => T.ok ?_
  ·have hp : zgS zaB (nxR v k) = some (!okB v[k]) := by
    unfold zgS
    rcases Nat.lt_or_ge v[k].toNat 128 with hlo | hhi
    ·rw [(yiZ hk hlo).1]
     unfold okB
     by_cases h33 : (v[k].toNat : Int) < 33
     ·rw [zbC h33, decide_eq_false (show ¬ 33 ≤ v[k].toNat by omega)]; rfl
     ·rw [zaR h33, decide_eq_true (show 33 ≤ v[k].toNat by omega), Bool.true_and]
      congr 1
      by_cases h126 : (v[k].toNat : Int) > 126
      ·rw [decide_eq_true h126, decide_eq_false (show ¬ v[k].toNat ≤ 126 by omega)]; rfl
      ·rw [decide_eq_false h126, decide_eq_true (show v[k].toNat ≤ 126 by omega)]; rfl
    ·have := ypH hk hhi
     rw [zaR (by omega), decide_eq_true this]
     unfold okB
     rw [decide_eq_false (show ¬ v[k].toNat ≤ 126 by omega), Bool.and_false]
     rfl
   rw [hp, zaA]
   cases hb : okB v[k] with
   | false =>
    refine T.bif (fun _ => T.ok ⟨by omega, yfP hk hb⟩) fun h => ?_
    cases h
   | true =>
    refine T.bif (fun h => ?_) fun _ => T.ok ?_
    ·cases h
    ·have hlt := xbY hb
     rw [(yiZ hk (by omega)).2]
     refine ⟨⟨rfl, by simp only []; omega, by simp only []; omega, ?_⟩, by simp only []; omega⟩
     simp only [Int.toNat_natCast]
     rw [ztQ hk, h3, hb]
     rfl
  ·rw [List.take_of_length_le (by omega)] at h3
   exact h3
 obtain ⟨r, h1, h2⟩ := hT
 unfold zcI zfB zfH
 rw [h1]
 cases r with
 | inl i =>
  simp only [zaA]
  rw [decide_eq_true (show i ≥ 0 from h2.1), h2.2]
  rfl
 | inr u =>
  simp only [zaA]
  rw [show s.all okB = true from h2]
  rfl
theorem xaX (s : L8) (hs : s.length ≤ 1048576) : txB s = (s != [] && decide (s.length ≤ 128) && s.all okB) := by
 have h := ywQ s
 unfold zdB at h
 rw [yrG hs] at h
 cases h0 : s != ([] : L8) with
 | false => rw [h0] at h; rw [← osi h]; rfl
 | true =>
  rw [h0] at h
  simp only [cond_true, zaA, Bool.not_not] at h
  by_cases hl : (s.length : Int) ≤ 128
  ·rw [zbC hl] at h
   rw [← osi h, decide_eq_true (show s.length ≤ 128 by omega)]; rfl
  ·rw [zaR hl] at h
   rw [← osi h, decide_eq_false (show ¬ s.length ≤ 128 by omega)]; rfl
theorem ok_j (b : UInt8) {α : Type} (x y : Option α) : (bif decide ((b.toNat : Int) < ((33 : UInt8).toNat : Int)) then x else (bif decide ((b.toNat : Int) > ((126 : UInt8).toNat : Int)) then x else y)) = bif okB b then y else x := by
 have e1 : ((33 : UInt8).toNat : Int) = 33 := rfl
 have e2 : ((126 : UInt8).toNat : Int) = 126 := rfl
 rw [e1, e2]
 unfold okB
 by_cases h1 : (b.toNat : Int) < 33
 ·rw [zbC h1, decide_eq_false (show ¬ 33 ≤ b.toNat by omega)]; rfl
 ·rw [zaR h1, decide_eq_true (show 33 ≤ b.toNat by omega)]
  by_cases h2 : (b.toNat : Int) > 126
  ·rw [zbC h2, decide_eq_false (show ¬ b.toNat ≤ 126 by omega)]; rfl
  ·rw [zaR h2, decide_eq_true (show b.toNat ≤ 126 by omega)]; rfl
theorem yoL {s : L8} (hs : s.length ≤ 1048576) : zbQ zaB s = some (txB s) := by
 unfold zbQ
 rw [ybN (l := s) (p := okB) (bad := Sum.inl false) (good := Sum.inr ()) (by omega) (fun k hk => ?_) ?_, zaA, xaX s hs]
 ·cases ha : s.all okB with
  | false => simp
  | true =>
   simp only [cond_true, Bool.and_true]
   rw [← ylS]
   by_cases h : (s.length : Int) ≥ 1
   ·rw [zbC h, decide_eq_true h, Bool.true_and]
    congr 1
    rw [decide_eq_decide]
    omega
   ·rw [zaR h, decide_eq_false h]; rfl
 ·unfold zgB
  rw [zaR (by omega)]
 ·unfold zgB
  rw [zbC (show (k : Int) < (s.length : Int) by omega), zdW rfl hk, zaA, zaA, ok_j]
  cases okB s[k] with
  | false => rfl
  | true => simp only [cond_true]; rw [zjF (by omega)]
theorem yfW {s : L8} (hs : s.length ≤ 1048576) : zbF zaB s = some (prB s) := by
 rw [← yqF]
 unfold zbF zbA
 by_cases hl : (s.length : Int) > 2
 ·rw [zbC hl, zbC hl, show subH s 2 = some (s.take 2) from znZ (n := 2) (by omega), zaA, zaA, show subL s 2 = some (s.drop 2) from znK (n := 2) (by omega)]
  simp only [zaA]
  rw [ygL (by rw [List.length_drop]; omega), ykT]
 ·rw [zaR hl, zaR hl]
theorem yaH {l : List L8} (h : l.length ≤ 1048576) (hs : ∀ s ∈ l, s.length ≤ 1048576) : ∀ (f i k : Nat), f + i = l.length → f < k →
  zkC (zbY zaB l 1) k (i : Int) = some (bif scpF l f i then .inr () else .inl false)
 | 0, i, k + 1, hf, _ => by
  rw [zaL (b := Sum.inr ())]
  ·rfl
  ·unfold zbY
   rw [zaR (show ¬ (i : Int) < (l.length : Int) by omega)]
 | f + 1, i, k + 1, hf, hk => by
  have hi : i < l.length := by omega
  have hb : zbY zaB l 1 (i : Int) = some (bif scB l[i] && (decide (i = 0) || !(match l[i - 1]? with | none => true | some q => Op.bytesLess l[i] q || l[i] == q)) then .inl ((i + 1 : Nat) : Int) else .inr (.inl false)) := by
   unfold zbY
   rw [zbC (show (i : Int) < (l.length : Int) by omega), show ((1 : Int) == 0) = false from rfl, show ((1 : Int) == 1) = true from rfl]
   simp only [cond_false, cond_true]
   rw [zdW rfl hi, zaA, ylW (hs _ (List.getElem_mem hi)), zaA]
   cases scB l[i] with
   | false => rfl
   | true =>
    simp only [Bool.not_true, cond_false, Bool.true_and]
    by_cases h0 : i = 0
    ·subst h0
     rw [zaR (show ¬ ((0 : Nat) : Int) > 0 by omega), zjF (by omega)]
     rfl
    ·have hp : i - 1 < l.length := by omega
     rw [zbC (show (i : Int) > 0 by omega), zaA, ziX (by omega) (by omega), zdW (i := i - 1) (by omega) hp, zaA, List.getElem?_eq_getElem hp, decide_eq_false h0, Bool.false_or, zjF (by omega)]
     simp only []
     cases Op.bytesLess l[i] l[i - 1] || l[i] == l[i - 1] <;> rfl
  unfold scpF
  rw [List.getElem?_eq_getElem hi]
  simp only []
  cases hc : scB l[i] && (decide (i = 0) || !(match l[i - 1]? with | none => true | some q => Op.bytesLess l[i] q || l[i] == q)) with
  | false =>
   rw [hc] at hb
   rw [Bool.false_and]
   exact zaL hb
  | true =>
   rw [hc] at hb
   rw [Bool.true_and]
   refine (zbB hb).trans ?_
   exact yaH h hs f (i + 1) k (by omega) (by omega)
theorem yjC {l : List L8} (h : l.length ≤ 1048576) (hs : ∀ s ∈ l, s.length ≤ 1048576) : zdU zaB l 16 1 = some (scpF l l.length 0 && decide ((l.length : Int) ≤ 16)) := by
 unfold zdU
 have := yaH h hs l.length 0 FU (by omega) (by unfold FU; omega)
 rw [show iter _ (0 : Int) = _ from this, zaA]
 cases scpF l l.length 0 <;> rfl
theorem in_j {α : Type} (x a b : Int) (u v : α) : (bif decide (x < a) then u else (bif decide (x > b) then u else v)) = bif inB x a b then v else u := by
 unfold inB
 by_cases h1 : x < a
 ·rw [zbC h1, decide_eq_false (show ¬ a ≤ x by omega)]; rfl
 ·rw [zaR h1, decide_eq_true (show a ≤ x by omega), Bool.true_and]
  by_cases h2 : x > b
  ·rw [zbC h2, decide_eq_false (show ¬ x ≤ b by omega)]; rfl
  ·rw [zaR h2, decide_eq_true (show x ≤ b by omega)]; rfl
theorem in_k {α : Type} (x a b : Int) (u v : α) : (bif decide (x ≥ a) then (bif decide (x ≤ b) then v else u) else u) = bif inB x a b then v else u := by
 unfold inB
 by_cases h1 : x ≥ a
 ·rw [zbC h1, decide_eq_true (show a ≤ x from h1), Bool.true_and]
 ·rw [zaR h1, decide_eq_false (show ¬ a ≤ x from h1)]; rfl
theorem ytF {α R S : Type} {l : List α} {p : α → Bool} {s : S} {body : Int × S → Option ((Int × S) ⊕ R)} {bad good : R} (hl : l.length < 1099511627776)
  (hb : ∀ (k : Nat) (hk : k < l.length), body ((k : Int), s) = some (bif p l[k] then .inl (((k + 1 : Nat) : Int), s) else .inr bad)) (he : body ((l.length : Int), s) = some (.inr good)) : iter body ((0 : Int), s) = some (bif l.all p then good else bad) := by
 have hT : T (iter body ((0 : Int), s)) fun r => r = (bif l.all p then good else bad) := by
  refine T.iter (fun x => 0 ≤ x.1 ∧ x.1 ≤ (l.length : Int) ∧ (l.take x.1.toNat).all p = true ∧ x.2 = s) (fun x => l.length - x.1.toNat) _ (fun x hx => ?_) ⟨Int.le_refl _, by simp, rfl, rfl⟩ (by simp; omega)
  obtain ⟨i, s'⟩ := x
  obtain ⟨h1, h2, h3, h4⟩ := hx
  simp only at h1 h2 h3 h4
  subst h4
  obtain ⟨k, rfl⟩ : ∃ k : Nat, i = k := ⟨i.toNat, by omega⟩
  rw [Int.toNat_natCast] at h3
  by_cases hk : k < l.length
  ·rw [hb k hk]
   cases hp : p l[k] with
   | true => exact T.ok ⟨⟨by simp only []; omega, by simp only []; omega, by simp only [Int.toNat_natCast]; rw [ztQ hk, h3, hp]; rfl, rfl⟩, by simp only []; omega⟩
   | false => exact T.ok (by rw [yfP hk hp]; rfl)
  ·obtain rfl : k = l.length := by omega
   rw [he]
   rw [List.take_of_length_le (Nat.le_refl _)] at h3
   exact T.ok (by rw [h3]; rfl)
 obtain ⟨r, h1, rfl⟩ := hT
 exact h1
theorem yzM {n : Nd} (h : NdOk n) : zgT zaB n = some (bif inB n.2.1 1 5 && decide (n.2.2.1 ≥ 0) && prB n.2.2.2.1 && (n.2.2.2.2.1 == ([] : L8) || nmB n.2.2.2.2.1) && (n.2.2.2.2.2.1 == ([] : L8) || txB n.2.2.2.2.2.1) then .inr n else .inl false) := by
 unfold zgT
 rw [in_j, yfW h.1, ygL h.2.1, yoL h.2.2.1]
 simp only [zaA]
 cases inB n.2.1 1 5 with
 | false => rfl
 | true =>
  by_cases hp : n.2.2.1 < 0
  ·rw [zbC hp, decide_eq_false (show ¬ n.2.2.1 ≥ 0 by omega)]; rfl
  ·rw [zaR hp, decide_eq_true (show n.2.2.1 ≥ 0 by omega)]
   unfold bne
   cases prB n.2.2.2.1 <;> cases (n.2.2.2.2.1 == ([] : L8)) <;> cases (n.2.2.2.2.2.1 == ([] : L8)) <;> cases nmB n.2.2.2.2.1 <;> cases txB n.2.2.2.2.2.1 <;> rfl
theorem xaH (n : Nd) : zgV zaB n = some (inB n.2.2.2.2.2.2.2.1 0 1099511627776 && inB n.2.2.2.2.2.2.2.2.1 0 1099511627776, n) := by
 unfold zgV
 rw [in_k]
 cases inB n.2.2.2.2.2.2.2.1 0 1099511627776 with
 | false => rfl
 | true =>
  simp only [cond_true, Bool.true_and]
  unfold inB
  by_cases h : n.2.2.2.2.2.2.2.2.1 ≥ 0
  ·rw [zbC h, decide_eq_true (show (0 : Int) ≤ n.2.2.2.2.2.2.2.2.1 from h), Bool.true_and]
  ·rw [zaR h, decide_eq_false (show ¬ (0 : Int) ≤ n.2.2.2.2.2.2.2.2.1 from h)]; rfl
theorem ylZ : ∀ l : List L8, (!l.any fun s => !prB s) = l.all prB
 | [] => rfl
 | x :: l => by rw [List.any_cons, List.all_cons, ← ylZ l]; cases prB x <;> rfl
theorem yzV (s k p q c a l b e x g v t1 t2 d : Bool) : (s && k && p && q && c && a && l && b && e && x && g && v && (t1 && t2) && d) = (k && p && q && c && a && (g && ((b && e) && ((s && l) && (x && (v && (t1 && (t2 && d)))))))) := by ac_rfl
theorem yuJ {n : Nd} (h : NdOk n) : zeM zaB n = some (mayB n) := by
 have ha : n.2.2.2.2.2.2.2.2.2.2.2.1.length ≤ 1048576 := h.2.2.2.2.2.1
 have hs : n.2.2.2.2.2.2.1.length ≤ 1048576 := h.2.2.2.1
 have hax : (!axB (nact n)) = (nact n).all prB := by rw [yjP ha, ylZ]
 unfold zeM
 rw [yzM h, zaA]
 have hm : mayB n = (inB n.2.1 1 5 && decide (n.2.2.1 ≥ 0) && prB n.2.2.2.1 && (n.2.2.2.2.1 == ([] : L8) || nmB n.2.2.2.2.1) && (n.2.2.2.2.2.1 == ([] : L8) || txB n.2.2.2.2.2.1) && ((nact n).all prB && ((inB n.2.2.2.2.2.2.2.1 0 1099511627776 && inB n.2.2.2.2.2.2.2.2.1 0 1099511627776) && ((scpF n.2.2.2.2.2.2.1 n.2.2.2.2.2.2.1.length 0 && decide ((n.2.2.2.2.2.2.1.length : Int) ≤ 16)) && (decide ((n.2.2.2.2.2.2.2.2.2.2.2.1.length : Int) ≤ 4) && (inB n.2.2.2.2.2.2.2.2.2.2.2.2.1 0 3 && (decide ((n.2.2.2.2.2.2.2.2.2.2.2.2.2.1.length : Int) ≥ 1) && (decide ((n.2.2.2.2.2.2.2.2.2.2.2.2.2.1.length : Int) ≤ 64) && decide ((n.2.2.2.2.2.2.2.2.2.2.2.2.2.2.length : Int) ≤ 256))))))))) := by
  unfold mayB
  rw [hax]
  have e : inB ((nsec n).length : Int) 1 64 = (decide (((nsec n).length : Int) ≥ 1) && decide (((nsec n).length : Int) ≤ 64)) := rfl
  rw [e]
  exact yzV _ _ _ _ _ _ _ _ _ _ _ _ _ _ _
 rw [hm]
 cases inB n.2.1 1 5 && decide (n.2.2.1 ≥ 0) && prB n.2.2.2.1 && (n.2.2.2.2.1 == ([] : L8) || nmB n.2.2.2.2.1) && (n.2.2.2.2.2.1 == ([] : L8) || txB n.2.2.2.2.2.1) with
 | false => rfl
 | true =>
  simp only [cond_true, Bool.true_and]
  rw [show iter _ ((0 : Int), n) = _ from ytF (l := nact n) (p := prB) (s := n) (bad := Sum.inl false) (good := Sum.inr n) (by show n.2.2.2.2.2.2.2.2.2.2.2.1.length < _; omega) (fun k hk => ?_) ?_, zaA]
  ·cases (nact n).all prB with
   | false => rfl
   | true =>
    simp only [cond_true, Bool.true_and]
    rw [xaH, zaA]
    cases inB n.2.2.2.2.2.2.2.1 0 1099511627776 && inB n.2.2.2.2.2.2.2.2.1 0 1099511627776 with
    | false => rfl
    | true =>
     simp only [cond_true, Bool.true_and]
     rw [yjC hs h.2.2.2.2.1, zaA, in_k]
     cases scpF n.2.2.2.2.2.2.1 n.2.2.2.2.2.2.1.length 0 && decide ((n.2.2.2.2.2.2.1.length : Int) ≤ 16) with
     | false => rfl
     | true =>
      simp only [cond_true, Bool.true_and]
      cases decide ((n.2.2.2.2.2.2.2.2.2.2.2.1.length : Int) ≤ 4) with
      | false => rfl
      | true =>
       simp only [cond_true, Bool.true_and]
       cases inB n.2.2.2.2.2.2.2.2.2.2.2.2.1 0 3 with
       | false => rfl
       | true =>
        simp only [cond_true, Bool.true_and]
        cases decide ((n.2.2.2.2.2.2.2.2.2.2.2.2.2.1.length : Int) ≥ 1) with
        | false => rfl
        | true =>
         simp only [cond_true, Bool.true_and]
         cases decide ((n.2.2.2.2.2.2.2.2.2.2.2.2.2.1.length : Int) ≤ 64) <;> rfl
  ·show zcO zaB (((nact n).length : Nat) : Int) n.1 n.2.1 n.2.2.1 n.2.2.2.1 n.2.2.2.2.1 n.2.2.2.2.2.1 n.2.2.2.2.2.2.1 n.2.2.2.2.2.2.2.1 n.2.2.2.2.2.2.2.2.1 n.2.2.2.2.2.2.2.2.2.1 n.2.2.2.2.2.2.2.2.2.2.1 n.2.2.2.2.2.2.2.2.2.2.2.1 n.2.2.2.2.2.2.2.2.2.2.2.2.1 n.2.2.2.2.2.2.2.2.2.2.2.2.2.1 n.2.2.2.2.2.2.2.2.2.2.2.2.2.2 = _
   unfold zcO
   rw [zaR (show ¬ (((nact n).length : Nat) : Int) < (n.2.2.2.2.2.2.2.2.2.2.2.1.length : Int) by show ¬ (n.2.2.2.2.2.2.2.2.2.2.2.1.length : Int) < _; omega)]
  ·have hk2 : k < n.2.2.2.2.2.2.2.2.2.2.2.1.length := hk
   show zcO zaB (k : Int) n.1 n.2.1 n.2.2.1 n.2.2.2.1 n.2.2.2.2.1 n.2.2.2.2.2.1 n.2.2.2.2.2.2.1 n.2.2.2.2.2.2.2.1 n.2.2.2.2.2.2.2.2.1 n.2.2.2.2.2.2.2.2.2.1 n.2.2.2.2.2.2.2.2.2.2.1 n.2.2.2.2.2.2.2.2.2.2.2.1 n.2.2.2.2.2.2.2.2.2.2.2.2.1 n.2.2.2.2.2.2.2.2.2.2.2.2.2.1 n.2.2.2.2.2.2.2.2.2.2.2.2.2.2 = _
   unfold zcO
   rw [zbC (show (k : Int) < (n.2.2.2.2.2.2.2.2.2.2.2.1.length : Int) by omega), zdW rfl hk2, zaA, yfW (h.2.2.2.2.2.2 _ (List.getElem_mem hk2)), zaA, zjF (by omega)]
   show _ = some (bif prB n.2.2.2.2.2.2.2.2.2.2.2.1[k] then _ else _)
   cases prB n.2.2.2.2.2.2.2.2.2.2.2.1[k] <;> rfl
def rdT (l : List L8) (q : Bool) : L8 × List L8 × Bool := match l with
 | [] => ([], [], true)
 | x :: r => (x, r, q)
def rdN (l : List L8) (q : Bool) : Int × List L8 × Bool := ((numR (rdT l q).1).1, (rdT l q).2.1, (rdT l q).2.2 || !(numR (rdT l q).1).2)
def rdM (a b : Int) (l : List L8) (q : Bool) : Int × List L8 × Bool := bif !(numR (rdT l q).1).2 || (decide ((numR (rdT l q).1).1 < a) || decide ((numR (rdT l q).1).1 > b)) then (a, (rdT l q).2.1, true) else ((numR (rdT l q).1).1, (rdT l q).2)
def rdF (l : List L8) (q : Bool) : Bool × List L8 × Bool := ((rdT l q).1 == [49], (rdT l q).2.1, (rdT l q).2.2 || ((rdT l q).1 != [48] && (rdT l q).1 != [49]))
def rdG (l : List L8) (q : Bool) : Bool × List L8 × Bool := ((rdM 0 1 l q).1 == 1, (rdM 0 1 l q).2)
def rdL (l : List L8) (q : Bool) : List L8 × List L8 × Bool := bif (rdN l q).2.2 || decide ((rdN l q).1 > ((rdN l q).2.1.length : Int)) then ([], (rdN l q).2.1, true) else ((rdN l q).2.1.take (rdN l q).1.toNat, (rdN l q).2.1.drop (rdN l q).1.toNat, (rdN l q).2.2)
def rdK (l : List L8) (q : Bool) : List L8 × List L8 × Bool := bif decide ((rdM 0 100000 l q).1 > ((rdM 0 100000 l q).2.1.length : Int)) then ([], (rdM 0 100000 l q).2.1, true) else ((rdM 0 100000 l q).2.1.take (rdM 0 100000 l q).1.toNat, (rdM 0 100000 l q).2.1.drop (rdM 0 100000 l q).1.toNat, (rdM 0 100000 l q).2.2)
def Sml (l : List L8) : Prop := l.length ≤ 1048576 ∧ ∀ t ∈ l, t.length ≤ 1048576
theorem ztC (l : List L8) (q : Bool) : zaG zaB l q = some (rdT l q) := by
 cases l with
 | nil => rfl
 | cons x r =>
  unfold zaG
  have e : ((((x :: r).length : Nat) : Int) == (0 : Int)) = false := beq_eq_false_iff_ne.2 (by simp only [List.length_cons]; omega)
  rw [e]
  simp only [cond_false]
  rw [show idx (x :: r) 0 = some x from rfl, zaA, show subL (x :: r) 1 = some r from znK (n := 1) (by simp), zaA]
  rfl
theorem zsM (l : List L8) (q : Bool) : zaD zaB l q = some (rdT l q) := ztC l q
theorem Sml.text {l : List L8} (h : Sml l) (q : Bool) : (rdT l q).1.length ≤ 1048576 ∧ Sml (rdT l q).2.1 := by
 cases l with
 | nil => exact ⟨Nat.zero_le _, h⟩
 | cons x r => exact ⟨h.2 x List.mem_cons_self, by have := h.1; simp only [List.length_cons] at this; show r.length ≤ _; omega, fun t ht => h.2 t (List.mem_cons_of_mem _ ht)⟩
theorem zqB {l : List L8} (h : Sml l) (q : Bool) : zaE zaB l q = some (rdN l q) := by
 unfold zaE
 rw [ztC, zaA, zrZ _ (h.text q).1, zaA]
 unfold rdN
 cases (rdT l q).2.2 <;> rfl
theorem Sml.num {l : List L8} (h : Sml l) (q : Bool) : Sml (rdN l q).2.1 := (h.text q).2
theorem ztD (a b : Int) (l : List L8) (q : Bool) : zaC zaB a b l q = some (rdM a b l q) := by
 unfold zaC
 rw [zsM, zaA, zyI, zaA]
 have hj : zdF zaB a b (rdT l q) (numR (rdT l q).1) = some (!(numR (rdT l q).1).2 || (decide ((numR (rdT l q).1).1 < a) || decide ((numR (rdT l q).1).1 > b)), (rdT l q).2) := by
  unfold zdF
  cases (numR (rdT l q).1).2 with
  | false => rfl
  | true =>
   simp only [Bool.not_true, cond_false, Bool.false_or]
   by_cases h : (numR (rdT l q).1).1 < a
   ·rw [zbC h, decide_eq_true h]; rfl
   ·rw [zaR h, decide_eq_false h]; rfl
 rw [hj, zaA]
 unfold rdM
 cases !(numR (rdT l q).1).2 || (decide ((numR (rdT l q).1).1 < a) || decide ((numR (rdT l q).1).1 > b)) <;> rfl
theorem Sml.dnum {l : List L8} (h : Sml l) (a b : Int) (q : Bool) : Sml (rdM a b l q).2.1 := by
 unfold rdM
 cases !(numR (rdT l q).1).2 || (decide ((numR (rdT l q).1).1 < a) || decide ((numR (rdT l q).1).1 > b)) <;> exact (h.text q).2
theorem yrT (l : List L8) (q : Bool) : zbH zaB l q = some (rdF l q) := by
 unfold zbH
 rw [ztC, zaA]
 unfold rdF
 cases (rdT l q).2.2 with
 | true => rfl
 | false =>
  cases (rdT l q).1 != [48] <;> rfl
theorem Sml.flag {l : List L8} (h : Sml l) (q : Bool) : Sml (rdF l q).2.1 := (h.text q).2
theorem ylX (l : List L8) (q : Bool) : zaK zaB l q = some (rdG l q) := by
 unfold zaK
 rw [ztD, zaA]
 rfl
theorem Sml.dflag {l : List L8} (h : Sml l) (q : Bool) : Sml (rdG l q).2.1 := h.dnum 0 1 q
theorem zzD (s : L8) : 0 ≤ (numR s).1 := by
 unfold numR
 cases numB s with
 | false => exact Int.le_refl _
 | true => exact Int.natCast_nonneg _
theorem Sml.drop {l : List L8} (h : Sml l) (n : Nat) : Sml (l.drop n) := ⟨by rw [List.length_drop]; have := h.1; omega, fun t ht => h.2 t (List.mem_of_mem_drop ht)⟩
theorem Sml.take {l : List L8} (h : Sml l) (n : Nat) : Sml (l.take n) := ⟨by rw [List.length_take]; have := h.1; omega, fun t ht => h.2 t (List.mem_of_mem_take ht)⟩
theorem Sml.nil : Sml [] := ⟨Nat.zero_le _, fun _ h => by cases h⟩
theorem ysO {l : List L8} (h : Sml l) (q : Bool) : zbG zaB l q = some (rdL l q) := by
 unfold zbG
 rw [zqB h, zaA]
 have hp : 0 ≤ (rdN l q).1 := zzD _
 have hj : zhD zaB (rdN l q) = some (bif (rdN l q).2.2 || decide ((rdN l q).1 > ((rdN l q).2.1.length : Int)) then .inl ((rdN l q).2.1, true) else .inr (rdN l q).2) := by
  unfold zhD
  cases (rdN l q).2.2 with
  | true => rfl
  | false =>
   simp only [cond_false, Bool.false_or]
   by_cases hl : (rdN l q).1 > ((rdN l q).2.1.length : Int)
   ·rw [zbC hl, decide_eq_true hl]; rfl
   ·rw [zaR hl, decide_eq_false hl]; rfl
 rw [hj, zaA]
 unfold rdL
 cases hb : (rdN l q).2.2 || decide ((rdN l q).1 > ((rdN l q).2.1.length : Int)) with
 | true => rfl
 | false =>
  rw [Bool.or_eq_false_iff, decide_eq_false_iff_not] at hb
  obtain ⟨n, hn⟩ : ∃ n : Nat, (rdN l q).1 = n := ⟨(rdN l q).1.toNat, by omega⟩
  have hle : n ≤ (rdN l q).2.1.length := by omega
  simp only [cond_false, decide_true]
  rw [ycJ rfl, zaA, hn, znZ hle, zaA, znK hle, zaA, Int.toNat_natCast]
theorem Sml.list {l : List L8} (h : Sml l) (q : Bool) : Sml (rdL l q).1 ∧ Sml (rdL l q).2.1 := by
 unfold rdL
 cases (rdN l q).2.2 || decide ((rdN l q).1 > ((rdN l q).2.1.length : Int)) with
 | true => exact ⟨Sml.nil, h.num q⟩
 | false => exact ⟨(h.num q).take _, (h.num q).drop _⟩
theorem ytW {b : Int} (l : List L8) (q : Bool) : 0 ≤ (rdM 0 b l q).1 := by
 unfold rdM
 cases !(numR (rdT l q).1).2 || (decide ((numR (rdT l q).1).1 < 0) || decide ((numR (rdT l q).1).1 > b)) with
 | true => exact Int.le_refl _
 | false => exact zzD _
theorem yiT {l : List L8} (h : Sml l) (q : Bool) : zaJ zaB l q = some (rdK l q) := by
 unfold zaJ
 rw [ztD, zaA]
 have hp : 0 ≤ (rdM 0 100000 l q).1 := ytW l q
 unfold rdK
 by_cases hl : (rdM 0 100000 l q).1 > ((rdM 0 100000 l q).2.1.length : Int)
 ·rw [zbC hl, zbC hl]
 ·rw [zaR hl, zaR hl]
  obtain ⟨n, hn⟩ : ∃ n : Nat, (rdM 0 100000 l q).1 = n := ⟨(rdM 0 100000 l q).1.toNat, by omega⟩
  have hle : n ≤ (rdM 0 100000 l q).2.1.length := by omega
  have hs := (h.dnum 0 100000 q).1
  rw [hn, znZ hle, zaA, zuH _ (by rw [List.length_take]; omega), zaA, znK hle, zaA, Int.toNat_natCast]
theorem Sml.dlist {l : List L8} (h : Sml l) (q : Bool) : Sml (rdK l q).1 ∧ Sml (rdK l q).2.1 := by
 unfold rdK
 cases decide ((rdM 0 100000 l q).1 > ((rdM 0 100000 l q).2.1.length : Int)) with
 | true => exact ⟨Sml.nil, h.dnum _ _ q⟩
 | false => exact ⟨(h.dnum _ _ q).take _, (h.dnum _ _ q).drop _⟩
theorem invT {l : List L8} {q : Bool} (h : (rdT l q).2.2 = false) : q = false ∧ l = (rdT l q).1 :: (rdT l q).2.1 := by
 cases l with
 | nil => cases h
 | cons x r => exact ⟨h, rfl⟩
theorem invN {l : List L8} {q : Bool} (h : (rdN l q).2.2 = false) : q = false ∧ l = decI (rdN l q).1 :: (rdN l q).2.1 ∧ 0 ≤ (rdN l q).1 ∧ (rdN l q).1 < 1000000000000000 := by
 unfold rdN at h ⊢
 simp only [Bool.or_eq_false_iff, Bool.not_eq_false'] at h
 obtain ⟨h1, h2⟩ := invT h.1
 have hb : numB (rdT l q).1 = true := by
  have := h.2
  unfold numR at this
  cases hb : numB (rdT l q).1 with
  | true => rfl
  | false => rw [hb] at this; cases this
 have hd := zuW hb
 have e : numR (rdT l q).1 = ((valF (rdT l q).1 : Int), true) := by unfold numR; rw [hb]; rfl
 refine ⟨h1, ?_, zzD _, ?_⟩
 ·simp only [e]
  unfold decI
  rw [Int.toNat_natCast, hd.1]
  exact h2
 ·simp only [e]; omega
theorem ynZ {l : List L8} {q : Bool} (h : (rdN l q).2.2 = false) : rdM 0 999999999999999 l q = rdN l q := by
 have h2 := invN h
 unfold rdN at h h2 ⊢
 simp only [Bool.or_eq_false_iff, Bool.not_eq_false'] at h
 unfold rdM
 rw [h.2, decide_eq_false (show ¬ (numR (rdT l q).1).1 < 0 by have := h2.2.2.1; simp only at this; omega), decide_eq_false (show ¬ (numR (rdT l q).1).1 > 999999999999999 by have := h2.2.2.2; simp only at this; omega), h.1]
 simp only [Bool.not_true, Bool.or_self, cond_false]
 refine Prod.ext rfl (Prod.ext rfl ?_)
 exact h.1
theorem ybL {a b : Int} {l : List L8} {q : Bool} (h : (rdM a b l q).2.2 = false) : rdN l q = rdM a b l q ∧ a ≤ (rdM a b l q).1 ∧ (rdM a b l q).1 ≤ b := by
 unfold rdM at h ⊢
 cases hb : !(numR (rdT l q).1).2 || (decide ((numR (rdT l q).1).1 < a) || decide ((numR (rdT l q).1).1 > b)) with
 | true => rw [hb] at h; cases h
 | false =>
  rw [hb] at h
  simp only [cond_false] at h ⊢
  simp only [Bool.or_eq_false_iff, Bool.not_eq_false', decide_eq_false_iff_not] at hb
  refine ⟨?_, by omega, by omega⟩
  unfold rdN
  rw [hb.1, h]
  refine Prod.ext rfl (Prod.ext rfl ?_)
  exact h.symm
theorem invF {l : List L8} {q : Bool} (h : (rdF l q).2.2 = false) : q = false ∧ l = zzH (rdF l q).1 :: (rdF l q).2.1 := by
 unfold rdF at h ⊢
 simp only [Bool.or_eq_false_iff] at h
 obtain ⟨h1, h2⟩ := invT h.1
 refine ⟨h1, ?_⟩
 have ht : (rdT l q).1 = [48] ∨ (rdT l q).1 = [49] := by
  have := h.2
  rw [Bool.and_eq_false_iff] at this
  rcases this with h | h
  ·exact .inl (by simpa using h)
  ·exact .inr (by simpa using h)
 rcases ht with ht | ht
 ·simp only [ht]
  rw [ht] at h2
  exact h2
 ·simp only [ht]
  rw [ht] at h2
  exact h2
theorem ytE {l : List L8} {q : Bool} (h : (rdF l q).2.2 = false) : rdG l q = rdF l q := by
 have hh := h
 unfold rdF at h ⊢
 simp only [Bool.or_eq_false_iff] at h
 have ht : (rdT l q).1 = [48] ∨ (rdT l q).1 = [49] := by
  have := h.2
  rw [Bool.and_eq_false_iff] at this
  rcases this with h | h
  ·exact .inl (by simpa using h)
  ·exact .inr (by simpa using h)
 unfold rdG rdM
 rcases ht with ht | ht
 ·rw [ht, show numR ([48] : L8) = (0, true) from by decide]
  refine Prod.ext rfl (Prod.ext rfl ?_)
  show (rdT l q).2.2 = ((rdT l q).2.2 || false)
  rw [Bool.or_false]
 ·rw [ht, show numR ([49] : L8) = (1, true) from by decide]
  refine Prod.ext rfl (Prod.ext rfl ?_)
  show (rdT l q).2.2 = ((rdT l q).2.2 || false)
  rw [Bool.or_false]
theorem ytD {l : List L8} {q : Bool} (h : (rdG l q).2.2 = false) : rdF l q = rdG l q := by
 have hm : (rdM 0 1 l q).2.2 = false := h
 obtain ⟨h1, h2, h3⟩ := ybL hm
 have hn := invN (l := l) (q := q) (by rw [h1]; exact hm)
 have ht := invT (l := l) (q := q) (by
  have : (rdN l q).2.2 = false := by rw [h1]; exact hm
  unfold rdN at this
  simp only [Bool.or_eq_false_iff] at this
  exact this.1)
 have e : (rdT l q).1 = decI (rdM 0 1 l q).1 := by
  have a := hn.2.1
  rw [ht.2] at a
  rw [← h1]
  injection a
 have hv : (rdM 0 1 l q).1 = 0 ∨ (rdM 0 1 l q).1 = 1 := by omega
 have hf : (rdF l q).2.2 = false := by
  unfold rdF
  have hq : (rdT l q).2.2 = false := by
   have : (rdN l q).2.2 = false := by rw [h1]; exact hm
   unfold rdN at this
   simp only [Bool.or_eq_false_iff] at this
   exact this.1
  rcases hv with hv | hv
  ·simp only [hq, e, hv, show decI 0 = [48] from by show Lib.decDigits 0 = _; rw [ziP]; rfl]; decide
  ·simp only [hq, e, hv, show decI 1 = [49] from by show Lib.decDigits 1 = _; rw [ziP]; rfl]; decide
 exact (ytE hf).symm
theorem invL {l : List L8} {q : Bool} (h : (rdL l q).2.2 = false) : q = false ∧ l = Lib.decDigits (rdL l q).1.length :: ((rdL l q).1 ++ (rdL l q).2.1) := by
 unfold rdL at h ⊢
 cases hb : (rdN l q).2.2 || decide ((rdN l q).1 > ((rdN l q).2.1.length : Int)) with
 | true => rw [hb] at h; cases h
 | false =>
  rw [Bool.or_eq_false_iff, decide_eq_false_iff_not] at hb
  obtain ⟨h1, h2, h3, h4⟩ := invN hb.1
  refine ⟨h1, ?_⟩
  simp only [cond_false]
  rw [List.take_append_drop, List.length_take, Nat.min_eq_left (by omega)]
  exact h2
theorem yyL {l : List L8} {q : Bool} (h : (rdL l q).2.2 = false) (hl : (rdL l q).1.length ≤ 100000) : rdK l q = rdL l q := by
 unfold rdL at h hl ⊢
 cases hb : (rdN l q).2.2 || decide ((rdN l q).1 > ((rdN l q).2.1.length : Int)) with
 | true => rw [hb] at h; cases h
 | false =>
  rw [hb] at hl
  rw [Bool.or_eq_false_iff, decide_eq_false_iff_not] at hb
  obtain ⟨h1, h2, h3, h4⟩ := invN hb.1
  simp only [cond_false] at hl ⊢
  rw [List.length_take, Nat.min_eq_left (by omega)] at hl
  have e : rdM 0 100000 l q = rdN l q := by
   have hq := hb.1
   unfold rdN at hq
   simp only [Bool.or_eq_false_iff, Bool.not_eq_false'] at hq
   have e1 : (rdN l q).1 = (numR (rdT l q).1).1 := rfl
   unfold rdM
   rw [hq.2, decide_eq_false (show ¬ (numR (rdT l q).1).1 < 0 by omega), decide_eq_false (show ¬ (numR (rdT l q).1).1 > 100000 by omega)]
   simp only [Bool.not_true, Bool.or_self, cond_false]
   unfold rdN
   refine Prod.ext rfl (Prod.ext rfl ?_)
   show (rdT l q).2.2 = ((rdT l q).2.2 || !(numR (rdT l q).1).2)
   rw [hq.2, Bool.not_true, Bool.or_false]
  unfold rdK
  rw [e, zaR hb.2]
theorem ywY {l : List L8} {q : Bool} (h : (rdK l q).2.2 = false) : rdL l q = rdK l q := by
 unfold rdK at h ⊢
 by_cases hl : (rdM 0 100000 l q).1 > ((rdM 0 100000 l q).2.1.length : Int)
 ·rw [zbC hl] at h; cases h
 ·rw [zaR hl] at h ⊢
  obtain ⟨h1, h2, h3⟩ := ybL h
  unfold rdL
  rw [h1, h, decide_eq_false hl]
  rfl
section
variable (l : List L8)
def a1 := rdN l false
def a2 := rdN (a1 l).2.1 (a1 l).2.2
def a3 := rdT (a2 l).2.1 (a2 l).2.2
def a4 := rdT (a3 l).2.1 (a3 l).2.2
def a5 := rdT (a4 l).2.1 (a4 l).2.2
def a6 := rdL (a5 l).2.1 (a5 l).2.2
def a7 := rdN (a6 l).2.1 (a6 l).2.2
def a8 := rdN (a7 l).2.1 (a7 l).2.2
def a9 := rdF (a8 l).2.1 (a8 l).2.2
def a10 := rdF (a9 l).2.1 (a9 l).2.2
def a11 := rdL (a10 l).2.1 (a10 l).2.2
def a12 := rdN (a11 l).2.1 (a11 l).2.2
def a13 := rdT (a12 l).2.1 (a12 l).2.2
def a14 := rdT (a13 l).2.1 (a13 l).2.2
def d1 := rdM 0 999999999999999 l false
def d2 := rdM 0 999999999999999 (d1 l).2.1 (d1 l).2.2
def d3 := rdT (d2 l).2.1 (d2 l).2.2
def d4 := rdT (d3 l).2.1 (d3 l).2.2
def d5 := rdT (d4 l).2.1 (d4 l).2.2
def d6 := rdK (d5 l).2.1 (d5 l).2.2
def d7 := rdM 0 999999999999999 (d6 l).2.1 (d6 l).2.2
def d8 := rdM 0 999999999999999 (d7 l).2.1 (d7 l).2.2
def d9 := rdG (d8 l).2.1 (d8 l).2.2
def d10 := rdG (d9 l).2.1 (d9 l).2.2
def d11 := rdK (d10 l).2.1 (d10 l).2.2
def d12 := rdM 0 999999999999999 (d11 l).2.1 (d11 l).2.2
def d13 := rdT (d12 l).2.1 (d12 l).2.2
def d14 := rdT (d13 l).2.1 (d13 l).2.2
end
def ndA (i : Int) (l : List L8) : Nd := (i, (a1 l).1, (a2 l).1, (a3 l).1, (a4 l).1, (a5 l).1, (a6 l).1, (a7 l).1, (a8 l).1, (a9 l).1, (a10 l).1, (a11 l).1, (a12 l).1, (a13 l).1, (a14 l).1)
def ndD (i : Int) (l : List L8) : Nd := (i, (d1 l).1, (d2 l).1, (d3 l).1, (d4 l).1, (d5 l).1, (d6 l).1, (d7 l).1, (d8 l).1, (d9 l).1, (d10 l).1, (d11 l).1, (d12 l).1, (d13 l).1, (d14 l).1)
def zwV (l : List L8) : Bool := !(a14 l).2.2 && ((a14 l).2.1.length : Int) == 0
def zzY (l : List L8) : Bool := !(d14 l).2.2 && ((d14 l).2.1.length : Int) == 0
theorem ycU {l : List L8} (i : Int) (h : zwV l = true) : l = zlV (ndA i l) ∧ 0 ≤ (a2 l).1 := by
 unfold zwV at h
 rw [Bool.and_eq_true, Bool.not_eq_true'] at h
 have h15 : (a14 l).2.1 = [] := List.eq_nil_of_length_eq_zero (by have := beq_iff_eq.1 h.2; omega)
 obtain ⟨q14, e14⟩ := invT (l := (a13 l).2.1) (q := (a13 l).2.2) h.1
 obtain ⟨q13, e13⟩ := invT (l := (a12 l).2.1) (q := (a12 l).2.2) q14
 obtain ⟨q12, e12, _⟩ := invN (l := (a11 l).2.1) (q := (a11 l).2.2) q13
 obtain ⟨q11, e11⟩ := invL (l := (a10 l).2.1) (q := (a10 l).2.2) q12
 obtain ⟨q10, e10⟩ := invF (l := (a9 l).2.1) (q := (a9 l).2.2) q11
 obtain ⟨q9, e9⟩ := invF (l := (a8 l).2.1) (q := (a8 l).2.2) q10
 obtain ⟨q8, e8, _⟩ := invN (l := (a7 l).2.1) (q := (a7 l).2.2) q9
 obtain ⟨q7, e7, _⟩ := invN (l := (a6 l).2.1) (q := (a6 l).2.2) q8
 obtain ⟨q6, e6⟩ := invL (l := (a5 l).2.1) (q := (a5 l).2.2) q7
 obtain ⟨q5, e5⟩ := invT (l := (a4 l).2.1) (q := (a4 l).2.2) q6
 obtain ⟨q4, e4⟩ := invT (l := (a3 l).2.1) (q := (a3 l).2.2) q5
 obtain ⟨q3, e3⟩ := invT (l := (a2 l).2.1) (q := (a2 l).2.2) q4
 obtain ⟨q2, e2, p2, _⟩ := invN (l := (a1 l).2.1) (q := (a1 l).2.2) q3
 obtain ⟨_, e1, _⟩ := invN (l := l) (q := false) q2
 refine ⟨?_, p2⟩
 rw [yoX]
 have f14 : (a13 l).2.1 = [(a14 l).1] := by
  have e : (a13 l).2.1 = (a14 l).1 :: (a14 l).2.1 := e14
  rw [e, h15]
 have f13 : (a12 l).2.1 = (a13 l).1 :: (a13 l).2.1 := e13
 have f12 : (a11 l).2.1 = decI (a12 l).1 :: (a12 l).2.1 := e12
 have f11 : (a10 l).2.1 = Lib.decDigits (a11 l).1.length :: ((a11 l).1 ++ (a11 l).2.1) := e11
 have f10 : (a9 l).2.1 = zzH (a10 l).1 :: (a10 l).2.1 := e10
 have f9 : (a8 l).2.1 = zzH (a9 l).1 :: (a9 l).2.1 := e9
 have f8 : (a7 l).2.1 = decI (a8 l).1 :: (a8 l).2.1 := e8
 have f7 : (a6 l).2.1 = decI (a7 l).1 :: (a7 l).2.1 := e7
 have f6 : (a5 l).2.1 = Lib.decDigits (a6 l).1.length :: ((a6 l).1 ++ (a6 l).2.1) := e6
 have f5 : (a4 l).2.1 = (a5 l).1 :: (a5 l).2.1 := e5
 have f4 : (a3 l).2.1 = (a4 l).1 :: (a4 l).2.1 := e4
 have f3 : (a2 l).2.1 = (a3 l).1 :: (a3 l).2.1 := e3
 have f2 : (a1 l).2.1 = decI (a2 l).1 :: (a2 l).2.1 := e2
 have f1 : l = decI (a1 l).1 :: (a1 l).2.1 := e1
 refine f1.trans ?_
 rw [f2, f3, f4, f5, f6, f7, f8, f9, f10, f11, f12, f13, f14]
 rfl
theorem ycO {l : List L8} (i : Int) (h : zwV l = true) (h6 : (a6 l).1.length ≤ 100000) (h11 : (a11 l).1.length ≤ 100000) : zzY l = true ∧ ndD i l = ndA i l := by
 have hh := h
 unfold zwV at h
 rw [Bool.and_eq_true, Bool.not_eq_true'] at h
 have q14 : (a13 l).2.2 = false := (invT (l := (a13 l).2.1) (q := (a13 l).2.2) h.1).1
 have q13 : (a12 l).2.2 = false := (invT (l := (a12 l).2.1) (q := (a12 l).2.2) q14).1
 have q12 : (a11 l).2.2 = false := (invN (l := (a11 l).2.1) (q := (a11 l).2.2) q13).1
 have q11 : (a10 l).2.2 = false := (invL (l := (a10 l).2.1) (q := (a10 l).2.2) q12).1
 have q10 : (a9 l).2.2 = false := (invF (l := (a9 l).2.1) (q := (a9 l).2.2) q11).1
 have q9 : (a8 l).2.2 = false := (invF (l := (a8 l).2.1) (q := (a8 l).2.2) q10).1
 have q8 : (a7 l).2.2 = false := (invN (l := (a7 l).2.1) (q := (a7 l).2.2) q9).1
 have q7 : (a6 l).2.2 = false := (invN (l := (a6 l).2.1) (q := (a6 l).2.2) q8).1
 have q6 : (a5 l).2.2 = false := (invL (l := (a5 l).2.1) (q := (a5 l).2.2) q7).1
 have q5 : (a4 l).2.2 = false := (invT (l := (a4 l).2.1) (q := (a4 l).2.2) q6).1
 have q4 : (a3 l).2.2 = false := (invT (l := (a3 l).2.1) (q := (a3 l).2.2) q5).1
 have q3 : (a2 l).2.2 = false := (invT (l := (a2 l).2.1) (q := (a2 l).2.2) q4).1
 have q2 : (a1 l).2.2 = false := (invN (l := (a1 l).2.1) (q := (a1 l).2.2) q3).1
 have e1 : d1 l = a1 l := ynZ q2
 have e2 : d2 l = a2 l := by unfold d2; rw [e1]; exact ynZ q3
 have e3 : d3 l = a3 l := by unfold d3; rw [e2]; rfl
 have e4 : d4 l = a4 l := by unfold d4; rw [e3]; rfl
 have e5 : d5 l = a5 l := by unfold d5; rw [e4]; rfl
 have e6 : d6 l = a6 l := by unfold d6; rw [e5]; exact yyL q7 h6
 have e7 : d7 l = a7 l := by unfold d7; rw [e6]; exact ynZ q8
 have e8 : d8 l = a8 l := by unfold d8; rw [e7]; exact ynZ q9
 have e9 : d9 l = a9 l := by unfold d9; rw [e8]; exact ytE q10
 have e10 : d10 l = a10 l := by unfold d10; rw [e9]; exact ytE q11
 have e11 : d11 l = a11 l := by unfold d11; rw [e10]; exact yyL q12 h11
 have e12 : d12 l = a12 l := by unfold d12; rw [e11]; exact ynZ q13
 have e13 : d13 l = a13 l := by unfold d13; rw [e12]; rfl
 have e14 : d14 l = a14 l := by unfold d14; rw [e13]; rfl
 refine ⟨?_, ?_⟩
 ·unfold zzY
  rw [e14]
  exact hh
 ·unfold ndD ndA
  rw [e1, e2, e3, e4, e5, e6, e7, e8, e9, e10, e11, e12, e13, e14]
theorem iM {b : Int} {l : List L8} {q : Bool} (h : (rdM 0 b l q).2.2 = false) : q = false := (invN (l := l) (q := q) (by rw [(ybL h).1]; exact h)).1
theorem iG {l : List L8} {q : Bool} (h : (rdG l q).2.2 = false) : q = false := (invF (l := l) (q := q) (by rw [ytD h]; exact h)).1
theorem iK {l : List L8} {q : Bool} (h : (rdK l q).2.2 = false) : q = false := (invL (l := l) (q := q) (by rw [ywY h]; exact h)).1
theorem ygR {l : List L8} (h : zzY l = true) : (a1 l = d1 l ∧ a2 l = d2 l ∧ a3 l = d3 l ∧ a4 l = d4 l ∧ a5 l = d5 l ∧ a6 l = d6 l ∧ a7 l = d7 l) ∧ a8 l = d8 l ∧ a9 l = d9 l ∧ a10 l = d10 l ∧ a11 l = d11 l ∧ a12 l = d12 l ∧ a13 l = d13 l ∧ a14 l = d14 l := by
 unfold zzY at h
 rw [Bool.and_eq_true, Bool.not_eq_true'] at h
 have h14 : (d14 l).2.2 = false := h.1
 unfold d14 at h14
 have q14 : (d13 l).2.2 = false := (invT h14).1
 have h13 := q14
 unfold d13 at h13
 have q13 : (d12 l).2.2 = false := (invT h13).1
 have h12 := q13
 unfold d12 at h12
 have q12 : (d11 l).2.2 = false := iM h12
 have h11 := q12
 unfold d11 at h11
 have q11 : (d10 l).2.2 = false := iK h11
 have h10 := q11
 unfold d10 at h10
 have q10 : (d9 l).2.2 = false := iG h10
 have h9 := q10
 unfold d9 at h9
 have q9 : (d8 l).2.2 = false := iG h9
 have h8 := q9
 unfold d8 at h8
 have q8 : (d7 l).2.2 = false := iM h8
 have h7 := q8
 unfold d7 at h7
 have q7 : (d6 l).2.2 = false := iM h7
 have h6 := q7
 unfold d6 at h6
 have q6 : (d5 l).2.2 = false := iK h6
 have h5 := q6
 unfold d5 at h5
 have q5 : (d4 l).2.2 = false := (invT h5).1
 have h4 := q5
 unfold d4 at h4
 have q4 : (d3 l).2.2 = false := (invT h4).1
 have h3 := q4
 unfold d3 at h3
 have q3 : (d2 l).2.2 = false := (invT h3).1
 have h2 := q3
 unfold d2 at h2
 have q2 : (d1 l).2.2 = false := iM h2
 have e1 : a1 l = d1 l := by have h1 := q2; unfold d1 at h1; unfold a1 d1; exact (ybL h1).1
 have e2 : a2 l = d2 l := by unfold a2 d2; rw [e1]; exact (ybL h2).1
 have e3 : a3 l = d3 l := by unfold a3; rw [e2]; rfl
 have e4 : a4 l = d4 l := by unfold a4; rw [e3]; rfl
 have e5 : a5 l = d5 l := by unfold a5; rw [e4]; rfl
 have e6 : a6 l = d6 l := by unfold a6 d6; rw [e5]; exact ywY h6
 have e7 : a7 l = d7 l := by unfold a7 d7; rw [e6]; exact (ybL h7).1
 have e8 : a8 l = d8 l := by unfold a8 d8; rw [e7]; exact (ybL h8).1
 have e9 : a9 l = d9 l := by unfold a9 d9; rw [e8]; exact ytD h9
 have e10 : a10 l = d10 l := by unfold a10 d10; rw [e9]; exact ytD h10
 have e11 : a11 l = d11 l := by unfold a11 d11; rw [e10]; exact ywY h11
 have e12 : a12 l = d12 l := by unfold a12 d12; rw [e11]; exact (ybL h12).1
 have e13 : a13 l = d13 l := by unfold a13; rw [e12]; rfl
 have e14 : a14 l = d14 l := by unfold a14; rw [e13]; rfl
 exact ⟨⟨e1, e2, e3, e4, e5, e6, e7⟩, e8, e9, e10, e11, e12, e13, e14⟩
theorem ycS {l : List L8} (i : Int) (h : zzY l = true) : zwV l = true ∧ ndA i l = ndD i l := by
 obtain ⟨⟨e1, e2, e3, e4, e5, e6, e7⟩, e8, e9, e10, e11, e12, e13, e14⟩ := ygR h
 refine ⟨?_, ?_⟩
 ·unfold zwV
  rw [e14]
  exact h
 ·unfold ndD ndA
  rw [e1, e2, e3, e4, e5, e6, e7, e8, e9, e10, e11, e12, e13, e14]
abbrev ztG : L8 := [110, 111, 100, 101, 47]
theorem cutg (s : L8) : zdN zaB s ztG = some (bif s.take 5 == ztG then (s.drop 5, true) else (s, false)) := by
 unfold zdN zcD zcE
 simp only [List.length_cons, List.length_nil]
 by_cases h : (s.length : Int) ≥ 5
 ·rw [zbC (by exact h), show subH s (((0 + 1 + 1 + 1 + 1 + 1 : Nat)) : Int) = some (s.take 5) from znZ (n := 5) (by omega), zaA, zaA]
  cases s.take 5 == ztG with
  | false => rfl
  | true =>
   simp only [Bool.not_true, cond_false, cond_true]
   rw [show subL s (((0 + 1 + 1 + 1 + 1 + 1 : Nat)) : Int) = some (s.drop 5) from znK (n := 5) (by omega)]
   rfl
 ·rw [zaR (by exact h), zaA]
  have e : (s.take 5 == ztG) = false := by
   cases hb : s.take 5 == ztG with
   | false => rfl
   | true =>
    have := congrArg List.length (beq_iff_eq.1 hb)
    simp at this
    omega
  rw [e]
  rfl
theorem yaG : ∀ (l : L8) (acc : Nat), (∀ b ∈ l, 48 ≤ b.toNat ∧ b.toNat ≤ 57) → (acc + 1) * 10 ^ l.length ≤ 10000000000000000 → Lib.parseUint10 acc l = .ok (l.foldl (fun a b => 10 * a + (b.toNat - 48)) acc)
 | [], acc, _, _ => rfl
 | b :: l, acc, h, hb => by
  have h1 := h b List.mem_cons_self
  have h3 : 1 ≤ 10 ^ l.length := by
   have := Nat.pow_le_pow_right (show 0 < 10 by decide) (Nat.zero_le l.length)
   simpa using this
  have e : (acc + 1) * 10 ^ (b :: l).length = (10 * acc + 10) * 10 ^ l.length := by
   rw [List.length_cons, Nat.pow_succ, Nat.mul_comm (10 ^ l.length) 10, ← Nat.mul_assoc]
   congr 1
   omega
  rw [e] at hb
  have h4 : (10 * acc + 10) * 1 ≤ (10 * acc + 10) * 10 ^ l.length := Nat.mul_le_mul_left _ h3
  simp only [Lib.parseUint10]
  rw [if_pos h1, if_neg (by omega), if_neg (by omega)]
  rw [show acc * 10 + (b.toNat - 48) = 10 * acc + (b.toNat - 48) by omega]
  exact yaG l (10 * acc + (b.toNat - 48)) (fun x hx => h x (List.mem_cons_of_mem _ hx)) (Nat.le_trans (Nat.mul_le_mul_right _ (by omega)) hb)
theorem yoU {s : L8} (h : s.all digB = true) (hl : s.length = 8) : zaB.atoi s = some ((valF s : Int), false) := by
 have hd := zyM h
 have hp : Lib.parseUint10 0 s = .ok (valF s) := yaG s 0 hd (by rw [hl]; decide)
 have hv := yjD hd (by omega)
 show ybC s = _
 unfold ybC
 rw [decide_eq_true (show s.length ≤ 9223372036854775806 by omega)]
 have ha : Lib.atoiAll s = .ok (valF s : Int) := by
  cases hc : s with
  | nil => rw [hc] at hl; cases hl
  | cons c r =>
   have hcd := hd c (by rw [hc]; exact List.mem_cons_self)
   rw [hc] at hp hv
   unfold Lib.atoiAll
   simp only
   rw [if_neg (by omega)]
   unfold Lib.parseMag
   rw [if_neg (by simp), hp]
   simp only
   rw [if_neg (by omega), if_neg (by omega), if_neg (by omega)]
 rw [ha]
 rfl
theorem xbB (k : Nat) (l : L8) : Lib.repeatL [48] (k + 1) ++ l = 48 :: (Lib.repeatL [48] k ++ l) := rfl
theorem ynE : ∀ (l : L8), l ≠ [] → (∀ b ∈ l, 48 ≤ b.toNat ∧ b.toNat ≤ 57) → Lib.repeatL [48] (l.length - (Lib.decDigits (valF l)).length) ++ Lib.decDigits (valF l) = l ∧ (Lib.decDigits (valF l)).length ≤ l.length
 | [], h, _ => absurd rfl h
 | c :: m, _, h => by
  by_cases hc : c = 48
  ·subst hc
   cases m with
   | nil =>
    have e : Lib.decDigits (valF [48]) = [48] := by
     show Lib.decDigits 0 = _
     rw [ziP]
     rfl
    rw [e]
    exact ⟨rfl, Nat.le_refl _⟩
   | cons d m =>
    obtain ⟨h1, h2⟩ := ynE (d :: m) (by simp) fun b hb => h b (List.mem_cons_of_mem _ hb)
    have e : valF (48 :: d :: m) = valF (d :: m) := rfl
    rw [e]
    refine ⟨?_, by simp only [List.length_cons] at h2 ⊢; omega⟩
    rw [show (48 :: d :: m : L8).length - (Lib.decDigits (valF (d :: m))).length = ((d :: m).length - (Lib.decDigits (valF (d :: m))).length) + 1 by simp only [List.length_cons] at h2 ⊢; omega, xbB, h1]
  ·have h1 := (ydO m.length (c :: m) rfl (.inl (by simpa using hc)) h).1
   rw [h1, Nat.sub_self]
   exact ⟨rfl, Nat.le_refl _⟩
theorem yxB {s : L8} (h : s.all digB = true) (hl : s.length = 8) : padE (valF s : Int) = s ∧ valF s < 100000000 := by
 have hd := zyM h
 refine ⟨?_, ?_⟩
 ·have h1 := (ynE s (fun e => by rw [e] at hl; cases hl) hd).1
  unfold padE decI
  rw [Int.toNat_natCast, ← hl]
  exact h1
 ·have := ycY s 0 fun b hb => (hd b hb).2
  rw [hl] at this
  exact this
theorem xbE {s : L8} (h : s.length ≤ 15) : zdD zaB s = some (bif s.all digB then ((valF s : Int), (s.length : Int) == 8) else (0, false)) := by
 unfold zdD
 rw [ysD (bad := ((0 : Int), false)) h (fun n k hk hn => ?_) (fun n => ?_), zaA]
 ·cases s.all digB <;> rfl
 ·unfold zeX ziC
  simp only []
  rw [zbC (show (k : Int) < (s.length : Int) by omega), zdW rfl hk, zaA, zaA, dg_j]
  cases hd : digB s[k] with
  | false => rfl
  | true =>
   have h1 := ztV.1 hd
   simp only [cond_true, zaA]
   rw [yrK h1, ycM (show s[k].toNat - 48 ≤ 9223372036854775807 by omega), show (10 : Int) * (n : Int) = ((10 * n : Nat) : Int) by omega, ycM (show 10 * n ≤ 9223372036854775807 by omega), show ((10 * n : Nat) : Int) + ((s[k].toNat - 48 : Nat) : Int) = ((10 * n + (s[k].toNat - 48) : Nat) : Int) by omega, ycM (show 10 * n + (s[k].toNat - 48) ≤ 9223372036854775807 by omega), zjF (by omega)]
 ·unfold zeX
  simp only []
  rw [zaR (by omega)]
def keyB (k : L8) : Bool := decide (k.length = 13) && (k.take 5 == ztG) && (k.drop 5).all digB
theorem zzT {s : L8} (h : s.length ≤ 1048576) : Sml (txtP s).1 := by
 unfold txtP
 cases ht : txtF s.length s with
 | none => exact Sml.nil
 | some l =>
  have h1 := yuZ ht
  exact ⟨Nat.le_trans h1.1 h, fun t hm => Nat.le_trans (h1.2 t hm) h⟩
theorem yoR (x : L8 × L8) (h1 : x.1.length ≤ 1048576) (h2 : x.2.length ≤ 1048576) : zfE zaB x = some (bif keyB x.1 && (txtP x.2).2 then (ndA (valF (x.1.drop 5) : Int) (txtP x.2).1, zwV (txtP x.2).1 && mayB (ndA (valF (x.1.drop 5) : Int) (txtP x.2).1)) else (zN, false)) := by
 have hs := zzT h2
 unfold zfE
 rw [show zdN zaB x.1 ([110, 111, 100, 101, 47] : L8) = _ from cutg x.1, zaA, yaM h2, zaA]
 have hj : zmN zaB (bif x.1.take 5 == ztG then (x.1.drop 5, true) else (x.1, false)) (txtP x.2) = some (bif keyB x.1 && (txtP x.2).2 then .inr ((0 : Int), (0 : Int), (0 : Int), ([] : L8), ([] : L8), ([] : L8), (0 : Int), (0 : Int), false, false, (0 : Int), ([] : L8), ([] : L8)) else .inl (false, (0 : Int), (0 : Int), (0 : Int), ([] : L8), ([] : L8), ([] : L8), (0 : Int), (0 : Int), false, false, (0 : Int), ([] : L8), ([] : L8))) := by
  unfold zmN keyB
  cases ht : x.1.take 5 == ztG with
  | false => rw [Bool.and_false]; rfl
  | true =>
   have hl5 : 5 ≤ x.1.length := by
    have := congrArg List.length (beq_iff_eq.1 ht)
    simp at this
    omega
   simp only [cond_true, Bool.not_true, cond_false, Bool.and_true]
   cases (txtP x.2).2 with
   | false => rw [Bool.and_false]; rfl
   | true =>
    simp only [Bool.not_true, cond_false, Bool.and_true]
    have hlen : (x.1.drop 5).length = x.1.length - 5 := List.length_drop ..
    by_cases h13 : x.1.length = 13
    ·rw [decide_eq_true h13, show (((x.1.drop 5).length : Int) != 8) = false from by rw [bne_eq_false_iff_eq]; omega]
     simp only [cond_false, Bool.true_and]
     rw [show zaB.trim (x.1.drop 5) ([48, 49, 50, 51, 52, 53, 54, 55, 56, 57] : L8) = _ from ysV (by omega), zaA, ygE]
     cases (x.1.drop 5).all digB <;> rfl
    ·rw [decide_eq_false h13, show (((x.1.drop 5).length : Int) != 8) = true from by rw [bne_iff_ne]; omega]
     rfl
 rw [hj, zaA]
 cases hb : keyB x.1 && (txtP x.2).2 with
 | false => rfl
 | true =>
  rw [Bool.and_eq_true] at hb
  have hk := hb.1
  unfold keyB at hk
  simp only [Bool.and_eq_true, decide_eq_true_eq] at hk
  obtain ⟨⟨k1, k2⟩, k3⟩ := hk
  rw [k2]
  generalize hl : (txtP x.2).1 = l at hs ⊢
  have s1 : Sml (a1 l).2.1 := hs.num _
  have s2 : Sml (a2 l).2.1 := s1.num _
  have s3 : Sml (a3 l).2.1 := (s2.text _).2
  have s4 : Sml (a4 l).2.1 := (s3.text _).2
  have s5 : Sml (a5 l).2.1 := (s4.text _).2
  have s6 : Sml (a6 l).1 ∧ Sml (a6 l).2.1 := s5.list _
  have s7 : Sml (a7 l).2.1 := s6.2.num _
  have s8 : Sml (a8 l).2.1 := s7.num _
  have s9 : Sml (a9 l).2.1 := s8.flag _
  have s10 : Sml (a10 l).2.1 := s9.flag _
  have s11 : Sml (a11 l).1 ∧ Sml (a11 l).2.1 := s10.list _
  have r1 : zaE zaB l false = some (a1 l) := zqB hs _
  have r2 : zaE zaB (a1 l).2.1 (a1 l).2.2 = some (a2 l) := zqB s1 _
  have r3 : zaG zaB (a2 l).2.1 (a2 l).2.2 = some (a3 l) := ztC _ _
  have r4 : zaG zaB (a3 l).2.1 (a3 l).2.2 = some (a4 l) := ztC _ _
  have r5 : zaG zaB (a4 l).2.1 (a4 l).2.2 = some (a5 l) := ztC _ _
  have r6 : zbG zaB (a5 l).2.1 (a5 l).2.2 = some (a6 l) := ysO s5 _
  have r7 : zaE zaB (a6 l).2.1 (a6 l).2.2 = some (a7 l) := zqB s6.2 _
  have r8 : zaE zaB (a7 l).2.1 (a7 l).2.2 = some (a8 l) := zqB s7 _
  have r9 : zbH zaB (a8 l).2.1 (a8 l).2.2 = some (a9 l) := yrT _ _
  have r10 : zbH zaB (a9 l).2.1 (a9 l).2.2 = some (a10 l) := yrT _ _
  have r11 : zbG zaB (a10 l).2.1 (a10 l).2.2 = some (a11 l) := ysO s10 _
  have r12 : zaE zaB (a11 l).2.1 (a11 l).2.2 = some (a12 l) := zqB s11.2 _
  have r13 : zaG zaB (a12 l).2.1 (a12 l).2.2 = some (a13 l) := ztC _ _
  have r14 : zaG zaB (a13 l).2.1 (a13 l).2.2 = some (a14 l) := ztC _ _
  simp only [cond_true]
  rw [r1, zaA, r2, zaA, r3, zaA, r4, zaA, r5, zaA, r6, zaA, r7, zaA, r8, zaA, r9, zaA, r10, zaA, r11, zaA, r12, zaA, r13, zaA, r14, zaA, yoU k3 (by rw [List.length_drop]; omega), zaA]
  have hL : Lst (ndA (valF (x.1.drop 5) : Int) l) := ⟨s6.1.1, s11.1.1⟩
  refine (bind_ok (a := ndA (valF (x.1.drop 5) : Int) l) (own_ok hL)).trans ?_
  unfold zwV
  cases (a14 l).2.2 with
  | true => rfl
  | false =>
   simp only [Bool.not_false, cond_true, Bool.true_and]
   cases ((a14 l).2.1.length : Int) == 0 with
   | false => rfl
   | true =>
    simp only [cond_true, Bool.true_and]
    exact bind_ok (a := mayB (ndA (valF (x.1.drop 5) : Int) l)) (ysQ (ndA (valF (x.1.drop 5) : Int) l) hL.1)
theorem yqQ (x : L8 × L8) (h2 : x.2.length ≤ 1048576) : zcQ zaB x = some (bif keyB x.1 && (txtP x.2).2 then (ndD (valF (x.1.drop 5) : Int) (txtP x.2).1, zzY (txtP x.2).1 && mayB (ndD (valF (x.1.drop 5) : Int) (txtP x.2).1)) else (zN, false)) := by
 have hs := zzT h2
 unfold zcQ
 have hj : zfZ zaB x = some (bif decide (x.1.length = 13) && (x.1.take 5 == ztG) then .inr (x.1, x.2, (0 : Int), (0 : Int), (0 : Int), ([] : L8), ([] : L8), ([] : L8), (0 : Int), (0 : Int), false, false, (0 : Int), ([] : L8), ([] : L8)) else .inl (false, (0 : Int), (0 : Int), (0 : Int), ([] : L8), ([] : L8), ([] : L8), (0 : Int), (0 : Int), false, false, (0 : Int), ([] : L8), ([] : L8))) := by
  unfold zfZ
  by_cases h13 : x.1.length = 13
  ·rw [decide_eq_true h13, show ((x.1.length : Int) != 13) = false from by rw [bne_eq_false_iff_eq]; omega]
   simp only [cond_false, Bool.true_and]
   rw [show subH x.1 5 = some (x.1.take 5) from znZ (n := 5) (by omega), zaA]
   unfold bne
   cases x.1.take 5 == ztG <;> rfl
  ·rw [decide_eq_false h13, show ((x.1.length : Int) != 13) = true from by rw [bne_iff_ne]; omega]
   rfl
 rw [hj, zaA]
 unfold keyB
 cases hb : decide (x.1.length = 13) && (x.1.take 5 == ztG) with
 | false => rfl
 | true =>
  rw [Bool.and_eq_true, decide_eq_true_eq] at hb
  have hl8 : (x.1.drop 5).length = 8 := by rw [List.length_drop]; omega
  simp only [cond_true, Bool.true_and]
  rw [show subL x.1 5 = some (x.1.drop 5) from znK (n := 5) (by omega), zaA, xbE (by omega), zaA, ycA h2, zaA]
  have hj1 : ∀ z, zdV zaB (x.1, x.2, (0 : Int), (0 : Int), (0 : Int), ([] : L8), ([] : L8), ([] : L8), (0 : Int), (0 : Int), false, false, (0 : Int), ([] : L8), ([] : L8)) (bif (x.1.drop 5).all digB then ((valF (x.1.drop 5) : Int), ((x.1.drop 5).length : Int) == 8) else (0, false)) (z, (txtP x.2).2) = some (bif (x.1.drop 5).all digB && (txtP x.2).2 then .inr ((0 : Int), (0 : Int), (0 : Int), ([] : L8), ([] : L8), ([] : L8), (0 : Int), (0 : Int), false, false, (0 : Int), ([] : L8), ([] : L8)) else .inl (false, (0 : Int), (0 : Int), (0 : Int), ([] : L8), ([] : L8), ([] : L8), (0 : Int), (0 : Int), false, false, (0 : Int), ([] : L8), ([] : L8))) := fun z => by
   unfold zdV
   rw [hl8]
   cases (x.1.drop 5).all digB <;> cases (txtP x.2).2 <;> rfl
  rw [show zdV zaB _ _ (txtP x.2) = _ from hj1 (txtP x.2).1, zaA]
  cases hb2 : (x.1.drop 5).all digB && (txtP x.2).2 with
  | false => rfl
  | true =>
   rw [Bool.and_eq_true] at hb2
   simp only [cond_true, hb2.1]
   generalize hl : (txtP x.2).1 = l at hs ⊢
   have s1 : Sml (d1 l).2.1 := hs.dnum _ _ _
   have s2 : Sml (d2 l).2.1 := s1.dnum _ _ _
   have s3 : (d3 l).1.length ≤ 1048576 ∧ Sml (d3 l).2.1 := s2.text _
   have s4 : (d4 l).1.length ≤ 1048576 ∧ Sml (d4 l).2.1 := s3.2.text _
   have s5 : (d5 l).1.length ≤ 1048576 ∧ Sml (d5 l).2.1 := s4.2.text _
   have s6 : Sml (d6 l).1 ∧ Sml (d6 l).2.1 := s5.2.dlist _
   have s7 : Sml (d7 l).2.1 := s6.2.dnum _ _ _
   have s8 : Sml (d8 l).2.1 := s7.dnum _ _ _
   have s9 : Sml (d9 l).2.1 := s8.dflag _
   have s10 : Sml (d10 l).2.1 := s9.dflag _
   have s11 : Sml (d11 l).1 ∧ Sml (d11 l).2.1 := s10.dlist _
   have r1 : zaC zaB 0 999999999999999 l false = some (d1 l) := ztD _ _ _ _
   have r2 : zaC zaB 0 999999999999999 (d1 l).2.1 (d1 l).2.2 = some (d2 l) := ztD _ _ _ _
   have r3 : zaD zaB (d2 l).2.1 (d2 l).2.2 = some (d3 l) := zsM _ _
   have r4 : zaD zaB (d3 l).2.1 (d3 l).2.2 = some (d4 l) := zsM _ _
   have r5 : zaD zaB (d4 l).2.1 (d4 l).2.2 = some (d5 l) := zsM _ _
   have r6 : zaJ zaB (d5 l).2.1 (d5 l).2.2 = some (d6 l) := yiT s5.2 _
   have r7 : zaC zaB 0 999999999999999 (d6 l).2.1 (d6 l).2.2 = some (d7 l) := ztD _ _ _ _
   have r8 : zaC zaB 0 999999999999999 (d7 l).2.1 (d7 l).2.2 = some (d8 l) := ztD _ _ _ _
   have r9 : zaK zaB (d8 l).2.1 (d8 l).2.2 = some (d9 l) := ylX _ _
   have r10 : zaK zaB (d9 l).2.1 (d9 l).2.2 = some (d10 l) := ylX _ _
   have r11 : zaJ zaB (d10 l).2.1 (d10 l).2.2 = some (d11 l) := yiT s10 _
   have r12 : zaC zaB 0 999999999999999 (d11 l).2.1 (d11 l).2.2 = some (d12 l) := ztD _ _ _ _
   have r13 : zaD zaB (d12 l).2.1 (d12 l).2.2 = some (d13 l) := zsM _ _
   have r14 : zaD zaB (d13 l).2.1 (d13 l).2.2 = some (d14 l) := zsM _ _
   rw [r1, zaA, r2, zaA, r3, zaA, r4, zaA, r5, zaA, r6, zaA, r7, zaA, r8, zaA, r9, zaA, r10, zaA, r11, zaA, r12, zaA, r13, zaA, r14, zaA]
   have hN : NdOk (ndD (valF (x.1.drop 5) : Int) l) := by
    unfold NdOk ndD
    simp only []
    exact ⟨s3.1, s4.1, s5.1, s6.1.1, s6.1.2, s11.1.1, s11.1.2⟩
   unfold zzY
   cases (d14 l).2.2 with
   | true => rfl
   | false =>
    simp only [Bool.not_false, cond_true, Bool.true_and]
    cases ((d14 l).2.1.length : Int) == 0 with
    | false => rfl
    | true =>
     simp only [cond_true, Bool.true_and]
     exact bind_ok (a := mayB (ndD (valF (x.1.drop 5) : Int) l)) (yuJ hN)
theorem yqI (x : L8 × L8) (h1 : x.1.length ≤ 1048576) (h2 : x.2.length ≤ 1048576) : ∃ (n n' : Nd) (b : Bool), zfE zaB x = some (n, b) ∧ zcQ zaB x = some (n', b) ∧ (b = true → n' = n ∧ mayB n = true ∧ x = rowE (n.1, n) ∧ 0 ≤ n.1 ∧ n.1 < 100000000) := by
 rw [yoR x h1 h2, yqQ x h2]
 cases hb : keyB x.1 && (txtP x.2).2 with
 | false => exact ⟨_, _, false, rfl, rfl, fun h => by cases h⟩
 | true =>
  rw [Bool.and_eq_true] at hb
  have hk := hb.1
  unfold keyB at hk
  simp only [Bool.and_eq_true, decide_eq_true_eq] at hk
  obtain ⟨⟨k1, k2⟩, k3⟩ := hk
  have hl8 : (x.1.drop 5).length = 8 := by rw [List.length_drop]; omega
  obtain ⟨p1, p2⟩ := yxB k3 hl8
  have hx2 : zfW (txtP x.2).1 = x.2 := by
   have := hb.2
   unfold txtP at this ⊢
   cases ht : txtF x.2.length x.2 with
   | none => rw [ht] at this; cases this
   | some l => exact zuA ht
  simp only [cond_true]
  have key : (zwV (txtP x.2).1 && mayB (ndA (valF (x.1.drop 5) : Int) (txtP x.2).1)) = true → zzY (txtP x.2).1 = true ∧ ndD (valF (x.1.drop 5) : Int) (txtP x.2).1 = ndA (valF (x.1.drop 5) : Int) (txtP x.2).1 := fun h => by
   rw [Bool.and_eq_true] at h
   have hl := zpP h.2
   have e6 : (a6 (txtP x.2).1).1.length ≤ 16 := hl.1
   have e11 : (a11 (txtP x.2).1).1.length ≤ 4 := hl.2.1
   exact ycO _ h.1 (by omega) (by omega)
  cases hA : zwV (txtP x.2).1 && mayB (ndA (valF (x.1.drop 5) : Int) (txtP x.2).1) with
  | true =>
   obtain ⟨q1, q2⟩ := key hA
   rw [Bool.and_eq_true] at hA
   refine ⟨_, _, true, rfl, by rw [q1, q2, hA.2]; rfl, fun _ => ⟨q2, hA.2, ?_, Int.natCast_nonneg _, by show ((valF (x.1.drop 5) : Nat) : Int) < _; omega⟩⟩
   have ht := (ycU (valF (x.1.drop 5) : Int) hA.1).1
   refine Prod.ext ?_ ?_
   ·show x.1 = ztG ++ padE (valF (x.1.drop 5) : Int)
    rw [p1, ← beq_iff_eq.1 k2, List.take_append_drop]
   ·show x.2 = zfW (zlV (ndA (valF (x.1.drop 5) : Int) (txtP x.2).1))
    rw [← ht, hx2]
  | false =>
   cases hD : zzY (txtP x.2).1 && mayB (ndD (valF (x.1.drop 5) : Int) (txtP x.2).1) with
   | false => exact ⟨_, _, false, rfl, rfl, fun h => by cases h⟩
   | true =>
    rw [Bool.and_eq_true] at hD
    obtain ⟨q1, q2⟩ := ycS (valF (x.1.drop 5) : Int) hD.1
    rw [q1, q2, hD.2] at hA
    cases hA
theorem zsJ (l : List (L8 × L8)) (hl : l.length ≤ 1048576) : zaV zaB l l = some true := by
 unfold zaV
 simp only [bne_self_eq_false, cond_false]
 have hI : iter (zcF zaB l l) (0 : Int) = (some (.inr ()) : Option (Bool ⊕ Unit)) := by
  refine zmC (fun k => (k : Int)) l.length (by omega) _ (fun k hk => ?_) ?_
  ·unfold zcF
   rw [zbC (by omega), zdW rfl hk, zaA, zaA]
   simp only [beq_self_eq_true, Bool.and_self, Bool.not_true, cond_false]
   rw [zjF (by omega)]
  ·unfold zcF
   rw [zaR (by omega)]
 rw [show iter _ _ = _ from hI, zaA]
theorem ypC {es : Es} (hl : es.length ≤ 256) (sec : L8) (nx : Int) : ∃ n, zbL zaB sec nx (es.map (·.2)) = some (n, (zqI es sec).isSome, nx, es.map (·.2)) := by
 have hany : (zqI es sec).isSome = es.any fun p => nsec p.2 == sec := by
  unfold zqI
  rw [Option.isSome_map, Bool.eq_iff_iff, List.find?_isSome, List.any_eq_true]
 have hT : T (iter (fun x => zcR zaB sec x.1 x.2.1 x.2.2.1 x.2.2.2.1 x.2.2.2.2.1 x.2.2.2.2.2.1 x.2.2.2.2.2.2.1 x.2.2.2.2.2.2.2.1 x.2.2.2.2.2.2.2.2.1 x.2.2.2.2.2.2.2.2.2.1 x.2.2.2.2.2.2.2.2.2.2.1 x.2.2.2.2.2.2.2.2.2.2.2.1 x.2.2.2.2.2.2.2.2.2.2.2.2.1 x.2.2.2.2.2.2.2.2.2.2.2.2.2.1 x.2.2.2.2.2.2.2.2.2.2.2.2.2.2.1 x.2.2.2.2.2.2.2.2.2.2.2.2.2.2.2) ((0 : Int), nx, es.map (·.2), (0 : Int), (0 : Int), (0 : Int), ([] : L8), ([] : L8), ([] : L8), (0 : Int), (0 : Int), false, false, (0 : Int), ([] : L8), ([] : L8))) fun r => match r with
   | .inl v => v.1 = true ∧ v.2.1 = nx ∧ v.2.2.1 = es.map (·.2) ∧ (es.any fun p => nsec p.2 == sec) = true
   | .inr v => v.1 = nx ∧ v.2.1 = es.map (·.2) ∧ (es.any fun p => nsec p.2 == sec) = false := by
  refine T.iter (fun x => 0 ≤ x.1 ∧ x.1 ≤ (es.length : Int) ∧ x.2.1 = nx ∧ x.2.2.1 = es.map (·.2) ∧ ((es.take x.1.toNat).any fun p => nsec p.2 == sec) = false) (fun x => es.length - x.1.toNat) _ (fun x hx => ?_) ⟨Int.le_refl _, by simp, rfl, rfl, rfl⟩ (by simp; omega)
  obtain ⟨h1, h2, h3, h4, h5⟩ := hx
  obtain ⟨k, hk⟩ : ∃ k : Nat, x.1 = k := ⟨x.1.toNat, by omega⟩
  rw [hk] at h1 h2 h5
  rw [Int.toNat_natCast] at h5
  unfold zcR
  rw [hk, h3, h4, List.length_map]
  refine T.dif (fun h6 => ?_) fun h6 => T.ok ⟨rfl, rfl, ?_⟩
  ·have hkl : k < es.length := by omega
   rw [decide_eq_true (show (0 : Int) ≤ (k : Int) by omega), decide_eq_true h6, Bool.and_self, ycJ rfl, zaA, zdW (i := k) rfl (by rw [List.length_map]; exact hkl), zaA, List.getElem_map]
   refine T.bif (fun h7 => ?_) fun h7 => T.ok ⟨⟨?_, ?_, rfl, rfl, ?_⟩, ?_⟩
   ·rw [zaA, zaA]
    exact T.ok ⟨rfl, rfl, rfl, ykH (p := fun p : Int × Nd => nsec p.2 == sec) hkl h7⟩
   ·simp only []; rw [zjF (by omega)]; omega
   ·simp only []; rw [zjF (by omega)]; omega
   ·simp only []; rw [zjF (by omega), Int.toNat_natCast]
    exact zzQ (p := fun p : Int × Nd => nsec p.2 == sec) hkl h5 h7
   ·simp only []; rw [zjF (by omega)]; omega
  ·rw [List.take_of_length_le (by omega)] at h5
   exact h5
 obtain ⟨r, h1, h2⟩ := hT
 unfold zbL
 rw [show iter _ _ = _ from h1, zaA, hany]
 cases r with
 | inl v =>
  obtain ⟨e1, e2, e3, e4⟩ := h2
  simp only []
  rw [e1, e2, e3, e4]
  exact ⟨_, rfl⟩
 | inr v =>
  obtain ⟨e1, e2, e3⟩ := h2
  simp only []
  rw [e1, e2, e3]
  exact ⟨_, rfl⟩
theorem Ok.snoc {nx last : Int} {es : Es} (h : Ok nx es) (h0 : 0 ≤ last) (hlow : ∀ p ∈ es, p.1 ≤ last) (hlen : es.length < 256) {n : Nd} (hm : mayB n = true) (hf : (zqI es (nsec n)).isSome = false) (h1 : last < n.1) (h2 : n.1 < nx) (h3 : npar n < n.1) : Ok nx (es ++ [(n.1, n)]) := by
 have hmem : ∀ p, p ∈ es ++ [(n.1, n)] → p ∈ es ∨ p = (n.1, n) := fun p hp => by simpa using hp
 have hno : ∀ p ∈ es, nsec p.2 ≠ nsec n := fun p hp e => by
  unfold zqI at hf
  rw [Option.isSome_map, Option.isSome_eq_false_iff, Option.isNone_iff_eq_none, List.find?_eq_none] at hf
  exact hf p hp (beq_iff_eq.2 e)
 have hp0 := (zpP hm).2.2.2.2.2
 exact {
   rises := by
    unfold zmM
    rw [List.pairwise_append]
    refine ⟨h.rises, List.pairwise_singleton _ _, fun p hp q hq => ?_⟩
    rw [List.mem_singleton] at hq
    subst hq
    have := hlow p hp
    simp only []
    omega
   ids := fun p hp => by
    rcases hmem p hp with hp | rfl
    ·exact h.ids p hp
    ·exact ⟨rfl, by simp only []; omega, h2⟩
   par := fun p hp => by
    rcases hmem p hp with hp | rfl
    ·exact h.par p hp
    ·exact ⟨hp0, h3⟩
   may := fun p hp => by
    rcases hmem p hp with hp | rfl
    ·exact h.may p hp
    ·exact hm
   uniq := fun p hp q hq e => by
    rcases hmem p hp with hp | rfl <;> rcases hmem q hq with hq | rfl
    ·exact h.uniq p hp q hq e
    ·exact absurd e (hno p hp)
    ·exact absurd e.symm (hno q hq)
    ·rfl
   next := h.next
   len := by rw [List.length_append, List.length_singleton]; omega }
theorem yfD {r0 : L8 × L8} {rest : List (L8 × L8)} {nx : Int} (hb : ∀ x ∈ rest, x.1.length ≤ 1048576 ∧ x.2.length ≤ 1048576) (hlen : rest.length ≤ 256) : ∀ (k i : Nat) (last : Int) (es : Es) (f g : Nat), i + k = rest.length → k < f → k < g → Ok nx es → es.length = i → 0 ≤ last → (∀ p ∈ es, p.1 ≤ last) →
  (zkC (fun x : Int × Int × Int × Es => zbD zaB rest x.1 x.2.1 x.2.2.1 x.2.2.2) f (last, (i : Int), nx, es) = some (.inl 135) ∧ zkC (fun x : Int × Int × Int × List Nd => zaW zaB (r0 :: rest) x.1 x.2.1 x.2.2.1 x.2.2.2) g (last, ((i + 1 : Nat) : Int), nx, es.map (·.2)) = some (.inl 135)) ∨
  ∃ es', zkC (fun x : Int × Int × Int × Es => zbD zaB rest x.1 x.2.1 x.2.2.1 x.2.2.2) f (last, (i : Int), nx, es) = some (.inr (nx, es')) ∧ zkC (fun x : Int × Int × Int × List Nd => zaW zaB (r0 :: rest) x.1 x.2.1 x.2.2.1 x.2.2.2) g (last, ((i + 1 : Nat) : Int), nx, es.map (·.2)) = some (.inr (nx, es'.map (·.2))) ∧ Ok nx es' ∧ es'.map rowE = es.map rowE ++ rest.drop i
 | 0, i, last, es, f + 1, g + 1, hi, _, _, h, he, h0, hlow => by
  right
  refine ⟨es, zaL ?_, zaL ?_, h, ?_⟩
  ·unfold zbD
   simp only []
   rw [zaR (by omega)]
  ·unfold zaW
   simp only [List.length_cons]
   rw [zaR (by omega)]
  ·rw [List.drop_of_length_le (by omega), List.append_nil]
 | k + 1, i, last, es, f + 1, g + 1, hi, hf, hg, h, he, h0, hlow => by
  have hil : i < rest.length := by omega
  have hx := hb _ (List.getElem_mem hil)
  obtain ⟨n, n', b, e1, e2, e3⟩ := yqI rest[i] hx.1 hx.2
  obtain ⟨m, e4⟩ := ypC (es := es) (by omega) (nsec n') nx
  have hgo : (r0 :: rest)[i + 1]'(by simp; omega) = rest[i] := rfl
  have hP : zbD zaB rest last (i : Int) nx es = (Option.bind (zfQ zaB last (n, b) ((zqI es (nsec n)).getD zN, (zqI es (nsec n)).isSome, nx, es)) fun v25 => match v25 with
    | .inl v26 => some (.inr (.inl v26))
    | .inr v27 => some (.inl (v27.2.1, ((i + 1 : Nat) : Int), v27.1, mset keqI kltI v27.2.2.2.2.2.2.2.2.2.2.2.2.2.2.2.2 v27.2.1 (v27.2.1, v27.2.2.1, v27.2.2.2.1, v27.2.2.2.2.1, v27.2.2.2.2.2.1, v27.2.2.2.2.2.2.1, v27.2.2.2.2.2.2.2.1, v27.2.2.2.2.2.2.2.2.1, v27.2.2.2.2.2.2.2.2.2.1, v27.2.2.2.2.2.2.2.2.2.2.1, v27.2.2.2.2.2.2.2.2.2.2.2.1, v27.2.2.2.2.2.2.2.2.2.2.2.2.1, v27.2.2.2.2.2.2.2.2.2.2.2.2.2.1, v27.2.2.2.2.2.2.2.2.2.2.2.2.2.2.1, v27.2.2.2.2.2.2.2.2.2.2.2.2.2.2.2.1)))) := by
   unfold zbD
   rw [zbC (show (i : Int) < (rest.length : Int) by omega), zdW rfl hil, zaA, e1, zaA]
   simp only []
   rw [ztT h, zaA, zjF (by omega)]
   rfl
  have hD : zaW zaB (r0 :: rest) last ((i + 1 : Nat) : Int) nx (es.map (·.2)) = (Option.bind (zbE zaB last (n', b) (m, (zqI es (nsec n')).isSome, nx, es.map (·.2))) fun v18 => match v18 with
    | .inl v19 => some (.inr (.inl v19))
    | .inr v20 => (Option.bind (app v20.2.2.2.2.2.2.2.2.2.2.2.2.2.2.2.2 ([(v20.2.1, v20.2.2.1, v20.2.2.2.1, v20.2.2.2.2.1, v20.2.2.2.2.2.1, v20.2.2.2.2.2.2.1, v20.2.2.2.2.2.2.2.1, v20.2.2.2.2.2.2.2.2.1, v20.2.2.2.2.2.2.2.2.2.1, v20.2.2.2.2.2.2.2.2.2.2.1, v20.2.2.2.2.2.2.2.2.2.2.2.1, v20.2.2.2.2.2.2.2.2.2.2.2.2.1, v20.2.2.2.2.2.2.2.2.2.2.2.2.2.1, v20.2.2.2.2.2.2.2.2.2.2.2.2.2.2.1, v20.2.2.2.2.2.2.2.2.2.2.2.2.2.2.2.1)] : List Nd)) fun v21 => some (.inl (v20.2.1, ((i + 1 + 1 : Nat) : Int), v20.1, v21)))) := by
   unfold zaW
   rw [zbC (show ((i + 1 : Nat) : Int) < ((r0 :: rest).length : Int) by simp only [List.length_cons]; omega), zdW (i := i + 1) rfl (by simp; omega), zaA, hgo, e2, zaA]
   simp only []
   rw [e4, zaA, zjF (by omega)]
   rfl
  cases b with
  | false =>
   left
   exact ⟨zaL (hP.trans rfl), zaL (hD.trans rfl)⟩
  | true =>
   obtain ⟨rfl, hm, hrow, hn0, hn8⟩ := e3 rfl
   cases hfi : (zqI es (nsec n')).isSome with
   | true =>
    left
    rw [hfi] at hP hD
    exact ⟨zaL (hP.trans rfl), zaL (hD.trans rfl)⟩
   | false =>
    rw [hfi] at hP hD
    by_cases h1 : n'.1 ≤ last
    ·left
     refine ⟨zaL (hP.trans ?_), zaL (hD.trans ?_)⟩
     ·unfold zfQ
      simp only [Bool.not_true, cond_false]
      rw [zbC h1]
      rfl
     ·unfold zbE
      simp only [Bool.not_true, cond_false]
      rw [zbC h1]
      rfl
    ·by_cases h2 : n'.1 ≥ nx
     ·left
      refine ⟨zaL (hP.trans ?_), zaL (hD.trans ?_)⟩
      ·unfold zfQ
       simp only [Bool.not_true, cond_false]
       rw [zaR h1, zbC h2]
       rfl
      ·unfold zbE
       simp only [Bool.not_true, cond_false]
       rw [zaR h1, zbC h2]
       rfl
     ·by_cases h3 : n'.2.2.1 ≥ n'.1
      ·left
       refine ⟨zaL (hP.trans ?_), zaL (hD.trans ?_)⟩
       ·unfold zfQ
        simp only [Bool.not_true, cond_false]
        rw [zaR h1, zaR h2, zbC h3]
        rfl
       ·unfold zbE
        simp only [Bool.not_true, cond_false]
        rw [zaR h1, zaR h2, zbC h3]
        rfl
      ·have hlow' : ∀ p ∈ es, p.1 < n'.1 := fun p hp => by have := hlow p hp; omega
       have hP2 : zbD zaB rest last (i : Int) nx es = some (.inl (n'.1, ((i + 1 : Nat) : Int), nx, es ++ [(n'.1, n')])) := hP.trans (by
        unfold zfQ
        simp only [Bool.not_true, cond_false]
        rw [zaR h1, zaR h2, zaR h3, zaA]
        simp only []
        rw [yaX hlow'])
       have hD2 : zaW zaB (r0 :: rest) last ((i + 1 : Nat) : Int) nx (es.map (·.2)) = some (.inl (n'.1, ((i + 1 + 1 : Nat) : Int), nx, (es ++ [(n'.1, n')]).map (·.2))) := hD.trans (by
        unfold zbE
        simp only [Bool.not_true, cond_false]
        rw [zaR h1, zaR h2, zaR h3, zaA]
        simp only []
        rw [zmX (by simp; omega), zaA, List.map_append]
        rfl)
       have hO := h.snoc h0 hlow (by omega) hm hfi (by omega) (by omega) (by show n'.2.2.1 < n'.1; omega)
       have hr := yfD (r0 := r0) hb hlen k (i + 1) n'.1 (es ++ [(n'.1, n')]) f g (by omega) (by omega) (by omega) hO (by rw [List.length_append, he]; rfl) (by omega) (fun p hp => by
        rcases List.mem_append.1 hp with hp | hp
        ·exact Int.le_of_lt (hlow' p hp)
        ·rw [List.mem_singleton] at hp; subst hp; exact Int.le_refl _)
       rcases hr with ⟨q1, q2⟩ | ⟨es', q1, q2, q3, q4⟩
       ·left
        exact ⟨(zbB hP2).trans q1, (zbB hD2).trans q2⟩
       ·right
        refine ⟨es', (zbB hP2).trans q1, (zbB hD2).trans q2, q3, ?_⟩
        rw [q4, List.map_append, List.append_assoc, List.drop_eq_getElem_cons hil, hrow]
        rfl
theorem yoM {rows : List (L8 × L8)} (hb : ∀ x ∈ rows, x.1.length ≤ 1048576 ∧ x.2.length ≤ 1048576) :
  (zeJ zaB rows = some (.inl 135) ∧ zbM zaB rows = some (.inl 135)) ∨ ∃ nx es, zeJ zaB rows = some (.inr (0, nx, es)) ∧ zbM zaB rows = some (.inr (0, nx, es.map (·.2))) ∧ Ok nx es ∧ yqZ nx es = rows := by
 cases rows with
 | nil => left; exact ⟨rfl, rfl⟩
 | cons r0 rest =>
  have h0 := hb r0 List.mem_cons_self
  unfold zeJ zbM
  by_cases hlen : ((r0 :: rest).length : Int) > 257
  ·left
   have hj : zdI zaB (r0 :: rest) = some (.inl 135) := by
    unfold zdI
    rw [show (((r0 :: rest).length : Int) == 0) = false from beq_eq_false_iff_ne.2 (by simp only [List.length_cons]; omega)]
    simp only [cond_false]
    rw [show idx (r0 :: rest) 0 = some r0 from rfl, zaA]
    cases r0.1 != ([102, 111, 114, 101, 115, 116] : L8) with
    | true => rfl
    | false => simp only [cond_false]; rw [zbC hlen]
   have hd : zaX zaB (r0 :: rest) = some (.inl 135) := by
    unfold zaX
    rw [zaR (show ¬ ((r0 :: rest).length : Int) < 1 by simp only [List.length_cons]; omega), zbC hlen]
   rw [hj, hd]
   exact ⟨rfl, rfl⟩
  ·cases hk : r0.1 != ([102, 111, 114, 101, 115, 116] : L8) with
   | true =>
    left
    have hj : zdI zaB (r0 :: rest) = some (.inl 135) := by
     unfold zdI
     rw [show (((r0 :: rest).length : Int) == 0) = false from beq_eq_false_iff_ne.2 (by simp only [List.length_cons]; omega)]
     simp only [cond_false]
     rw [show idx (r0 :: rest) 0 = some r0 from rfl, zaA, hk]
     rfl
    have hd : zaX zaB (r0 :: rest) = some (.inl 135) := by
     unfold zaX
     rw [zaR (show ¬ ((r0 :: rest).length : Int) < 1 by simp only [List.length_cons]; omega), zaR hlen, show idx (r0 :: rest) 0 = some r0 from rfl, zaA, hk]
     rfl
    rw [hj, hd]
    exact ⟨rfl, rfl⟩
   | false =>
    have hj : zdI zaB (r0 :: rest) = some (.inr ()) := by
     unfold zdI
     rw [show (((r0 :: rest).length : Int) == 0) = false from beq_eq_false_iff_ne.2 (by simp only [List.length_cons]; omega)]
     simp only [cond_false]
     rw [show idx (r0 :: rest) 0 = some r0 from rfl, zaA, hk]
     simp only [cond_false]
     rw [zaR hlen]
    have hd : zaX zaB (r0 :: rest) = some (.inr ()) := by
     unfold zaX
     rw [zaR (show ¬ ((r0 :: rest).length : Int) < 1 by simp only [List.length_cons]; omega), zaR hlen, show idx (r0 :: rest) 0 = some r0 from rfl, zaA, hk]
     rfl
    rw [hj, zaA, hd, zaA]
    simp only []
    rw [show idx (r0 :: rest) 0 = some r0 from rfl, zaA, zaA, yaM h0.2, zaA, ycA h0.2, zaA, ztD, zaA]
    have hs := zzT h0.2
    have hform : (txtP r0.2).2 = true → zfW (txtP r0.2).1 = r0.2 := fun h => by
     unfold txtP at h ⊢
     cases ht : txtF r0.2.length r0.2 with
     | none => rw [ht] at h; cases h
     | some l => exact zuA ht
    generalize txtP r0.2 = tp at hs hform ⊢
    obtain ⟨l, ok⟩ := tp
    simp only at hs hform ⊢
    -- what the first row must be
    have key : (ok = true ∧ ∃ t, l = [t] ∧ numB t = true ∧ 1 ≤ valF t ∧ valF t ≤ 99999999) ∨ ((zfP zaB (l, ok) = some (.inl 135) ∨ (zfP zaB (l, ok) = some (.inr ()) ∧ zeL zaB (l, ok) (1, []) = some (.inl 135))) ∧ zbK zaB (l, ok) (rdM 1 99999999 l false) = some (.inl 135)) := by
     cases ok with
     | false => right; exact ⟨.inl rfl, rfl⟩
     | true =>
      match l, hs with
      | [], _ => right; exact ⟨.inl rfl, rfl⟩
      | t :: t2 :: l2, _ =>
       right
       refine ⟨.inl ?_, ?_⟩
       ·unfold zfP
        simp only [Bool.not_true, cond_false]
        rw [show (((t :: t2 :: l2).length : Int) != 1) = true from by rw [bne_iff_ne]; simp only [List.length_cons]; omega]
        rfl
       ·unfold zbK
        simp only [Bool.not_true, cond_false]
        cases (rdM 1 99999999 (t :: t2 :: l2) false).2.2 with
        | true => rfl
        | false =>
         have e : (rdM 1 99999999 (t :: t2 :: l2) false).2.1 = t2 :: l2 := by
          unfold rdM rdT
          cases !(numR t).2 || (decide ((numR t).1 < 1) || decide ((numR t).1 > 99999999)) <;> rfl
         rw [e]
         simp only [cond_false]
         rw [zbC (by simp only [List.length_cons]; omega)]
      | [t], hs =>
       have ht : t.length ≤ 1048576 := hs.2 t List.mem_cons_self
       have e2 : zeL zaB ([t], true) (1, []) = some (bif (numR t).2 && inB (numR t).1 1 99999999 then .inr ((numR t).1, []) else .inl 135) := by
        unfold zeL
        rw [show idx [t] 0 = some t from rfl, zaA, zrZ t ht, zaA]
        cases (numR t).2 with
        | false => rfl
        | true =>
         simp only [Bool.not_true, cond_false, Bool.true_and]
         rw [yuR, zaA]
         unfold inB
         cases decide (1 ≤ (numR t).1) && decide ((numR t).1 ≤ 99999999) <;> rfl
       have e3 : zbK zaB ([t], true) (rdM 1 99999999 [t] false) = some (bif (numR t).2 && inB (numR t).1 1 99999999 then .inr (numR t).1 else .inl 135) := by
        unfold zbK rdM rdT inB
        simp only [Bool.not_true, cond_false]
        cases (numR t).2 with
        | false => rfl
        | true =>
         by_cases c1 : (numR t).1 < 1
         ·rw [decide_eq_true c1, decide_eq_false (show ¬ 1 ≤ (numR t).1 by omega)]; rfl
         ·by_cases c2 : (numR t).1 > 99999999
          ·rw [decide_eq_false c1, decide_eq_true c2, decide_eq_true (show 1 ≤ (numR t).1 by omega), decide_eq_false (show ¬ (numR t).1 ≤ 99999999 by omega)]; rfl
          ·rw [decide_eq_false c1, decide_eq_false c2, decide_eq_true (show 1 ≤ (numR t).1 by omega), decide_eq_true (show (numR t).1 ≤ 99999999 by omega)]; rfl
       cases hc : (numR t).2 && inB (numR t).1 1 99999999 with
       | false =>
        right
        rw [hc] at e2 e3
        exact ⟨.inr ⟨rfl, e2⟩, e3⟩
       | true =>
        left
        rw [Bool.and_eq_true] at hc
        unfold numR inB at hc
        cases hn : numB t with
        | false => rw [hn] at hc; cases hc.1
        | true =>
         rw [hn] at hc
         simp only [cond_true, Bool.and_eq_true, decide_eq_true_eq] at hc
         exact ⟨rfl, t, rfl, hn, by omega, by omega⟩
    rcases key with ⟨rfl, t, rfl, hn, v1, v2⟩ | ⟨k1, k2⟩
    ·have ht : t.length ≤ 1048576 := hs.2 t List.mem_cons_self
     have en : numR t = ((valF t : Int), true) := by unfold numR; rw [hn]; rfl
     have hj1 : zfP zaB ([t], true) = some (.inr ()) := rfl
     have hj2 : zeL zaB ([t], true) (1, []) = some (.inr ((valF t : Int), [])) := by
      unfold zeL
      rw [show idx [t] 0 = some t from rfl, zaA, zrZ t ht, zaA, en]
      simp only [Bool.not_true, cond_false]
      rw [yuR, zaA, decide_eq_true (show (1 : Int) ≤ ((valF t : Nat) : Int) by omega), decide_eq_true (show ((valF t : Nat) : Int) ≤ 99999999 by omega)]
      rfl
     have em : rdM 1 99999999 [t] false = ((valF t : Int), [], false) := by
      unfold rdM rdT
      simp only [en]
      rw [decide_eq_false (show ¬ ((valF t : Nat) : Int) < 1 by omega), decide_eq_false (show ¬ ((valF t : Nat) : Int) > 99999999 by omega)]
      rfl
     rw [hj1, zaA, em]
     simp only []
     rw [show zgX zaB = some (1, []) from rfl, zaA, hj2, zaA, show zbK zaB ([t], true) ((valF t : Int), [], false) = some (.inr (valF t : Int)) from rfl, zaA]
     simp only []
     rw [show subL (r0 :: rest) 1 = some rest from znK (n := 1) (by simp), zaA]
     have hO : Ok (valF t : Int) [] := ⟨List.Pairwise.nil, fun _ h => (by cases h), fun _ h => (by cases h), fun _ h => (by cases h), fun _ h => (by cases h), ⟨by omega, by omega⟩, Nat.zero_le _⟩
     have hl2 : rest.length ≤ 256 := by simp only [List.length_cons] at hlen; omega
     have hit := yfD (r0 := r0) (nx := (valF t : Int)) (rest := rest) (fun x hx => hb x (List.mem_cons_of_mem _ hx)) hl2 rest.length 0 0 [] FU FU (by omega) (by unfold FU; omega) (by unfold FU; omega) hO rfl (Int.le_refl _) (fun _ h => by cases h)
     rcases hit with ⟨q1, q2⟩ | ⟨es', q1, q2, q3, q4⟩
     ·left
      rw [show iter _ ((0 : Int), (0 : Int), (valF t : Int), ([] : Es)) = _ from q1, show iter _ ((0 : Int), (1 : Int), (valF t : Int), ([] : List Nd)) = _ from q2]
      exact ⟨rfl, rfl⟩
     ·right
      refine ⟨(valF t : Int), es', ?_, ?_, q3, ?_⟩
      ·rw [show iter _ ((0 : Int), (0 : Int), (valF t : Int), ([] : Es)) = _ from q1]; rfl
      ·rw [show iter _ ((0 : Int), (1 : Int), (valF t : Int), ([] : List Nd)) = _ from q2]; rfl
      ·unfold yqZ
       rw [q4]
       have hd1 : decI (valF t : Int) = t := by
        unfold decI
        rw [Int.toNat_natCast]
        exact (zuW hn).1
       have hk1 : r0.1 = ([102, 111, 114, 101, 115, 116] : L8) := by simpa using hk
       rw [hd1, hform rfl, ← hk1]
       rfl
    ·left
     refine ⟨?_, ?_⟩
     ·rcases k1 with k1 | ⟨k1, k3⟩
      ·rw [k1]; rfl
      ·rw [k1, zaA]
       simp only []
       rw [show zgX zaB = some (1, []) from rfl, zaA, k3]
       rfl
     ·rw [k2]; rfl
theorem yoF {a : List L8} (h : a.length ≤ 1048576) : zcN zaB a a = some true := by
 unfold zcN
 rw [bne_self_eq_false]
 simp only [cond_false]
 rw [ybN (l := a) (p := fun _ => true) (bad := Sum.inl false) (good := Sum.inr ()) (by omega) (fun k hk => ?_) ?_, zaA, List.all_eq_true.2 fun _ _ => rfl]
 ·rfl
 ·unfold zfX
  rw [zaR (by omega)]
 ·unfold zfX
  rw [zbC (show (k : Int) < (a.length : Int) by omega), zdW rfl hk, zaA, zaA, bne_self_eq_false, zjF (by omega)]
  rfl
theorem yxV {n : Nd} (h : Lst n) : zeG zaB n n = some true := by
 unfold zeG
 have hj : zgA zaB n n = some (.inr (n.1, n.2.1, n.2.2.1, n.2.2.2.1, n.2.2.2.2.1, n.2.2.2.2.2.1, n.2.2.2.2.2.2.1, n.2.2.2.2.2.2.2.1, n.2.2.2.2.2.2.2.2.1, n.2.2.2.2.2.2.2.2.2.1, n.2.2.2.2.2.2.2.2.2.2.1, n.2.2.2.2.2.2.2.2.2.2.2.1, n.2.2.2.2.2.2.2.2.2.2.2.2.1, n.2.2.2.2.2.2.2.2.2.2.2.2.2.1, n.2.2.2.2.2.2.2.2.2.2.2.2.2.2, n)) := by
  unfold zgA
  rw [yoF h.1, zaA]
  simp only [Bool.not_true, cond_false]
  rw [yoF h.2, zaA]
  rfl
 rw [hj, zaA]
 simp only [beq_self_eq_true, cond_true]
theorem ydN {l : List Nd} (hl : l.length ≤ 1048576) (h : ∀ n ∈ l, Lst n) : zcG zaB l l = some true := by
 unfold zcG
 rw [bne_self_eq_false]
 simp only [cond_false]
 rw [ybN (l := l) (p := fun _ => true) (bad := Sum.inl false) (good := Sum.inr ()) (by omega) (fun k hk => ?_) ?_, zaA, List.all_eq_true.2 fun _ _ => rfl]
 ·rfl
 ·unfold zdM
  rw [zaR (by omega)]
 ·unfold zdM
  rw [zbC (show (k : Int) < (l.length : Int) by omega), zdW rfl hk, zaA, zaA, yxV (h _ (List.getElem_mem hk)), zaA, zjF (by omega)]
  rfl
theorem yuY (rows : List (L8 × L8)) (hl : rows.length ≤ 1048576) (hb : ∀ x ∈ rows, x.1.length ≤ 1048576 ∧ x.2.length ≤ 1048576) : zbU zaB rows = some true := by
 have hB : ∀ w : L8 × L8, Option.bind (subH (rows ++ [w]) (w64 ((rows.length : Int) + 1))) (fun v11 => idx v11 (rows.length : Int)) = some w := fun w => by
  rw [zjF (by omega), znZ (by simp), zaA, List.take_of_length_le (by simp), zdW (i := rows.length) rfl (by simp)]
  simp
 unfold zbU
 rw [zuH rows (by omega), zaA, zmX (by simp; omega), zaA, znZ (by simp), zaA]
 simp only [Int.toNat_natCast, List.take_left]
 have hB2 := hB (([98, 101, 104, 105, 110, 100] : L8), ([] : L8))
 obtain ⟨tl, ht1, ht2⟩ := bnd hB2
 rcases yoM hb with ⟨e1, e2⟩ | ⟨nx, es, e1, e2, h, e3⟩
 ·rw [e1, zaA]
  simp only []
  rw [e2, zaA]
  simp only []
  have hj : zcX zaB rows (rows ++ [(([98, 101, 104, 105, 110, 100] : L8), ([] : L8))]) 135 135 = some (.inr ()) := by
   unfold zcX
   simp only [bne_self_eq_false, cond_false, Int.toNat_natCast, List.take_left]
   rw [zsJ rows hl, zaA]
   simp only [Bool.not_true, cond_false]
   rw [ht1, zaA, ht2, zaA]
   simp only [bne_self_eq_false, cond_false]
  rw [hj, zaA]
  rfl
 ·rw [e1, zaA]
  simp only []
  rw [e2, zaA]
  simp only []
  have hj : zcW zaB rows (rows ++ [(([98, 101, 104, 105, 110, 100] : L8), ([] : L8))]) (0, nx, es) (0, nx, es.map (·.2)) = some (.inr (nx, nx, es, es.map (·.2))) := by
   unfold zcW
   simp only [bne_self_eq_false, cond_false, Int.toNat_natCast, List.take_left]
   rw [zsJ rows hl, zaA]
   simp only [Bool.not_true, cond_false]
   rw [ht1, zaA, ht2, zaA]
   simp only [bne_self_eq_false, cond_false]
  rw [hj, zaA]
  simp only []
  have hlen := h.len
  rw [zyX h, zaA]
  simp only []
  rw [ydN (by rw [List.length_map]; omega) fun n hn => by
   obtain ⟨p, hp, rfl⟩ := List.mem_map.1 hn
   exact h.lst hp, zaA]
  simp only [cond_true]
  rw [rows_ok h, zaA, e3]
  simp only []
  rw [zsJ rows hl, zaA]
  rfl
theorem yiA (rows : List (L8 × L8)) (hk : dsz (.sl (.pr .s .s)) rows ≤ 1048576) : zbU zaB rows = some true := by
 have h1 : rows.length + 1 ≤ dsz (.sl (.pr .s .s)) rows := ylU (e := .pr .s .s) rfl rows
 refine yuY rows (by omega) fun x hx => ?_
 have h2 : dsz (.pr .s .s) x ≤ dsz (.sl (.pr .s .s)) rows := ysX (e := .pr .s .s) hx
 have h3 : dsz (.pr .s .s) x = (x.1.length + 1) + (x.2.length + 1) := rfl
 omega
end Go.Proofs.YtebbcofojchkpaaGreatDoor.Am
namespace Go.Proofs.YtebbcofojchkpaaGreatDoor
open Go Go.RowKit
section
open Go Go.RowKit Go.ChangeShapes Go.WideShapes Go.ChangeAt
attribute [local irreducible] Value.okWide
theorem yuO {W : World} (h : W.ShapedOpen Tryz.prog) (hL : laidMet Tryz.prog Rows.forestLoadsUptoRow.laid W) : ∃ G : List (Nat × Obj), Am.zlS G ∧ Am.GS G (zmZ W) := by
 obtain ⟨m, hm⟩ := Tryz.laysM219.s1_3 W h
 have hm : W.cell? ⟨0, 0, none⟩ = some (.int .i64 m) := hm
 have h0 : ∃ c E fz, W.heap[0]? = some (.cells c E fz) ∧ c[0]? = some (.int .i64 m) := by
  unfold World.cell? at hm
  split at hm
  ·rename_i c E fz hb
   simp only [Option.isSome_none, if_neg (show ¬ (false = true) by decide)] at hm
   exact ⟨c, E, fz, hb, hm⟩
  ·cases hm
 obtain ⟨c, E, fz, h1, h2⟩ := h0
 have hT := Lib.tabIs_of_head (P := Tryz.prog) (k := .u64) (zs := Lib.pow10Tab) (g := 3) (t := 218) (e := 167) (n := 20) (by kernel_rfl) (by kernel_rfl) (by kernel_rfl) (by kernel_rfl) (by kernel_rfl) (by kernel_rfl) (show laidMet Tryz.prog (("internal/strconv.uint64pow10", Lib.tabData .u64 Lib.pow10Tab) :: _) W from hL.tail.tail)
 have h3 : ∃ T f, W.heap[3]? = some (.cells ylR.toArray T f) := by
  unfold Lib.TabIs World.var? at hT
  rw [show Tryz.prog.globalNamed "internal/strconv.uint64pow10" = some 3 by kernel_rfl, Option.bind_some] at hT
  split at hT
  ·rename_i cs T f hb
   cases hT
   exact ⟨T, f, hb⟩
  ·cases hT
 obtain ⟨T, f, h4⟩ := h3
 refine ⟨[(0, .cells c E fz), (3, .cells ylR.toArray T f)], ⟨fun S hS => ⟨⟨c, E, fz, m, hS _ (List.mem_cons_self ..), h2⟩, T, f, hS _ (List.mem_cons_of_mem _ (List.mem_cons_self ..))⟩⟩, fun p hp => ?_⟩
 rcases List.mem_cons.1 hp with rfl | hp
 ·exact h1
 ·rcases List.mem_cons.1 hp with rfl | hp
  ·exact h4
  ·cases hp
theorem zqP (H : Type) (enc : TypeId × Value → H) (W : World) (base : Nat) (args : Array Value) (ds gs : List (DataW H)) (before : List MemPlace)
  (hval : ∀ (j : Nat) t v, Tryz.f3.params[j]? = some t → args[j]? = some v → Value.okWide Tryz.prog W .any base t v)
  (hW : DataW.Whole enc Tryz.prog Tryz.f3.params.toList Rows.forestLoadsSpec.vars false W args.toList ds gs before) (hk : Rows.uptoSmall H (ds ++ gs) = true) (hsh : W.ShapedOpen Tryz.prog) (hL : laidMet Tryz.prog Rows.forestLoadsUptoRow.laid W) :
  Calls Tryz.prog 3 args W fun e W' => ∃ v, e = .returned v ∧ Rows.forestLoadsSpec.post enc Tryz.prog Tryz.f3 false true false false W args v W' := by
 have hW' := hW
 obtain ⟨p, q, hA0, hV, rfl, _, _⟩ := hW
 have hA : DataW.TrodAll enc Tryz.prog W 0 (fun _ => true) true Tryz.f3.params.toList args.toList ds p := hA0
 rw [Tryz.params3] at hA hval
 obtain ⟨v0, vs0, d0, ds0, p0, q0, hargs, rfl, rfl, t0, r0⟩ := trodAll_cons hA
 obtain ⟨rfl, rfl, rfl⟩ := trodAll_nil r0
 obtain rfl : args = #[v0] := by cases args; simp_all
 obtain ⟨rfl, rfl⟩ := trodVars_none hV
 obtain ⟨x0, e0, b0⟩ := Am.xbS (t := (.sl (.pr .s .s))) (show Am.yxP Tryz.prog 22 (.sl (.pr .s .s)) = true by kernel_rfl) (hval 0 22 v0 rfl rfl) t0
 simp only [List.cons_append, List.nil_append, List.append_nil, Rows.uptoSmall, decide_eq_true_eq, Rows.uptoBulkAll] at hk
 obtain ⟨G, hG, hGS⟩ := yuO hsh hL
 refine ((Am.ztH (tabs := G) (o := Am.zaB)).ok (zmZ W) W [v0] (x0) true hGS (ykL W) (.cons (Am.xcI e0) .nil) (Am.yiA x0 (by omega))).mono fun e W' ⟨hx, v, he, hr, _⟩ => ?_
 have hr : [v] = [Value.bool true] := hr
 rw [(List.cons.inj hr).1] at he
 subst he
 refine ⟨_, rfl, ypT (B := 4) (n := 1) (by kernel_rfl) rfl (by kernel_rfl) (by kernel_rfl) (by kernel_rfl) (by kernel_rfl) (fun ds hds => ?_) hW' hx⟩
 match ds, hds with
 | [x0], _ => exact ⟨rfl, rfl, rfl⟩
theorem yqL : ownKnob Tryz.prog.godebug = none := by kernel_rfl
def zxP : DataW Unit → LV
 | .lit (.int k n) => [.int k n]
 | .agg l => go l
 | _ => []
where go : List (DataW Unit) → LV
 | [] => []
 | d :: l => zxP d ++ go l
def zoA (l : LV) : Obj → Obj
 | .cells _ t frozen => .cells l.toArray t frozen
 | o => o
noncomputable def zvW (os : Os) : World := { World.holding Tryz.prog os ⟨#[], #[], []⟩ with heap := (((((((((World.holding Tryz.prog os ⟨#[], #[], []⟩).heap).modify 6 (zoA (zxP Rows.laid_math_bits_deBruijn32tab))).modify 7 (zoA (zxP Rows.laid_math_bits_deBruijn64tab))).modify 3 (zoA (zxP Rows.laid_internal_strconv_uint64pow10))).modify 5 (zoA (zxP Rows.laid_unicode_utf8_acceptRanges))).modify 2 (zoA [.iface 227 (.pointer (some ⟨(World.holding Tryz.prog os ⟨#[], #[], []⟩).heap.size + 0, 0, none⟩))])).modify 1 (zoA [.iface 227 (.pointer (some ⟨(World.holding Tryz.prog os ⟨#[], #[], []⟩).heap.size + 1, 0, none⟩))])).modify 4 (zoA (zxP Go.Pinned.utf8First))) ++ #[.cells #[.string ⟨#[118, 97, 108, 117, 101, 32, 111, 117, 116, 32, 111, 102, 32, 114, 97, 110, 103, 101]⟩] 229, .cells #[.string ⟨#[105, 110, 118, 97, 108, 105, 100, 32, 115, 121, 110, 116, 97, 120]⟩] 229] }
theorem zqM (os : Os) : laidMet Tryz.prog Rows.forestLoadsUptoRow.laid ((zvW os).forCall (fun _ _ => 0) ⟨#[], #[.slice none 0 0], []⟩).memory :=
 laidMet_of_run' 8 (by kernel_rfl) (by kernel_rfl)
theorem zsC (os : Os) {H : Type} (enc : TypeId × Value → H) : ∃ places, DataW.whole enc Tryz.prog ((zvW os).forCall (fun _ _ => 0) ⟨#[], #[.slice none 0 0], []⟩).memory Tryz.f3.params.toList Rows.forestLoadsSpec.vars false (#[.slice none 0 0] : Array Value).toList 8 = some ([.nil], [], places) :=
 ⟨[], by kernel_rfl⟩
set_option maxRecDepth 100000 in
theorem zrO (os : Os) (started : os.Started) (H : Type) (enc : TypeId × Value → H) (F : Stop.Interp) :
  ReturnsInHanded {} Tryz.checked os 3 .any ((Rows.OpenSpec.upto Rows.forestLoadsSpec).preRow enc Tryz.prog Tryz.f3 Rows.forestLoadsUptoRow.domain false Rows.forestLoadsUptoRow.laid) (((Rows.OpenSpec.upto Rows.forestLoadsSpec).at F).post enc Tryz.prog Tryz.f3 false true false false) := by
 obtain ⟨places, hx⟩ := zsC os enc
 refine returnsInHanded_of_row (C := Tryz.checked) (s := Rows.OpenSpec.upto Rows.forestLoadsSpec) yqL started (by kernel_rfl) Tryz.func3
  (witness_row_at (enc := enc) (C := Tryz.checked) false (zvW os) #[.slice none 0 0] rfl (by kernel_rfl) (by kernel_rfl) (by kernel_rfl)
   (OpenSpec.preRow_of_cond 8 hx (by kernel_rfl) (fun k hk => by cases hk; kernel_rfl) (by kernel_rfl) (zqM os))) ?_
 intro W base args ds gs before hval hW _ hcond _ hL hsh _
 exact zqP H enc W base args ds gs before hval hW (hcond _ rfl) hsh hL
theorem zuV : Rows.ForestLoadsUptoSaid :=
 OpenClaim.holds_of_cond 3 Tryz.f3 rfl rfl rfl rfl rfl rfl rfl ⟨rfl, rfl, rfl, rfl, rfl⟩ rfl rfl rfl rfl rfl (by kernel_rfl) Tryz.func3 (by kernel_rfl)
  (of_decide_eq_true (by kernel_rfl)) (by unfold Func.isWrapper; first | (rw [if_pos (by decide +kernel)]; kernel_rfl) | (rw [if_neg (by decide +kernel)]; exact ⟨rfl, rfl⟩))
  (fun os started H enc _ F => by rw [OpenClaim.pre_eq_preRow]; exact zrO os started H enc F)
theorem zsB (f : FuncId) (fn : Func) (hf : Tryz.pinned.checked.prog.funcNamed "seneschal/seneschallaw13.ForestLoads" = some f) (hfn : Tryz.pinned.checked.prog.funcs[f]? = some fn) :
  true = Tryz.pinned.checked.prog.looks [] ∧ ∀ (j : Nat) t, fn.params[j]? = some t → Tryz.pinned.checked.prog.wantsStandIn t = false := by
 obtain rfl : f = 3 := osi ((show Tryz.prog.funcNamed "seneschal/seneschallaw13.ForestLoads" = some 3 by kernel_rfl).symm.trans hf) |>.symm
 obtain rfl : fn = Tryz.f3 := (osi (Tryz.func3.symm.trans hfn)).symm
 refine ⟨by kernel_rfl, fun j t ht => ?_⟩
 rw [Tryz.params3] at ht
 have hm : t ∈ [22] := by simpa using Array.mem_of_getElem? ht
 have hall : ([22].all fun u => !Tryz.prog.wantsStandIn u) = true := by kernel_rfl
 exact (show Tryz.prog.wantsStandIn t = false by simpa using List.all_eq_true.1 hall t hm)
theorem forestLoads_said : Rows.ForestLoadsUptoCardSaid :=
 Claim7.holds_tied_plain_at .later [] _ _ _ _ zuV (fun _ h => by cases h) (by kernel_rfl) (fun _ h => by cases h) forestLoadsUpto_row_tie rfl ⟨rfl, rfl⟩ (by kernel_rfl) rfl zsB (by kernel_rfl)
end
end Go.Proofs.YtebbcofojchkpaaGreatDoor
