/- The law 'seneschallaw15.LoginLoads' holds of every input whose arguments hold together at most 1048576 values and letters, and its card. Conditions: the row's listed tables hold what the program's text lays; the arguments' bulk is at most 1048576. -/
import Derived.Stop.LaidErr
import Derived.Test.YtmkomlbiaebddaaGreatDoorQlM
namespace Go.Proofs.YtmkomlbiaebddaaGreatDoor.Am
open Go Go.RowKit
section
attribute [local irreducible] stF macF
def otpB (o : L8) : Bool := o == [] || (decide ((16 : Int) ≤ (o.length : Int)) && decide ((o.length : Int) ≤ 64))
def zqO (u : L8) : List L8 → Option CrT
 | s :: h :: o :: st :: f :: t :: n :: r => match numM st 2199023255552, numM f 4, numM t 2199023255552, numM n 4 with
  | some st, some f, some t, some n => bif ((s.length : Int) == 16) && ((h.length : Int) == 32) && otpB o then (match zqF n.toNat r [] with
   | some ([], ks) => some (u, s, h, o, st, f, t, ks)
   | _ => none) else none
  | _, _, _, _ => none
 | _ => none
def rowF (x : L8 × L8) : Option CrT := bif (x.1.take 6 == zdU) && nmB (x.1.drop 6) && (txtP x.2).2 then zqO (x.1.drop 6) (txtP x.2).1 else none
theorem yuH {s : L8} (h : s.length ≤ 1048576) : Sml (txtP s).1 := by
 unfold txtP
 cases ht : txtF s.length s with
 | none => exact Sml.nil
 | some l =>
  have h1 := yyF ht
  exact ⟨Nat.le_trans h1.1 h, fun t hm => Nat.le_trans (h1.2 t hm) h⟩
theorem ymF {s : L8} (h : (txtP s).2 = true) : zfW (txtP s).1 = s := by
 unfold txtP at h ⊢
 cases ht : txtF s.length s with
 | none => rw [ht] at h; cases h
 | some l => exact ybJ ht
theorem cutl (s : L8) : zcV zaB s zdU = some (bif s.take 6 == zdU then (s.drop 6, true) else (s, false)) := by
 unfold zcV zbQ zbR
 simp only [List.length_cons, List.length_nil]
 by_cases h : (s.length : Int) ≥ 6
 ·rw [zaY (by exact h), show subH s (((0 + 1 + 1 + 1 + 1 + 1 + 1 : Nat)) : Int) = some (s.take 6) from zqS (n := 6) (by omega), zaA, zaA]
  cases s.take 6 == zdU with
  | false => rfl
  | true =>
   simp only [Bool.not_true, cond_false, cond_true]
   rw [show subL s (((0 + 1 + 1 + 1 + 1 + 1 + 1 : Nat)) : Int) = some (s.drop 6) from zrE (n := 6) (by omega)]
   rfl
 ·rw [zbE (by exact h), zaA]
  have e : (s.take 6 == zdU) = false := by
   cases hb : s.take 6 == zdU with
   | false => rfl
   | true =>
    have := congrArg List.length (beq_iff_eq.1 hb)
    simp at this
    omega
  rw [e]
  rfl
theorem yuE {u : L8} {l : List L8} {c : CrT} (hu : nmB u = true) (hl : u.length ≤ 1048576) (h : zqO u l = some c) : VCr u c ∧ zlO c = l := by
 unfold zqO at h
 split at h
 ·rename_i s hh o st f t n r
  split at h
  ·rename_i vs vf vt vn e1 e2 e3 e4
   cases hb : ((s.length : Int) == 16) && ((hh.length : Int) == 32) && otpB o with
   | false => rw [hb] at h; cases h
   | true =>
    rw [hb] at h
    simp only [cond_true] at h
    split at h
    ·rename_i ks hk
     cases h
     obtain ⟨n1, n2, n3⟩ := zgP e1
     obtain ⟨f1, f2, f3⟩ := zgP e2
     obtain ⟨t1, t2, t3⟩ := zgP e3
     obtain ⟨k1, k2, k3⟩ := zgP e4
     obtain ⟨new, g1, g2, g3, g4, g5⟩ := ztG hk
     have g1 : ks = new := by simpa using g1
     subst g1
     simp only [Bool.and_eq_true, beq_iff_eq] at hb
     have hkl : ks.length = vaF n := by rw [g2, k2, Int.toNat_natCast]
     have ho : o = [] ∨ (16 ≤ o.length ∧ o.length ≤ 64) := by
      have := hb.2
      unfold otpB at this
      rw [Bool.or_eq_true, Bool.and_eq_true, decide_eq_true_eq, decide_eq_true_eq] at this
      rcases this with h | h
      ·exact .inl (by simpa using h)
      ·exact .inr ⟨by omega, by omega⟩
     refine ⟨xeL (by rw [xaI, hu]) hl (by have := hb.1.1; omega) (by have := hb.1.2; omega) ho ⟨by omega, by omega⟩ ⟨by omega, by omega⟩ ⟨by omega, by omega⟩ (by omega) (fun k hk => ydD (g4 k hk)) (g5 .nil), ?_⟩
     unfold zlO zyN
     simp only []
     rw [n2, f2, t2, hkl, Int.toNat_natCast, Int.toNat_natCast, Int.toNat_natCast, (zmI n1).1, (zmI f1).1, (zmI t1).1, (zmI k1).1, g3]
     simp
    ·cases h
  ·cases h
 ·cases h
theorem yyG {x : L8 × L8} {c : CrT} (h1 : x.1.length ≤ 1048576) (h : rowF x = some c) : VCr (x.1.drop 6) c ∧ rowC c = x := by
 unfold rowF at h
 cases hb : (x.1.take 6 == zdU) && nmB (x.1.drop 6) && (txtP x.2).2 with
 | false => rw [hb] at h; cases h
 | true =>
  rw [hb] at h
  simp only [cond_true] at h
  simp only [Bool.and_eq_true] at hb
  obtain ⟨g1, g2⟩ := yuE hb.1.2 (by rw [List.length_drop]; omega) h
  refine ⟨g1, ?_⟩
  unfold rowC
  refine Prod.ext ?_ ?_
  ·show zdU ++ c.1 = x.1
   rw [g1.user, ← beq_iff_eq.1 hb.1.1, List.take_append_drop]
  ·show zfW (zlO c) = x.2
   rw [g2, ymF hb.2]
theorem yxY (x : L8 × L8) (h1 : x.1.length ≤ 1048576) (h2 : x.2.length ≤ 1048576) : T (zkT zaB x) fun r => r.2 = (rowF x).isSome ∧ ∀ c, rowF x = some c → r.1 = c := by
 have hs := yuH h2
 unfold zkT rowF
 rw [show zcV zaB x.1 ([108, 111, 103, 105, 110, 47] : L8) = _ from cutl x.1, zaA, ynK h2, zaA]
 generalize txtP x.2 = tp at hs ⊢
 obtain ⟨l, ok⟩ := tp
 simp only at hs ⊢
 have no : ∀ {o : Option CrT} {z : CrT}, o = none → T (some (z, false)) fun r => r.2 = o.isSome ∧ ∀ c, o = some c → r.1 = c := fun {o z} h => by
  subst h
  exact T.ok ⟨rfl, fun c h => by cases h⟩
 have hj : ∀ {v : L8 × Bool}, zmT zaB v (l, ok) = some (bif v.2 && ok && decide (7 ≤ l.length) && nmB v.1 then .inr ([], [], [], [], 0, 0, 0) else .inl (false, [], [], [], [], 0, 0, 0)) := fun {v} => by
  unfold zmT
  cases v.2 with
  | false => rfl
  | true =>
   cases ok with
   | false => rfl
   | true =>
    simp only [Bool.not_true, cond_false, Bool.true_and]
    by_cases h7 : (l.length : Int) < 7
    ·rw [zaY h7, decide_eq_false (show ¬ 7 ≤ l.length by omega)]; rfl
    ·rw [zbE h7, decide_eq_true (show 7 ≤ l.length by omega), xaI, zaA]
     cases nmB v.1 <;> rfl
 rw [hj, zaA]
 cases ht : x.1.take 6 == zdU with
 | false => exact no rfl
 | true =>
  simp only [cond_true, Bool.true_and]
  cases ok with
  | false => exact no (by rw [Bool.and_false]; rfl)
  | true =>
   simp only [Bool.true_and, Bool.and_true]
   by_cases h7 : 7 ≤ l.length
   ·rw [decide_eq_true h7, Bool.true_and]
    cases hn : nmB (x.1.drop 6) with
    | false => exact no rfl
    | true =>
     simp only [cond_true]
     obtain ⟨s, h, o, st, f, t, n, r, rfl⟩ : ∃ s h o st f t n r, l = s :: h :: o :: st :: f :: t :: n :: r := by
      match l, h7 with
      | s :: h :: o :: st :: f :: t :: n :: r, _ => exact ⟨s, h, o, st, f, t, n, r, rfl⟩
     have hr : Sml r := hs.drop 7
     rw [show idx (s :: h :: o :: st :: f :: t :: n :: r) 0 = some s from rfl, zaA, show idx (s :: h :: o :: st :: f :: t :: n :: r) 1 = some h from rfl, zaA, show idx (s :: h :: o :: st :: f :: t :: n :: r) 2 = some o from rfl, zaA, show idx (s :: h :: o :: st :: f :: t :: n :: r) 3 = some st from rfl, zaA, show idx (s :: h :: o :: st :: f :: t :: n :: r) 4 = some f from rfl, zaA, show idx (s :: h :: o :: st :: f :: t :: n :: r) 5 = some t from rfl, zaA, ybT st (hs.2 st (by simp)), zaA, ybT f (hs.2 f (by simp)), zaA, ybT t (hs.2 t (by simp)), zaA, show idx (s :: h :: o :: st :: f :: t :: n :: r) 6 = some n from rfl, zaA, ybT n (hs.2 n (by simp)), zaA, show subL (s :: h :: o :: st :: f :: t :: n :: r) 7 = some r from yhO [s, h, o, st, f, t, n] r rfl, zaA]
     unfold zqO
     simp only []
     have hj1 : ∀ {a b c d : Int}, znG zaB (x.1.drop 6, true) (([], [], [], [], 0, 0, 0) : L8 × L8 × L8 × L8 × Int × Int × Int) s h o a b c d r = some (bif decide (0 ≤ a) && decide (0 ≤ b) && decide (0 ≤ c) && decide (0 ≤ d) && ((r.length : Int) == w64 (4 * d)) && ((s.length : Int) == 16) && ((h.length : Int) == 32) then .inr ([], [], [], [], 0, 0, 0, x.1.drop 6, s, h, o, a, b, c) else .inl (false, [], [], [], [], 0, 0, 0)) := fun {a b c d} => by
      unfold znG
      by_cases q1 : a < 0
      ·rw [zaY q1, decide_eq_false (show ¬ 0 ≤ a by omega)]; rfl
      ·rw [zbE q1, decide_eq_true (show 0 ≤ a by omega)]
       by_cases q2 : b < 0
       ·rw [zaY q2, decide_eq_false (show ¬ 0 ≤ b by omega)]; rfl
       ·rw [zbE q2, decide_eq_true (show 0 ≤ b by omega)]
        by_cases q3 : c < 0
        ·rw [zaY q3, decide_eq_false (show ¬ 0 ≤ c by omega)]; rfl
        ·rw [zbE q3, decide_eq_true (show 0 ≤ c by omega)]
         by_cases q4 : d < 0
         ·rw [zaY q4, decide_eq_false (show ¬ 0 ≤ d by omega)]; rfl
         ·rw [zbE q4, decide_eq_true (show 0 ≤ d by omega)]
          unfold bne
          cases ((r.length : Int) == w64 (4 * d)) with
          | false => rfl
          | true =>
           cases ((s.length : Int) == 16) with
           | false => rfl
           | true => cases ((h.length : Int) == 32) <;> rfl
     rw [hj1, zaA]
     cases e1 : numM st 2199023255552 with
     | none => exact no rfl
     | some vs =>
      cases e2 : numM f 4 with
      | none => simp only [Option.getD_some, Option.getD_none]; rw [show decide ((0 : Int) ≤ -1) = false from rfl]; simp only [Bool.and_false, Bool.false_and]; exact no rfl
      | some vf =>
       cases e3 : numM t 2199023255552 with
       | none => simp only [Option.getD_some, Option.getD_none]; rw [show decide ((0 : Int) ≤ -1) = false from rfl]; simp only [Bool.and_false, Bool.false_and]; exact no rfl
       | some vt =>
        cases e4 : numM n 4 with
        | none => simp only [Option.getD_some, Option.getD_none]; rw [show decide ((0 : Int) ≤ -1) = false from rfl]; simp only [Bool.and_false, Bool.false_and]; exact no rfl
        | some vn =>
         obtain ⟨_, n2, n3⟩ := zgP e1
         obtain ⟨_, f2, f3⟩ := zgP e2
         obtain ⟨_, t2, t3⟩ := zgP e3
         obtain ⟨_, k2, k3⟩ := zgP e4
         simp only [Option.getD_some]
         rw [decide_eq_true (show 0 ≤ vs by omega), decide_eq_true (show 0 ≤ vf by omega), decide_eq_true (show 0 ≤ vt by omega), decide_eq_true (show 0 ≤ vn by omega), zcP (by omega) (by omega)]
         simp only [Bool.true_and]
         obtain ⟨m, rfl⟩ : ∃ m : Nat, vn = m := ⟨vn.toNat, by omega⟩
         simp only [Int.toNat_natCast]
         cases hr4 : ((r.length : Int) == 4 * (m : Int)) with
         | false =>
          simp only [Bool.false_and, cond_false]
          refine no ?_
          cases ((s.length : Int) == 16) && ((h.length : Int) == 32) && otpB o with
          | false => rfl
          | true =>
           simp only [cond_true]
           split
           ·rename_i ks hk
            have := yeF hk
            rw [beq_eq_false_iff_ne] at hr4
            simp only [List.length_nil] at this
            omega
           ·rfl
         | true =>
          have hr4 : r.length = 4 * m := by have := beq_iff_eq.1 hr4; omega
          simp only [Bool.true_and]
          cases hsl : ((s.length : Int) == 16) with
          | false => exact no rfl
          | true =>
           cases hhl : ((h.length : Int) == 32) with
           | false => exact no rfl
           | true =>
            simp only [Bool.true_and, cond_true]
            rw [show iter _ (r, ([] : L8), ([] : L8), ([] : L8), ([] : L8), (0 : Int), (0 : Int), (0 : Int), x.1.drop 6, s, h, o, vs, vf, vt, ([] : List KeyT)) = _ from yiK [] [] [] [] 0 0 0 (x.1.drop 6) s h o vs vf vt m r [] FU hr4 (by unfold FU; omega) (by simp; omega) hr, zaA]
            cases hk : zqF m r [] with
            | none =>
             simp only []
             refine no ?_
             cases otpB o <;> rfl
            | some p =>
             obtain ⟨l', ks⟩ := p
             have hl' : l' = [] := List.eq_nil_of_length_eq_zero (by have := yeF hk; omega)
             subst hl'
             simp only []
             unfold otpB
             cases o == ([] : L8) with
             | true => exact T.ok ⟨rfl, fun c h => osi h⟩
             | false =>
              simp only [cond_false, Bool.false_or]
              rw [yxL, zaA]
              cases decide ((16 : Int) ≤ (o.length : Int)) && decide ((o.length : Int) ≤ 64) with
              | true => exact T.ok ⟨rfl, fun c h => osi h⟩
              | false => exact no rfl
   ·rw [decide_eq_false h7]
    refine no ?_
    have : zqO (x.1.drop 6) l = none := by
     unfold zqO
     split
     ·simp only [List.length_cons] at h7; omega
     ·rfl
    rw [this]
    cases nmB (x.1.drop 6) <;> rfl
theorem dj3 (v : L8 × L8 × L8 × L8 × Int × Int × Int × List L8 × Bool × CrT) : zeT zaB v = some (otpB v.2.2.2.2.2.2.2.2.2.2.2.2.1, v) := by
 unfold zeT otpB
 cases v.2.2.2.2.2.2.2.2.2.2.2.2.1 == ([] : L8) with
 | true => rfl
 | false =>
  simp only [cond_false, Bool.false_or]
  by_cases h : (v.2.2.2.2.2.2.2.2.2.2.2.2.1.length : Int) ≥ 16
  ·rw [zaY h, decide_eq_true (show (16 : Int) ≤ (v.2.2.2.2.2.2.2.2.2.2.2.2.1.length : Int) from h), Bool.true_and]
  ·rw [zbE h, decide_eq_false (show ¬ (16 : Int) ≤ (v.2.2.2.2.2.2.2.2.2.2.2.2.1.length : Int) from h)]; rfl
theorem invM {m : Int} {l : List L8} {q : Bool} (hm : 0 ≤ m) (h : (rdM 0 m l q).2.2 = false) : q = false ∧ ∃ d, l = d :: (rdM 0 m l q).2.1 ∧ numM d m = some (rdM 0 m l q).1 := by
 cases q with
 | true => rw [xdA] at h; cases h
 | false =>
  cases l with
  | nil => cases h
  | cons d r =>
   rw [ztD m d r hm] at h ⊢
   cases hn : numM d m with
   | none => rw [hn] at h; cases h
   | some v => exact ⟨rfl, d, rfl, hn⟩
theorem ykP {u : L8} {l : List L8} {c : CrT} (h : zqO u l = some c) : ∃ s hh o st f t n r vs vf vt vn, l = s :: hh :: o :: st :: f :: t :: n :: r ∧ numM st 2199023255552 = some vs ∧ numM f 4 = some vf ∧ numM t 2199023255552 = some vt ∧ numM n 4 = some vn := by
 unfold zqO at h
 split at h
 ·rename_i s hh o st f t n r
  split at h
  ·rename_i vs vf vt vn e1 e2 e3 e4
   exact ⟨s, hh, o, st, f, t, n, r, vs, vf, vt, vn, rfl, e1, e2, e3, e4⟩
  ·cases h
 ·cases h
theorem yxP (x : L8 × L8) (h1 : x.1.length ≤ 1048576) (h2 : x.2.length ≤ 1048576) : T (zdD zaB x) fun r => r.2 = (rowF x).isSome ∧ ∀ c, rowF x = some c → r.1 = c := by
 have no : ∀ {o : Option CrT} {z : CrT}, o = none → T (some (z, false)) fun r => r.2 = o.isSome ∧ ∀ c, o = some c → r.1 = c := fun {o z} h => by
  subst h
  exact T.ok ⟨rfl, fun c h => by cases h⟩
 unfold zdD
 have hj : zeS zaB x = some (bif (x.1.take 6 == zdU) && nmB (x.1.drop 6) then .inr (x.1, x.2, [], [], [], [], 0, 0, 0) else .inl (false, [], [], [], [], 0, 0, 0)) := by
  unfold zeS
  by_cases h7 : (x.1.length : Int) < 7
  ·rw [zaY h7]
   cases ht : x.1.take 6 == zdU with
   | false => rfl
   | true =>
    have h6 := congrArg List.length (beq_iff_eq.1 ht)
    rw [List.length_take] at h6
    have h6 : min 6 x.1.length = 6 := h6
    have e : x.1.drop 6 = [] := List.drop_eq_nil_of_le (by omega)
    rw [e, xeH]
    rfl
  ·rw [zbE h7, show subH x.1 6 = some (x.1.take 6) from zqS (n := 6) (by omega), zaA]
   unfold bne
   cases x.1.take 6 == zdU with
   | false => rfl
   | true =>
    simp only [Bool.not_true, cond_false, Bool.true_and]
    rw [show subL x.1 6 = some (x.1.drop 6) from zrE (n := 6) (by omega), zaA, yrM (by rw [List.length_drop]; omega), zaA]
    cases nmB (x.1.drop 6) <;> rfl
 rw [hj, zaA]
 unfold rowF
 cases hb : (x.1.take 6 == zdU) && nmB (x.1.drop 6) with
 | false => exact no (by rw [Bool.false_and]; rfl)
 | true =>
  have h6 : 6 ≤ x.1.length := by
   rw [Bool.and_eq_true] at hb
   have := congrArg List.length (beq_iff_eq.1 hb.1)
   rw [List.length_take] at this
   have : min 6 x.1.length = 6 := this
   omega
  simp only [cond_true, Bool.true_and]
  rw [ymU h2, zaA, show subL x.1 6 = some (x.1.drop 6) from zrE (n := 6) (by omega), zaA]
  generalize x.1.drop 6 = u
  generalize txtP x.2 = tp
  obtain ⟨l, ok⟩ := tp
  simp only []
  rw [zrJ, zaA, zrJ, zaA, zrJ, zaA, ydQ, zaA, ydQ, zaA, ydQ, zaA, ydQ, zaA]
  -- the texts, one by one
  generalize g1 : rdT l false = t1
  generalize g2 : rdT t1.2.1 t1.2.2 = t2
  generalize g3 : rdT t2.2.1 t2.2.2 = t3
  generalize g4 : rdM 0 2199023255552 t3.2.1 t3.2.2 = t4
  generalize g5 : rdM 0 4 t4.2.1 t4.2.2 = t5
  generalize g6 : rdM 0 2199023255552 t5.2.1 t5.2.2 = t6
  generalize g7 : rdM 0 4 t6.2.1 t6.2.2 = t7
  have hb7 : 0 ≤ t7.1 ∧ t7.1 ≤ 4 := by
   rw [← g7]
   refine ⟨ywZ _ _, ?_⟩
   unfold rdM
   cases hc : !(numR (rdT t6.2.1 t6.2.2).1).2 || (decide ((numR (rdT t6.2.1 t6.2.2).1).1 < 0) || decide ((numR (rdT t6.2.1 t6.2.2).1).1 > 4)) with
   | true => simp only [cond_true]; omega
   | false =>
    simp only [Bool.or_eq_false_iff, decide_eq_false_iff_not] at hc
    simp only [cond_false]
    omega
  obtain ⟨m, hm⟩ : ∃ m : Nat, t7.1 = m := ⟨t7.1.toNat, by omega⟩
  rw [show iter _ ((0 : Int), ([] : L8), ([] : L8), ([] : L8), ([] : L8), (0 : Int), (0 : Int), (0 : Int), t7.2.1, t7.2.2, u, t1.1, t2.1, t3.1, t4.1, t5.1, t6.1, ([] : List KeyT)) = _ from yhS t7 m hm (by omega) [] [] [] [] 0 0 0 u t1.1 t2.1 t3.1 t4.1 t5.1 t6.1 m 0 t7.2.1 t7.2.2 [] FU (by omega) (by unfold FU; omega) rfl, zaA]
  cases hq : t7.2.2 with
  | true =>
   have hn : zqO u l = none := by
    cases hc : zqO u l with
    | none => rfl
    | some c =>
     obtain ⟨s, hh, o, st, f, t, n, r, vs, vf, vt, vn, rfl, e1, e2, e3, e4⟩ := ykP hc
     have k1 : t1 = (s, hh :: o :: st :: f :: t :: n :: r, false) := g1.symm
     subst k1
     have k2 : t2 = (hh, o :: st :: f :: t :: n :: r, false) := g2.symm
     subst k2
     have k3 : t3 = (o, st :: f :: t :: n :: r, false) := g3.symm
     subst k3
     have k4 : t4 = (vs, f :: t :: n :: r, false) := by rw [← g4]; simp only []; rw [ztD _ _ _ (by decide), e1]; rfl
     subst k4
     have k5 : t5 = (vf, t :: n :: r, false) := by rw [← g5]; simp only []; rw [ztD _ _ _ (by decide), e2]; rfl
     subst k5
     have k6 : t6 = (vt, n :: r, false) := by rw [← g6]; simp only []; rw [ztD _ _ _ (by decide), e3]; rfl
     subst k6
     have k7 : t7 = (vn, r, false) := by rw [← g7]; simp only []; rw [ztD _ _ _ (by decide), e4]; rfl
     subst k7
     cases hq
   have hn2 : (bif ok then zqO u l else none) = none := by rw [hn]; cases ok <;> rfl
   cases hk : zuE m t7.2.1 true [] with
   | inl ks' => exact no hn2
   | inr p =>
    obtain ⟨l', q', ks'⟩ := p
    have : q' = true := yaV hk
    subst this
    simp only []
    rw [dj3, zaA]
    simp only [Bool.not_true, cond_false]
    cases ok <;> exact no hn2
  | false =>
   have h7 := hq
   rw [← g7] at h7
   obtain ⟨q6, d7, l7, e7⟩ := invM (by decide) h7
   rw [g7] at l7 e7
   have h6' := q6
   rw [← g6] at h6'
   obtain ⟨q5, d6, l6, e6⟩ := invM (by decide) h6'
   rw [g6] at l6 e6
   have h5 := q5
   rw [← g5] at h5
   obtain ⟨q4, d5, l5, e5⟩ := invM (by decide) h5
   rw [g5] at l5 e5
   have h4 := q4
   rw [← g4] at h4
   obtain ⟨q3, d4, l4, e4⟩ := invM (by decide) h4
   rw [g4] at l4 e4
   have h3 := q3
   rw [← g3] at h3
   obtain ⟨q2, l3⟩ := invT h3
   rw [g3] at l3
   have h2' := q2
   rw [← g2] at h2'
   obtain ⟨q1, l2⟩ := invT h2'
   rw [g2] at l2
   have h1' := q1
   rw [← g1] at h1'
   obtain ⟨_, l1⟩ := invT h1'
   rw [g1] at l1
   have hl : l = t1.1 :: t2.1 :: t3.1 :: d4 :: d5 :: d6 :: d7 :: t7.2.1 := by rw [l1, l2, l3, l4, l5, l6, l7]
   have hcred : zqO u l = bif ((t1.1.length : Int) == 16) && ((t2.1.length : Int) == 32) && otpB t3.1 then (match zqF m t7.2.1 [] with
     | some ([], ks) => some (u, t1.1, t2.1, t3.1, t4.1, t5.1, t6.1, ks)
     | _ => none) else none := by
    rw [hl]
    unfold zqO
    simp only [e4, e5, e6, e7, hm, Int.toNat_natCast]
   have hone := yhD m t7.2.1 []
   cases hk : zqF m t7.2.1 [] with
   | none =>
    rw [hk] at hone hcred
    have hn : zqO u l = none := by rw [hcred]; cases ((t1.1.length : Int) == 16) && ((t2.1.length : Int) == 32) && otpB t3.1 <;> rfl
    have hn2 : (bif ok then zqO u l else none) = none := by rw [hn]; cases ok <;> rfl
    cases hk2 : zuE m t7.2.1 false [] with
    | inl ks' => exact no hn2
    | inr p =>
     obtain ⟨l', q', ks'⟩ := p
     have : q' = true := hone _ _ _ hk2
     subst this
     simp only []
     rw [dj3, zaA]
     simp only [Bool.not_true, cond_false]
     cases ok <;> exact no hn2
   | some p =>
    obtain ⟨l', ks'⟩ := p
    rw [hk] at hone hcred
    simp only [] at hone
    rw [hone]
    simp only []
    rw [dj3, zaA, hcred]
    simp only [Bool.not_false, cond_true]
    cases ok with
    | false => exact no rfl
    | true =>
     simp only [cond_true]
     cases l' with
     | cons a l' =>
      have e : (((a :: l').length : Int) == 0) = false := beq_eq_false_iff_ne.2 (by simp only [List.length_cons]; omega)
      rw [e]
      simp only [cond_false]
      exact no (by cases ((t1.1.length : Int) == 16) && ((t2.1.length : Int) == 32) && otpB t3.1 <;> rfl)
     | nil =>
      rw [show ((([] : List L8).length : Int) == 0) = true from rfl]
      simp only [cond_true]
      cases ((t1.1.length : Int) == 16) with
      | false => exact no rfl
      | true =>
       cases ((t2.1.length : Int) == 32) with
       | false => exact no rfl
       | true =>
        cases otpB t3.1 with
        | false => exact no rfl
        | true => exact T.ok ⟨rfl, fun c h => osi h⟩
structure VEr (es : List (L8 × CrT)) : Prop where
 rises : yuA es
 each : ∀ p ∈ es, VCr p.1 p.2
theorem yxA {a b : L8} : (Op.bytesLess (zdU ++ b) (zdU ++ a) || zdU ++ b == zdU ++ a) = !(kltS a b) := by
 cases h : kltS a b with
 | true =>
  have := key_lt (zzU.1 h)
  rw [this.1, this.2]; rfl
 | false =>
  rw [Bool.not_false, Bool.or_eq_true]
  by_cases e : a = b
  ·subst e; exact .inr (beq_self_eq_true _)
  ·left
   have hlt : b < a := xcX (fun h2 => by rw [zzU.2 h2] at h; cases h) e
   have hlt2 : zdU ++ b < zdU ++ a := by
    show ([108, 111, 103, 105, 110, 47] ++ b : Bs) < [108, 111, 103, 105, 110, 47] ++ a
    simp only [List.cons_append, List.nil_append, List.cons_lt_cons_iff, hlt, and_true, or_true]
   rw [bytesLess_eq]
   exact decide_eq_true hlt2
theorem yiN {rows : List (L8 × L8)} (hb : ∀ x ∈ rows, x.1.length ≤ 1048576 ∧ x.2.length ≤ 1048576) (hl : rows.length ≤ 1048576) : ∀ (f i : Nat) (es : List (L8 × CrT)) (k k2 : Nat), i + f = rows.length → f < k → f < k2 → VEr es → (es.map (·.2)).map rowC = rows.take i →
  (zlC (fun x : Int × List (L8 × CrT) => zdM zaB rows x.1 x.2) k ((i : Int), es) = some (.inl 155) ∧ zlC (fun x : Int × List CrT => zaR zaB rows x.1 x.2) k2 ((i : Int), es.map (·.2)) = some (.inl 155)) ∨
  ∃ es', zlC (fun x : Int × List (L8 × CrT) => zdM zaB rows x.1 x.2) k ((i : Int), es) = some (.inr es') ∧ zlC (fun x : Int × List CrT => zaR zaB rows x.1 x.2) k2 ((i : Int), es.map (·.2)) = some (.inr (es'.map (·.2))) ∧ VEr es' ∧ (es'.map (·.2)).map rowC = rows
 | 0, i, es, k + 1, k2 + 1, hf, _, _, h, he => by
  right
  refine ⟨es, zbT ?_, zbT ?_, h, by rw [he, List.take_of_length_le (by omega)]⟩
  ·unfold zdM
   simp only []
   rw [zbE (by omega)]
  ·unfold zaR
   simp only []
   rw [zbE (by omega)]
 | f + 1, i, es, k + 1, k2 + 1, hf, hk, hk2, h, he => by
  have hi : i < rows.length := by omega
  have hlen : es.length = i := by
   have := congrArg List.length he
   rw [List.length_map, List.length_map, List.length_take] at this
   omega
  have hx := hb _ (List.getElem_mem hi)
  obtain ⟨r1, a1, a2, a3⟩ := yxY rows[i] hx.1 hx.2
  obtain ⟨r2, b1, b2, b3⟩ := yxP rows[i] hx.1 hx.2
  cases hr : rowF rows[i] with
  | none =>
   rw [hr] at a2 b2
   left
   refine ⟨zbT ?_, zbT ?_⟩
   ·unfold zdM
    simp only []
    rw [zaY (show (i : Int) < (rows.length : Int) by omega), zdC rfl hi, zaA, a1, zaA]
    unfold zgU
    rw [a2]
    rfl
   ·unfold zaR
    simp only []
    rw [zaY (show (i : Int) < (rows.length : Int) by omega), zdC rfl hi, zaA, b1, zaA]
    unfold zbN
    rw [b2]
    rfl
  | some c =>
   have hr1 : r1 = (c, true) := Prod.ext (a3 c hr) (by rw [a2, hr]; rfl)
   have hr2 : r2 = (c, true) := Prod.ext (b3 c hr) (by rw [b2, hr]; rfl)
   subst hr1
   subst hr2
   obtain ⟨hv, hrow⟩ := yyG hx.1 hr
   have hv : VCr c.1 c := by rw [hv.user]; exact hv
   have hkey : rows[i].1 = zdU ++ c.1 := by rw [← hrow]; rfl
   have cases_ : (zgU zaB rows (i : Int) es rows[i] (c, true) = some (.inl 155) ∧ zbN zaB rows (i : Int) (es.map (·.2)) (c, true) = some (.inl 155)) ∨
     (zgU zaB rows (i : Int) es rows[i] (c, true) = some (.inr (c.1, c.2.1, c.2.2.1, c.2.2.2.1, c.2.2.2.2.1, c.2.2.2.2.2.1, c.2.2.2.2.2.2.1, c.2.2.2.2.2.2.2, es)) ∧ zbN zaB rows (i : Int) (es.map (·.2)) (c, true) = some (.inr (c.1, c.2.1, c.2.2.1, c.2.2.2.1, c.2.2.2.2.1, c.2.2.2.2.2.1, c.2.2.2.2.2.2.1, c.2.2.2.2.2.2.2, es.map (·.2))) ∧ ∀ p ∈ es, p.1 < c.1) := by
    unfold zgU zbN
    simp only [Bool.not_true, cond_false]
    rcases Nat.eq_zero_or_pos i with h0 | h0
    ·right
     rw [zbE (by omega), zbE (by omega)]
     refine ⟨rfl, rfl, fun p hp => ?_⟩
     have : es = [] := List.eq_nil_of_length_eq_zero (by omega)
     rw [this] at hp; cases hp
    ·have hj : i - 1 < es.length := by omega
     have hj2 : i - 1 < rows.length := by omega
     have hprev : rows[i - 1] = rowC es[i - 1].2 := by
      have h1 : ((es.map (·.2)).map rowC)[i - 1]? = (rows.take i)[i - 1]? := by rw [he]
      rw [List.getElem?_take, if_pos (by omega), List.getElem?_eq_getElem hj2, List.getElem?_map, List.getElem?_map, List.getElem?_eq_getElem hj] at h1
      exact (osi h1).symm
     have hpk : rows[i - 1].1 = zdU ++ es[i - 1].1 := by
      rw [hprev, ← (h.each _ (List.getElem_mem hj)).user]; rfl
     rw [zaY (by omega), zaY (by omega), zcP (by omega) (by omega), zdC (i := i - 1) (by omega) hj2, zaA, zdC rfl hi, zaA, zaA, hkey, hpk, yxA]
     cases hlt : kltS es[i - 1].1 c.1 with
     | false => left; exact ⟨rfl, rfl⟩
     | true =>
      right
      refine ⟨rfl, rfl, fun p hp => ?_⟩
      obtain ⟨j, hj3, rfl⟩ := List.getElem_of_mem hp
      have hl2 := zzU.1 hlt
      by_cases hje : j = i - 1
      ·subst hje; exact hl2
      ·exact List.lt_trans (List.pairwise_iff_getElem.1 h.rises j (i - 1) hj3 hj (by omega)) hl2
   rcases cases_ with ⟨c1, c2⟩ | ⟨c1, c2, c3⟩
   ·left
    refine ⟨zbT ?_, zbT ?_⟩
    ·unfold zdM
     simp only []
     rw [zaY (show (i : Int) < (rows.length : Int) by omega), zdC rfl hi, zaA, a1, zaA, c1, zaA]
    ·unfold zaR
     simp only []
     rw [zaY (show (i : Int) < (rows.length : Int) by omega), zdC rfl hi, zaA, b1, zaA, c2, zaA]
   ·have s1 : zdM zaB rows (i : Int) es = some (.inl (((i + 1 : Nat) : Int), es ++ [(c.1, c)])) := by
     unfold zdM
     rw [zaY (show (i : Int) < (rows.length : Int) by omega), zdC rfl hi, zaA, a1, zaA, c1, zaA]
     simp only []
     rw [zzP (by omega), show mset keqS kltS es c.1 (c.1, c.2.1, c.2.2.1, c.2.2.2.1, c.2.2.2.2.1, c.2.2.2.2.2.1, c.2.2.2.2.2.2.1, c.2.2.2.2.2.2.2) = _ from ymL c3]
    have s2 : zaR zaB rows (i : Int) (es.map (·.2)) = some (.inl (((i + 1 : Nat) : Int), (es ++ [(c.1, c)]).map (·.2))) := by
     unfold zaR
     rw [zaY (show (i : Int) < (rows.length : Int) by omega), zdC rfl hi, zaA, b1, zaA, c2, zaA]
     simp only []
     rw [zdO (by rw [List.length_map]; simp only [List.length_cons, List.length_nil]; omega), zaA, zzP (by omega), List.map_append]
     rfl
    have hn : VEr (es ++ [(c.1, c)]) := by
     refine ⟨List.pairwise_append.2 ⟨h.rises, List.pairwise_singleton _ _, fun x hx y hy => ?_⟩, fun p hp => ?_⟩
     ·rw [List.mem_singleton.1 hy]; exact c3 x hx
     ·rcases List.mem_append.1 hp with hp | hp
      ·exact h.each p hp
      ·rw [List.mem_singleton.1 hp]; exact hv
    have hnew := yiN hb hl f (i + 1) (es ++ [(c.1, c)]) k k2 (by omega) (by omega) (by omega) hn (by rw [List.map_append, List.map_append, he, List.take_succ_eq_append_getElem hi, ← hrow]; rfl)
    rw [zgK s1, zgK s2]
    exact hnew
theorem yrZ {rows : List (L8 × L8)} (hb : ∀ x ∈ rows, x.1.length ≤ 1048576 ∧ x.2.length ≤ 1048576) (hl : rows.length ≤ 1048576) :
  (zgI zaB rows = some (.inl 155) ∧ zbI zaB rows = some (.inl 155)) ∨
  ∃ es, zgI zaB rows = some (.inr (0, es)) ∧ zbI zaB rows = some (.inr (0, es.map (·.2))) ∧ VEs es ∧ (es.map (·.2)).map rowC = rows := by
 unfold zgI zbI
 rw [show zmG zaB = some [] from rfl, zaA]
 rcases yiN hb hl rows.length 0 [] FU FU (by omega) (by unfold FU; omega) (by unfold FU; omega) ⟨.nil, fun p hp => by cases hp⟩ rfl with ⟨h1, h2⟩ | ⟨es, h1, h2, h3, h4⟩
 ·left
  rw [show iter _ ((0 : Int), ([] : List (L8 × CrT))) = _ from h1, show iter _ ((0 : Int), ([] : List CrT)) = _ from h2]
  exact ⟨rfl, rfl⟩
 ·rw [show iter _ ((0 : Int), ([] : List (L8 × CrT))) = _ from h1, show iter _ ((0 : Int), ([] : List CrT)) = _ from h2, zaA, zaA]
  simp only []
  by_cases h64 : (rows.length : Int) > 64
  ·left; rw [zaY h64, zaY h64]; exact ⟨rfl, rfl⟩
  ·right
   rw [zbE h64, zbE h64]
   refine ⟨es, rfl, rfl, ⟨h3.rises, ?_, h3.each⟩, h4⟩
   have := congrArg List.length h4
   rw [List.length_map, List.length_map] at this
   omega
theorem yxM (rows : List (L8 × L8)) (hl : rows.length ≤ 1048576) (hb : ∀ x ∈ rows, x.1.length ≤ 1048576 ∧ x.2.length ≤ 1048576) : zbO zaB rows = some true := by
 have hB : ∀ w : L8 × L8, Option.bind (subH (rows ++ [w]) (w64 ((rows.length : Int) + 1))) (fun v11 => idx v11 (rows.length : Int)) = some w := fun w => by
  rw [zzP (by omega), zqS (by simp), zaA, List.take_of_length_le (by simp), zdC (i := rows.length) rfl (by simp)]
  simp
 unfold zbO
 rw [yiO rows (by omega), zaA, zdO (by simp; omega), zaA, zqS (by simp), zaA]
 simp only [Int.toNat_natCast, List.take_left]
 have hB2 := hB (([98, 101, 104, 105, 110, 100] : L8), ([] : L8))
 obtain ⟨tl, ht1, ht2⟩ := bnd hB2
 rcases yrZ hb hl with ⟨e1, e2⟩ | ⟨es, e1, e2, h, e3⟩
 ·rw [e1, zaA]
  simp only []
  rw [e2, zaA]
  simp only []
  have hj : zcH zaB rows (rows ++ [(([98, 101, 104, 105, 110, 100] : L8), ([] : L8))]) 155 155 = some (.inr ()) := by
   unfold zcH
   simp only [bne_self_eq_false, cond_false, Int.toNat_natCast, List.take_left]
   rw [zsO rows hl, zaA]
   simp only [Bool.not_true, cond_false]
   rw [ht1, zaA, ht2, zaA]
   simp only [bne_self_eq_false, cond_false]
  rw [hj, zaA]
  rfl
 ·rw [e1, zaA]
  simp only []
  rw [e2, zaA]
  simp only []
  have hj : zcK zaB rows (rows ++ [(([98, 101, 104, 105, 110, 100] : L8), ([] : L8))]) (0, es) (0, es.map (·.2)) = some (.inr (es, es.map (·.2))) := by
   unfold zcK
   simp only [bne_self_eq_false, cond_false, Int.toNat_natCast, List.take_left]
   rw [zsO rows hl, zaA]
   simp only [Bool.not_true, cond_false]
   rw [ht1, zaA, ht2, zaA]
   simp only [bne_self_eq_false, cond_false]
  rw [hj, zaA]
  simp only []
  have hlen := h.len
  rw [ywH h, zaA]
  simp only []
  rw [ynS (by rw [List.length_map]; omega) fun c hc => by
   obtain ⟨p, hp, rfl⟩ := List.mem_map.1 hc
   exact (h.each p hp).keys, zaA]
  simp only [cond_true]
  rw [rows_ok h, zaA, e3]
  simp only []
  rw [zsO rows hl, zaA]
  rfl
theorem ylJ (rows : List (L8 × L8)) (hk : dsz (.sl (.pr .s .s)) rows ≤ 1048576) : zbO zaB rows = some true := by
 have h1 : rows.length + 1 ≤ dsz (.sl (.pr .s .s)) rows := ynR (e := .pr .s .s) rfl rows
 refine yxM rows (by omega) fun x hx => ?_
 have h2 : dsz (.pr .s .s) x ≤ dsz (.sl (.pr .s .s)) rows := yuQ (e := .pr .s .s) hx
 have h3 : dsz (.pr .s .s) x = (x.1.length + 1) + (x.2.length + 1) := rfl
 omega
end
end Go.Proofs.YtmkomlbiaebddaaGreatDoor.Am
namespace Go.Proofs.YtmkomlbiaebddaaGreatDoor
open Go Go.RowKit
section
open Go Go.RowKit Go.ChangeShapes Go.WideShapes Go.ChangeAt
attribute [local irreducible] Value.okWide
theorem yzJ {W : World} (h : W.ShapedOpen Tryz.prog) (hL : laidMet Tryz.prog Rows.loginLoadsUptoRow.laid W) : ∃ G : List (Nat × Obj), Am.zjG G ∧ Am.GS G (zkJ W) := by
 obtain ⟨m, hm⟩ := Tryz.laysM219.s1_3 W h
 have hm : W.cell? ⟨0, 0, none⟩ = some (.int .i64 m) := hm
 have h0 : ∃ c E fz, W.heap[0]? = some (.cells c E fz) ∧ c[0]? = some (.int .i64 m) := by
  unfold World.cell? at hm
  split at hm
  ·rename_i c E fz hb
   simp only [Option.isSome_none, if_neg (show ¬ (false = true) by decide)] at hm
   exact ⟨c, E, fz, hb, hm⟩
  ·cases hm
 obtain ⟨c, E, fz, h1, h2⟩ := h0
 have hT := Lib.tabIs_of_head (P := Tryz.prog) (k := .u64) (zs := Lib.pow10Tab) (g := 1) (t := 214) (e := 102) (n := 20) (by kernel_rfl) (by kernel_rfl) (by kernel_rfl) (by kernel_rfl) (by kernel_rfl) (by kernel_rfl) (show laidMet Tryz.prog (("internal/strconv.uint64pow10", Lib.tabData .u64 Lib.pow10Tab) :: _) W from hL.tail.tail)
 have h3 : ∃ T f, W.heap[1]? = some (.cells ymD.toArray T f) := by
  unfold Lib.TabIs World.var? at hT
  rw [show Tryz.prog.globalNamed "internal/strconv.uint64pow10" = some 1 by kernel_rfl, Option.bind_some] at hT
  split at hT
  ·rename_i cs T f hb
   cases hT
   exact ⟨T, f, hb⟩
  ·cases hT
 obtain ⟨T, f, h4⟩ := h3
 refine ⟨[(0, .cells c E fz), (1, .cells ymD.toArray T f)], ⟨fun S hS => ⟨⟨c, E, fz, m, hS _ (List.mem_cons_self ..), h2⟩, T, f, hS _ (List.mem_cons_of_mem _ (List.mem_cons_self ..))⟩⟩, fun p hp => ?_⟩
 rcases List.mem_cons.1 hp with rfl | hp
 ·exact h1
 ·rcases List.mem_cons.1 hp with rfl | hp
  ·exact h4
  ·cases hp
theorem zrG (H : Type) (enc : TypeId × Value → H) (W : World) (base : Nat) (args : Array Value) (ds gs : List (DataW H)) (before : List MemPlace)
  (hval : ∀ (j : Nat) t v, Tryz.f3.params[j]? = some t → args[j]? = some v → Value.okWide Tryz.prog W .any base t v)
  (hW : DataW.Whole enc Tryz.prog Tryz.f3.params.toList Rows.loginLoadsSpec.vars false W args.toList ds gs before) (hk : Rows.uptoSmall H (ds ++ gs) = true) (hsh : W.ShapedOpen Tryz.prog) (hL : laidMet Tryz.prog Rows.loginLoadsUptoRow.laid W) :
  Calls Tryz.prog 3 args W fun e W' => ∃ v, e = .returned v ∧ Rows.loginLoadsSpec.post enc Tryz.prog Tryz.f3 false true false false W args v W' := by
 have hW' := hW
 obtain ⟨p, q, hA0, hV, rfl, _, _⟩ := hW
 have hA : DataW.TrodAll enc Tryz.prog W 0 (fun _ => true) true Tryz.f3.params.toList args.toList ds p := hA0
 rw [Tryz.params3] at hA hval
 obtain ⟨v0, vs0, d0, ds0, p0, q0, hargs, rfl, rfl, t0, r0⟩ := trodAll_cons hA
 obtain ⟨rfl, rfl, rfl⟩ := trodAll_nil r0
 obtain rfl : args = #[v0] := by cases args; simp_all
 obtain ⟨rfl, rfl⟩ := trodVars_none hV
 obtain ⟨x0, e0, b0⟩ := Am.argD_ok (t := (.sl (.pr .s .s))) (show Am.xcQ Tryz.prog 22 (.sl (.pr .s .s)) = true by kernel_rfl) (hval 0 22 v0 rfl rfl) t0
 simp only [List.cons_append, List.nil_append, List.append_nil, Rows.uptoSmall, decide_eq_true_eq, Rows.uptoBulkAll] at hk
 obtain ⟨G, hG, hGS⟩ := yzJ hsh hL
 refine ((Am.zuP (tabs := G) (o := Am.zaB)).ok (zkJ W) W [v0] (x0) true hGS (zyH W) (.cons (Am.xfN e0) .nil) (Am.ylJ x0 (by omega))).mono fun e W' ⟨hx, v, he, hr, _⟩ => ?_
 have hr : [v] = [Value.bool true] := hr
 rw [(List.cons.inj hr).1] at he
 subst he
 refine ⟨_, rfl, yuB (B := 4) (n := 1) (by kernel_rfl) rfl (by kernel_rfl) (by kernel_rfl) (by kernel_rfl) (by kernel_rfl) (fun ds hds => ?_) hW' hx⟩
 match ds, hds with
 | [x0], _ => exact ⟨rfl, rfl, rfl⟩
theorem ytJ : ownKnob Tryz.prog.godebug = none := by kernel_rfl
def zyQ : DataW Unit → LV
 | .lit (.int k n) => [.int k n]
 | .agg l => go l
 | _ => []
where go : List (DataW Unit) → LV
 | [] => []
 | d :: l => zyQ d ++ go l
def zmS (l : LV) : Obj → Obj
 | .cells _ t frozen => .cells l.toArray t frozen
 | o => o
noncomputable def zxG (os : Os) : World := { World.holding Tryz.prog os ⟨#[], #[], []⟩ with heap := (((((((((World.holding Tryz.prog os ⟨#[], #[], []⟩).heap).modify 6 (zmS (zyQ Rows.laid_math_bits_deBruijn32tab))).modify 7 (zmS (zyQ Rows.laid_math_bits_deBruijn64tab))).modify 1 (zmS (zyQ Rows.laid_internal_strconv_uint64pow10))).modify 5 (zmS (zyQ Rows.laid_unicode_utf8_acceptRanges))).modify 3 (zmS [.iface 233 (.pointer (some ⟨(World.holding Tryz.prog os ⟨#[], #[], []⟩).heap.size + 0, 0, none⟩))])).modify 2 (zmS [.iface 233 (.pointer (some ⟨(World.holding Tryz.prog os ⟨#[], #[], []⟩).heap.size + 1, 0, none⟩))])).modify 4 (zmS (zyQ Go.Pinned.utf8First))) ++ #[.cells #[.string ⟨#[118, 97, 108, 117, 101, 32, 111, 117, 116, 32, 111, 102, 32, 114, 97, 110, 103, 101]⟩] 235, .cells #[.string ⟨#[105, 110, 118, 97, 108, 105, 100, 32, 115, 121, 110, 116, 97, 120]⟩] 235] }
theorem zqQ (os : Os) : laidMet Tryz.prog Rows.loginLoadsUptoRow.laid ((zxG os).forCall (fun _ _ => 0) ⟨#[], #[.slice none 0 0], []⟩).memory :=
 laidMet_of_run' 8 (by kernel_rfl) (by kernel_rfl)
theorem zuD (os : Os) {H : Type} (enc : TypeId × Value → H) : ∃ places, DataW.whole enc Tryz.prog ((zxG os).forCall (fun _ _ => 0) ⟨#[], #[.slice none 0 0], []⟩).memory Tryz.f3.params.toList Rows.loginLoadsSpec.vars false (#[.slice none 0 0] : Array Value).toList 8 = some ([.nil], [], places) :=
 ⟨[], by kernel_rfl⟩
set_option maxRecDepth 100000 in
theorem zsP (os : Os) (started : os.Started) (H : Type) (enc : TypeId × Value → H) (F : Stop.Interp) :
  ReturnsInHanded {} Tryz.checked os 3 .any ((Rows.OpenSpec.upto Rows.loginLoadsSpec).preRow enc Tryz.prog Tryz.f3 Rows.loginLoadsUptoRow.domain false Rows.loginLoadsUptoRow.laid) (((Rows.OpenSpec.upto Rows.loginLoadsSpec).at F).post enc Tryz.prog Tryz.f3 false true false false) := by
 obtain ⟨places, hx⟩ := zuD os enc
 refine returnsInHanded_of_row (C := Tryz.checked) (s := Rows.OpenSpec.upto Rows.loginLoadsSpec) ytJ started (by kernel_rfl) Tryz.func3
  (witness_row_at (enc := enc) (C := Tryz.checked) false (zxG os) #[.slice none 0 0] rfl (by kernel_rfl) (by kernel_rfl) (by kernel_rfl)
   (OpenSpec.preRow_of_cond 8 hx (by kernel_rfl) (fun k hk => by cases hk; kernel_rfl) (by kernel_rfl) (zqQ os))) ?_
 intro W base args ds gs before hval hW _ hcond _ hL hsh _
 exact zrG H enc W base args ds gs before hval hW (hcond _ rfl) hsh hL
theorem zxJ : Rows.LoginLoadsUptoSaid :=
 OpenClaim.holds_of_cond 3 Tryz.f3 rfl rfl rfl rfl rfl rfl rfl ⟨rfl, rfl, rfl, rfl, rfl⟩ rfl rfl rfl rfl rfl (by kernel_rfl) Tryz.func3 (by kernel_rfl)
  (of_decide_eq_true (by kernel_rfl)) (by unfold Func.isWrapper; first | (rw [if_pos (by decide +kernel)]; kernel_rfl) | (rw [if_neg (by decide +kernel)]; exact ⟨rfl, rfl⟩))
  (fun os started H enc _ F => by rw [OpenClaim.pre_eq_preRow]; exact zsP os started H enc F)
theorem ztZ (f : FuncId) (fn : Func) (hf : Tryz.pinned.checked.prog.funcNamed "seneschal/seneschallaw15.LoginLoads" = some f) (hfn : Tryz.pinned.checked.prog.funcs[f]? = some fn) :
  true = Tryz.pinned.checked.prog.looks [] ∧ ∀ (j : Nat) t, fn.params[j]? = some t → Tryz.pinned.checked.prog.wantsStandIn t = false := by
 obtain rfl : f = 3 := osi ((show Tryz.prog.funcNamed "seneschal/seneschallaw15.LoginLoads" = some 3 by kernel_rfl).symm.trans hf) |>.symm
 obtain rfl : fn = Tryz.f3 := (osi (Tryz.func3.symm.trans hfn)).symm
 refine ⟨by kernel_rfl, fun j t ht => ?_⟩
 rw [Tryz.params3] at ht
 have hm : t ∈ [22] := by simpa using Array.mem_of_getElem? ht
 have hall : ([22].all fun u => !Tryz.prog.wantsStandIn u) = true := by kernel_rfl
 exact (show Tryz.prog.wantsStandIn t = false by simpa using List.all_eq_true.1 hall t hm)
theorem loginLoads_said : Rows.LoginLoadsUptoCardSaid :=
 Claim7.holds_tied_plain_at .later [] _ _ _ _ zxJ (fun _ h => by cases h) (by kernel_rfl) (fun _ h => by cases h) loginLoadsUpto_row_tie rfl ⟨rfl, rfl⟩ (by kernel_rfl) rfl ztZ (by kernel_rfl)
end
end Go.Proofs.YtmkomlbiaebddaaGreatDoor
