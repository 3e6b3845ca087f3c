/- The rows of credentials: plain laws. The rows of credentials are read as what they were: plain laws. The stretch of a password by both packages: plain laws. Calls on credentials keep them credentials: plain laws. The document's credentials: each call ends. Credentials that were written are read as what they were: the plain law. Which texts are numbers, and rows of texts: plain laws. What some functions compute, over plain values, and that they do. Rows of texts, names, numbers, whatever they are: the program's and the document's are one: plain laws. Credentials: a row is read alike by the program and the document: plain laws. Conditions: as each theorem says. -/
import Derived.KernelRfl
import Derived.Test.YtmkomlbiaebddaaGreatDoorQlL
namespace Go.Proofs.YtmkomlbiaebddaaGreatDoor.Am
open Go Go.RowKit
theorem yyP {a b : Prop} [Decidable a] [Decidable b] (ha : a) (hb : b) : (decide a && decide b) = true := by simp [ha, hb]
structure VCr (u : Bs) (c : CrT) : Prop where
 name : zbY zaB u = some true
 nlen : u.length ≤ 1048576
 user : c.1 = u
 salt : c.2.1.length = 16
 hash : c.2.2.1.length = 32
 otp : c.2.2.2.1 = [] ∨ (16 ≤ c.2.2.2.1.length ∧ c.2.2.2.1.length ≤ 64)
 step : 0 ≤ c.2.2.2.2.1 ∧ c.2.2.2.2.1 ≤ 2199023255552
 fails : 0 ≤ c.2.2.2.2.2.1 ∧ c.2.2.2.2.2.1 ≤ 4
 till : 0 ≤ c.2.2.2.2.2.2.1 ∧ c.2.2.2.2.2.2.1 ≤ 2199023255552
 keys : c.2.2.2.2.2.2.2.length ≤ 4
 may : ∀ k ∈ c.2.2.2.2.2.2.2, (1 ≤ k.1.length ∧ k.1.length ≤ 86) ∧ k.2.1.length = 32 ∧ k.2.2.1.length = 32 ∧ 0 ≤ k.2.2.2 ∧ k.2.2.2 ≤ 4294967295
 ids : c.2.2.2.2.2.2.2.Pairwise fun x y => x.1 ≠ y.1
structure VEs (es : List (Bs × CrT)) : Prop where
 rises : yuA es
 len : es.length ≤ 64
 each : ∀ p ∈ es, VCr p.1 p.2
def zqI (k : KeyT) : List Bs := [k.1, k.2.1, k.2.2.1, Lib.decDigits k.2.2.2.toNat]
def zyN (c : CrT) : List Bs := [c.2.1, c.2.2.1, c.2.2.2.1, Lib.decDigits c.2.2.2.2.1.toNat, Lib.decDigits c.2.2.2.2.2.1.toNat, Lib.decDigits c.2.2.2.2.2.2.1.toNat, Lib.decDigits c.2.2.2.2.2.2.2.length]
def zlO (c : CrT) : List Bs := zyN c ++ c.2.2.2.2.2.2.2.flatMap zqI
abbrev zdU : Bs := [108, 111, 103, 105, 110, 47]
def rowC (c : CrT) : Bs × Bs := (zdU ++ c.1, zfW (zlO c))
theorem ydK {γ : Type} : ∀ {es : List (Bs × γ)}, yuA es → ztS (es.map (·.1)) = true
 | [], _ => rfl
 | [_], _ => rfl
 | x :: y :: l, h => by
  have hc := List.pairwise_cons.1 h
  show (Op.bytesLess x.1 y.1 && ztS ((y :: l).map (·.1))) = true
  rw [ydK hc.2, Bool.and_true, bytesLess_eq, decide_eq_true_eq]
  exact hc.1 y List.mem_cons_self
theorem ylZ {es : List (Bs × CrT)} (h : VEs es) : zxH es = some (es.map (·.1), es) := by
 unfold zxH zwV
 rw [ydK h.rises, decide_eq_true (show es.length ≤ 1048576 by have := h.len; omega), List.all_eq_true.2 fun p hp => decide_eq_true (by have := (h.each p hp).nlen; omega)]
 rfl
theorem yiO {α : Type} (xs : List α) (h : xs.length ≤ 68719476736) : app ([] : List α) xs = some xs := by
 rw [zdO (by simpa using h)]; rfl
theorem ywH {es : List (Bs × CrT)} (h : VEs es) : zcR zaB es = some (es, es.map (·.2)) := by
 have hl := h.len
 unfold zcR
 rw [zrY (yyP (by omega) (by unfold LIM; omega)), zaA, show mkL (0 : Int) (([] : Bs), ([] : Bs), ([] : Bs), ([] : Bs), (0 : Int), (0 : Int), (0 : Int), ([] : List KeyT)) = some [] from rfl, zaA]
 unfold zqT
 rw [zaA, ylZ h, zaA]
 have hi : iter (fun x => zdH zaB (es.map (·.1), es) x.1 x.2.1 x.2.2) (((0 : Nat) : Int), es, (es.take 0).map (·.2)) = some (es, es.map (·.2)) := by
  refine zbS (fun k => ((k : Int), es, (es.take k).map (·.2))) es.length (by omega) _ (fun k hk => ?_) ?_
  ·have hv := h.each es[k] (List.getElem_mem hk)
   have hg : mget keqS es es[k].1 = some es[k].2 := ygS h.rises (List.getElem_mem hk)
   unfold zdH
   simp only []
   rw [zaY (by rw [List.length_map]; omega), zdC rfl (by rw [List.length_map]; exact hk), zaA, List.getElem_map]
   unfold zrK
   rw [hg]
   simp only []
   unfold ziA
   rw [yiO _ (by have := hv.keys; omega), zaA, zaA, zdO (by rw [List.length_map, List.length_take]; simp; omega), zaA, zcP (by omega) (by omega), List.take_succ_eq_append_getElem hk, List.map_append]
   rfl
  ·unfold zdH
   simp only []
   rw [zbE (by rw [List.length_map]; omega), List.take_length]
 rw [List.take_zero, List.map_nil] at hi
 have hi : iter (fun x => zdH zaB (es.map (·.1), es) x.1 x.2.1 x.2.2) ((0 : Int), es, ([] : List CrT)) = some (es, es.map (·.2)) := hi
 rw [show (es.map (·.1), es).2 = es from rfl, hi, zaA]
theorem yeA {M : Nat} (hM : M < 1000000000000000) : ∀ {ts : List Bs}, (∀ t ∈ ts, t.length ≤ M) → (zfW ts).length ≤ ts.length * (M + 16)
 | [], _ => Nat.zero_le _
 | t :: ts, h => by
  have h1 := h t List.mem_cons_self
  have h2 := yeA hM (ts := ts) fun t ht => h t (List.mem_cons_of_mem _ ht)
  have h3 := zkW 15 t.length (by decide) (by omega)
  simp only [zfW, List.length_append, List.length_cons]
  rw [Nat.add_mul]; omega
theorem zuW : ∀ (ks : List KeyT), (ks.flatMap zqI).length = 4 * ks.length
 | [] => rfl
 | k :: ks => by rw [List.flatMap_cons, List.length_append, zuW ks]; simp [zqI]; omega
theorem zyU (c : CrT) : (zlO c).length = 7 + 4 * c.2.2.2.2.2.2.2.length := by
 unfold zlO; rw [List.length_append, zuW]; rfl
theorem yrL {n : Int} (h : 0 ≤ n ∧ n ≤ 2199023255552) : (Lib.decDigits n.toNat).length ≤ 86 := by
 have := zkW 15 n.toNat (by decide) (by omega); omega
theorem yfU {u : Bs} {c : CrT} (h : VCr u c) : ∀ t ∈ zlO c, t.length ≤ 86 := fun t ht => by
 unfold zlO at ht
 rcases List.mem_append.1 ht with ht | ht
 ·simp only [zyN, List.mem_cons, List.not_mem_nil, or_false] at ht
  have hk := zkW 15 c.2.2.2.2.2.2.2.length (by decide) (by have := h.keys; omega)
  rcases ht with rfl | rfl | rfl | rfl | rfl | rfl | rfl
  ·have := h.salt; omega
  ·have := h.hash; omega
  ·rcases h.otp with h | h
   ·rw [h]; simp
   ·omega
  ·exact yrL h.step
  ·exact yrL ⟨h.fails.1, by have := h.fails.2; omega⟩
  ·exact yrL h.till
  ·omega
 ·obtain ⟨k, hk, ht⟩ := List.mem_flatMap.1 ht
  have hm := h.may k hk
  simp only [zqI, List.mem_cons, List.not_mem_nil, or_false] at ht
  rcases ht with rfl | rfl | rfl | rfl
  ·omega
  ·omega
  ·omega
  ·exact yrL ⟨hm.2.2.2.1, by omega⟩
theorem yfP {u : Bs} {c : CrT} (h : VCr u c) : (zfW (zlO c)).length ≤ 2346 := by
 have h1 := yeA (M := 86) (by decide) (yfU h)
 have h2 := zyU c
 have h3 := h.keys
 have : (zlO c).length * (86 + 16) ≤ 23 * (86 + 16) := Nat.mul_le_mul_right _ (by omega)
 omega
theorem ygX {n : Int} (h : 0 ≤ n ∧ n ≤ 2199023255552) : zaB.itoa n = some (Lib.decDigits n.toNat) := by
 have h2 := zvT n.toNat (by omega)
 rw [show ((n.toNat : Nat) : Int) = n by omega] at h2
 exact h2
theorem rows_ok {es : List (Bs × CrT)} (h : VEs es) : zdK zaB es = some ((es.map (·.2)).map rowC, es) := by
 have hl := h.len
 unfold zdK
 rw [ywH h, zaA]
 have hi : iter (fun x => zcT zaB (es, es.map (·.2)) x.1 x.2.1 x.2.2.1 x.2.2.2) (((0 : Nat) : Int), es, ((es.map (·.2)).take 0).map rowC, es.map (·.2)) = some (es, (es.map (·.2)).map rowC) := by
  refine zbS (fun k => ((k : Int), es, ((es.map (·.2)).take k).map rowC, es.map (·.2))) es.length (by omega) _ (fun k hk => ?_) ?_
  ·have hv := h.each es[k] (List.getElem_mem hk)
   have hkm : k < (es.map (·.2)).length := by rw [List.length_map]; exact hk
   have hc : (es.map (·.2))[k] = es[k].2 := List.getElem_map _
   have ht : ((es.map (·.2)).take (k + 1)).map rowC = ((es.map (·.2)).take k).map rowC ++ [rowC es[k].2] := by
    rw [List.take_succ_eq_append_getElem hkm, List.map_append, hc]; rfl
   have hrl : (((es.map (·.2)).take k).map rowC).length ≤ 64 := by rw [List.length_map, List.length_take, List.length_map]; omega
   generalize es[k].1 = u at hv
   generalize es[k].2 = c at hv hc ht
   generalize ((es.map (·.2)).take k).map rowC = rs at ht hrl
   unfold zcT
   simp only []
   rw [zaY (by omega), zrY (yyP (by omega) (by omega)), zaA, zdC rfl hkm, zaA, hc, ygX hv.step, zaA, ygX ⟨hv.fails.1, by have := hv.fails.2; omega⟩, zaA, ygX hv.till, zaA, show zaB.itoa (c.2.2.2.2.2.2.2.length : Int) = some (Lib.decDigits c.2.2.2.2.2.2.2.length) from zvT _ (by have := hv.keys; omega), zaA]
   have hin : iter (fun x => zcF zaB c x.1 x.2.1 x.2.2.1 x.2.2.2.1 x.2.2.2.2.1 x.2.2.2.2.2.1 x.2.2.2.2.2.2.1 x.2.2.2.2.2.2.2.1 x.2.2.2.2.2.2.2.2.1 x.2.2.2.2.2.2.2.2.2.1 x.2.2.2.2.2.2.2.2.2.2.1 x.2.2.2.2.2.2.2.2.2.2.2.1 x.2.2.2.2.2.2.2.2.2.2.2.2) (((0 : Nat) : Int), es, rs, c.1, c.2.1, c.2.2.1, c.2.2.2.1, c.2.2.2.2.1, c.2.2.2.2.2.1, c.2.2.2.2.2.2.1, c.2.2.2.2.2.2.2, zyN c ++ (c.2.2.2.2.2.2.2.take 0).flatMap zqI, es.map (·.2)) = some (es, rs, c.1, c.2.1, c.2.2.1, c.2.2.2.1, c.2.2.2.2.1, c.2.2.2.2.2.1, c.2.2.2.2.2.2.1, c.2.2.2.2.2.2.2, zlO c, es.map (·.2)) := by
    refine zbS (fun j => ((j : Int), es, rs, c.1, c.2.1, c.2.2.1, c.2.2.2.1, c.2.2.2.2.1, c.2.2.2.2.2.1, c.2.2.2.2.2.2.1, c.2.2.2.2.2.2.2, zyN c ++ (c.2.2.2.2.2.2.2.take j).flatMap zqI, es.map (·.2))) c.2.2.2.2.2.2.2.length (by have := hv.keys; omega) _ (fun j hj => ?_) ?_
    ·have hm := hv.may _ (List.getElem_mem hj)
     have hk4 := hv.keys
     unfold zcF
     simp only []
     rw [zaY (by omega), zdC rfl hj, zaA, ygX ⟨hm.2.2.2.1, by omega⟩, zaA, zdO (by rw [List.length_append, zuW, List.length_take]; simp [zyN]; omega), zaA, zcP (by omega) (by omega), List.take_succ_eq_append_getElem hj, List.flatMap_append, List.append_assoc]
     simp [zqI]
    ·unfold zcF
     simp only []
     rw [zbE (by omega), List.take_length]; rfl
   rw [List.take_zero, List.flatMap_nil, List.append_nil] at hin
   have hin : iter (fun x => zcF zaB c x.1 x.2.1 x.2.2.1 x.2.2.2.1 x.2.2.2.2.1 x.2.2.2.2.2.1 x.2.2.2.2.2.2.1 x.2.2.2.2.2.2.2.1 x.2.2.2.2.2.2.2.2.1 x.2.2.2.2.2.2.2.2.2.1 x.2.2.2.2.2.2.2.2.2.2.1 x.2.2.2.2.2.2.2.2.2.2.2.1 x.2.2.2.2.2.2.2.2.2.2.2.2) ((0 : Int), es, rs, c.1, c.2.1, c.2.2.1, c.2.2.2.1, c.2.2.2.2.1, c.2.2.2.2.2.1, c.2.2.2.2.2.2.1, c.2.2.2.2.2.2.2, ([c.2.1, c.2.2.1, c.2.2.2.1, Lib.decDigits c.2.2.2.2.1.toNat, Lib.decDigits c.2.2.2.2.2.1.toNat, Lib.decDigits c.2.2.2.2.2.2.1.toNat, Lib.decDigits c.2.2.2.2.2.2.2.length] : List Bs), es.map (·.2)) = _ := hin
   rw [hin, zaA]
   simp only []
   have hf := yfP hv
   rw [zdO (by have := hv.nlen; rw [hv.user]; simp only [List.length_cons, List.length_nil]; omega), zaA, show zaB.form (zlO c) = some (zfW (zlO c)) from yzM _ (by omega) (by rw [zyU]; have := hv.keys; omega), zaA, zdO (by simp only [List.length_cons, List.length_nil]; omega), zaA, zcP (by omega) (by omega), ht]
   rfl
  ·unfold zcT
   simp only []
   rw [zbE (by rw [List.length_map]; omega), show es.length = (es.map (·.2)).length by rw [List.length_map], List.take_length]
 rw [List.take_zero, List.map_nil] at hi
 have hi : iter (fun x => zcT zaB (es, es.map (·.2)) x.1 x.2.1 x.2.2.1 x.2.2.2) ((0 : Int), es, ([] : List (Bs × Bs)), es.map (·.2)) = some (es, (es.map (·.2)).map rowC) := hi
 rw [hi, zaA]
theorem yhO {α : Type} (a b : List α) {n : Int} (h : n = (a.length : Int)) : subL (a ++ b) n = some b := by
 subst h
 unfold subL
 rw [List.length_append, yyP (by omega) (by omega)]
 simp
theorem ysR (id : Bs) : ∀ (l : List KeyT), l.length ≤ 4 → (∀ k ∈ l, k.1 ≠ id) → zeP zaB l id = some (-1) := fun l hl h => by
 have hi : iter (fun x => zaU zaB l x.1 x.2) (((0 : Nat) : Int), id) = some (Sum.inr id) := by
  refine zbS (fun k => ((k : Int), id)) l.length (by omega) (Sum.inr id) (fun k hk => ?_) ?_
  ·have hk1 := h _ (List.getElem_mem hk)
   unfold zaU
   simp only []
   rw [zaY (by omega), zdC rfl hk, zaA]
   unfold ziH
   rw [zaA]
   simp only []
   rw [show (l[k].1 == id) = false from beq_eq_false_iff_ne.2 hk1, zcP (by omega) (by omega)]
   rfl
  ·unfold zaU
   simp only []
   rw [zbE (by omega)]
 have hi : iter (fun x => zaU zaB l x.1 x.2) ((0 : Int), id) = some (Sum.inr id) := hi
 unfold zeP zeU
 rw [hi, zaA]
 simp only []
 rw [zaA]
theorem key_lt {a b : Bs} (h : a < b) : Op.bytesLess (zdU ++ b) (zdU ++ a) = false ∧ (zdU ++ b == zdU ++ a) = false := by
 have hlt : zdU ++ a < zdU ++ b := by
  show ([108, 111, 103, 105, 110, 47] ++ a : Bs) < [108, 111, 103, 105, 110, 47] ++ b
  simp only [List.cons_append, List.nil_append, List.cons_lt_cons_iff, h, and_true, or_true]
 refine ⟨?_, beq_eq_false_iff_ne.2 fun e => by rw [e] at hlt; exact List.lt_irrefl _ hlt⟩
 rw [bytesLess_eq, decide_eq_false_iff_not]
 exact fun h2 => List.lt_irrefl _ (List.lt_trans h2 hlt)
section
def xorP (u b : Bs) : Nat → Bs
 | 0 => b
 | k + 1 => (xorP u b k).set k ((xorP u b k).getD k 0 ^^^ u.getD k 0)
def rndP (p u : Bs) : Nat → Bs × Bs
 | 0 => (u, u)
 | k + 1 => (macF p (rndP p u k).1, xorP (macF p (rndP p u k).1) (rndP p u k).2 32)
def stF (p s : Bs) : Bs := (rndP p (macF p (s ++ [0, 0, 0, 1])) 3).2
attribute [local irreducible] macF
attribute [local irreducible] xorP
theorem ypW (s : Bs) (hs : s.length ≤ 68719400000) : zpS (i64 (((1 : UInt32)).toNat : Int)) 4 s = some (s ++ [0, 0, 0, 1]) := by
 have h : iter (fun x => zdP (i64 (((1 : UInt32)).toNat : Int)) x.1 x.2) ((3 : Int) - ((0 : Nat) : Int), s ++ ([0, 0, 0, 1] : Bs).take 0) = some (s ++ [0, 0, 0, 1]) := by
  refine zbS (fun k => ((3 : Int) - (k : Int), s ++ ([0, 0, 0, 1] : Bs).take k)) 4 (by omega) _ (fun k hk => ?_) ?_
  ·unfold zdP
   simp only []
   have hl : (s ++ ([0, 0, 0, 1] : Bs).take k).length ≤ 68719400004 := by rw [List.length_append, List.length_take]; simp; omega
   rw [zaY (by omega), zrY (decide_eq_true (by rw [zcP (by omega) (by omega)]; omega)), zaA, zdO (by simp only [List.length_cons, List.length_nil]; omega), zaA, zcP (by omega) (by omega), List.append_assoc, show (3 : Int) - (k : Int) - 1 = 3 - ((k + 1 : Nat) : Int) by omega]
   rcases (by omega : k = 0 ∨ k = 1 ∨ k = 2 ∨ k = 3) with rfl | rfl | rfl | rfl <;> rfl
  ·unfold zdP
   simp only []
   rw [zbE (by omega)]; rfl
 rw [List.take_zero, List.append_nil] at h
 unfold zpS
 rw [show w64 ((4 : Int) - (1 : Int)) = 3 - ((0 : Nat) : Int) from rfl, h, zaA]
end
section
attribute [local irreducible] stF
theorem xeL {u s h o : Bs} {st f t : Int} {ks : List KeyT} (hn : zbY zaB u = some true) (hu : u.length ≤ 1048576) (hs : s.length = 16) (hh : h.length = 32) (ho : o = [] ∨ (16 ≤ o.length ∧ o.length ≤ 64)) (h1 : 0 ≤ st ∧ st ≤ 2199023255552) (h2 : 0 ≤ f ∧ f ≤ 4) (h3 : 0 ≤ t ∧ t ≤ 2199023255552) (h4 : ks.length ≤ 4)
  (h5 : ∀ k ∈ ks, (1 ≤ k.1.length ∧ k.1.length ≤ 86) ∧ k.2.1.length = 32 ∧ k.2.2.1.length = 32 ∧ 0 ≤ k.2.2.2 ∧ k.2.2.2 ≤ 4294967295) (h6 : ks.Pairwise fun x y => x.1 ≠ y.1) : VCr u (u, s, h, o, st, f, t, ks) := ⟨hn, hu, rfl, hs, hh, ho, h1, h2, h3, h4, h5, h6⟩
theorem at_t (l : List KeyT) (id : Bs) (hl : l.length ≤ 4) : (zeP zaB l id = some (-1) ∧ ∀ k ∈ l, k.1 ≠ id) ∨ ∃ i : Nat, ∃ hi : i < l.length, zeP zaB l id = some (i : Int) ∧ l[i].1 = id := by
 by_cases hex : ∃ i : Nat, ∃ hi : i < l.length, l[i].1 = id ∧ ∀ j, (hj : j < i) → (l[j]'(by omega)).1 ≠ id
 ·right
  obtain ⟨i, hi, h1, h2⟩ := hex
  have hit : iter (fun x => zaU zaB l x.1 x.2) (((0 : Nat) : Int), id) = some (Sum.inl ((i : Int), id)) := by
   refine zbS (fun k => ((k : Int), id)) i (by omega) (Sum.inl ((i : Int), id)) (fun k hk => ?_) ?_
   ·unfold zaU
    simp only []
    rw [zaY (by omega), zdC rfl (show k < l.length by omega), zaA]
    unfold ziH
    rw [zaA]
    simp only []
    rw [show (l[k].1 == id) = false from beq_eq_false_iff_ne.2 (h2 k hk), zcP (by omega) (by omega)]
    rfl
   ·unfold zaU
    simp only []
    rw [zaY (by omega), zdC rfl hi, zaA]
    unfold ziH
    rw [zaA]
    simp only []
    rw [show (l[i].1 == id) = true from beq_iff_eq.2 h1]
    rfl
  have hit : iter (fun x => zaU zaB l x.1 x.2) ((0 : Int), id) = some (Sum.inl ((i : Int), id)) := hit
  refine ⟨i, hi, ?_, h1⟩
  unfold zeP zeU
  rw [hit, zaA]
  simp only []
  rw [zaA]
 ·left
  have hno : ∀ k ∈ l, k.1 ≠ id := fun k hk e => by
   have hsome : ∃ i, i < l.length ∧ (fun i => !(decide (∃ hi : i < l.length, l[i].1 = id))) i = false := by
    obtain ⟨i, hi, rfl⟩ := List.getElem_of_mem hk
    exact ⟨i, hi, by simp [hi, e]⟩
   obtain ⟨i, hi, h1, h2⟩ := ziF l.length hsome
   simp only [Bool.not_eq_false', decide_eq_true_eq] at h1
   obtain ⟨_, h1⟩ := h1
   refine hex ⟨i, hi, h1, fun j hj e2 => ?_⟩
   have := h2 j hj
   simp only [Bool.not_eq_true', decide_eq_false_iff_not] at this
   exact this ⟨by omega, e2⟩
  exact ⟨ysR id l hl hno, hno⟩
end
section
attribute [local irreducible] macF
end
section
attribute [local irreducible] stF macF
theorem zsO (r : List (Bs × Bs)) (h : r.length ≤ 1048576) : zaV zaB r r = some true := by
 have hi : iter (zbA zaB r r) ((0 : Nat) : Int) = some (.inr ()) := by
  refine zbS (fun k => (k : Int)) r.length (by omega) _ (fun k hk => ?_) ?_
  ·unfold zbA
   rw [zaY (by omega), zdC rfl hk, zaA, zaA]
   simp only [beq_self_eq_true, Bool.and_true, Bool.not_true, cond_false]
   rw [zcP (by omega) (by omega)]
   rfl
  ·unfold zbA
   rw [zbE (by omega)]
 unfold zaV
 simp only [bne_self_eq_false, cond_false]
 rw [show iter (zbA zaB r r) (0 : Int) = some (.inr ()) from hi, zaA]
theorem yuQ {e : Ty} {x : den e} : ∀ {xs : List (den e)}, x ∈ xs → dsz e x ≤ dsz (.sl e) xs
 | y :: ys, h => by
  show _ ≤ (List.map (dsz e) (y :: ys)).sum + 1
  simp only [List.map_cons, List.sum_cons]
  rcases List.mem_cons.1 h with rfl | h
  ·omega
  ·have : dsz e x ≤ (List.map (dsz e) ys).sum + 1 := yuQ h
   omega
end
end Go.Proofs.YtmkomlbiaebddaaGreatDoor.Am
namespace Go.Proofs.YtmkomlbiaebddaaGreatDoor
open Go Go.RowKit
def digB (b : UInt8) : Bool := decide (48 ≤ b.toNat) && decide (b.toNat ≤ 57)
theorem ybS {b : UInt8} : digB b = true ↔ 48 ≤ b.toNat ∧ b.toNat ≤ 57 := by unfold digB; simp
def vaF (l : Bs) : Nat := l.foldl (fun a b => 10 * a + (b.toNat - 48)) 0
theorem yiI (l : Bs) (b : UInt8) : vaF (l ++ [b]) = 10 * vaF l + (b.toNat - 48) := by unfold vaF; rw [List.foldl_append]; rfl
theorem yoH : ∀ (l : Bs) (a : Nat), (∀ b ∈ l, b.toNat ≤ 57) → l.foldl (fun a b => 10 * a + (b.toNat - 48)) a < (a + 1) * 10 ^ l.length
 | [], a, _ => by simp
 | b :: l, a, h => by
  have h1 := yoH l (10 * a + (b.toNat - 48)) fun x hx => h x (List.mem_cons_of_mem _ hx)
  have hb := h b List.mem_cons_self
  simp only [List.foldl_cons, List.length_cons]
  refine Nat.lt_of_lt_of_le h1 ?_
  rw [Nat.pow_succ, show (a + 1) * (10 ^ l.length * 10) = (10 * a + 10) * 10 ^ l.length by
   rw [Nat.mul_comm (10 ^ l.length) 10, ← Nat.mul_assoc]; congr 1; omega]
  exact Nat.mul_le_mul_right _ (by omega)
theorem yuY {l : Bs} (h : ∀ b ∈ l, 48 ≤ b.toNat ∧ b.toNat ≤ 57) (hl : l.length ≤ 15) : vaF l < 1000000000000000 := by
 have h1 := yoH l 0 fun b hb => (h b hb).2
 have h2 : 10 ^ l.length ≤ 10 ^ 15 := Nat.pow_le_pow_right (by decide) hl
 unfold vaF
 omega
theorem ykU : ∀ (n : Nat) (l : Bs), l.length = n + 1 → (l.head? ≠ some 48 ∨ n = 0) → (∀ b ∈ l, 48 ≤ b.toNat ∧ b.toNat ≤ 57) → Lib.decDigits (vaF l) = l ∧ (l.head? ≠ some 48 → 1 ≤ vaF l)
 | 0, l, hl, _, hd => by
  obtain ⟨b, rfl⟩ : ∃ b, l = [b] := by
   match l, hl with
   | [b], _ => exact ⟨b, rfl⟩
  have hb := hd b List.mem_cons_self
  have hv : vaF [b] = b.toNat - 48 := by simp [vaF]
  rw [hv]
  refine ⟨?_, fun h => ?_⟩
  ·rw [zjE, if_pos (by omega), show 48 + (b.toNat - 48) = b.toNat by omega]
   simp
  ·have h1 : b ≠ 48 := fun e => h (by rw [e]; rfl)
   have h2 : b.toNat ≠ 48 := fun e => h1 (UInt8.toNat_inj.1 e)
   omega
 | n + 1, l, hl, hh, hd => by
  rcases List.eq_nil_or_concat l with rfl | ⟨L, b, rfl⟩
  ·cases hl
  ·have hL : L.length = n + 1 := by simpa using hl
   have hb := hd b (by simp)
   obtain ⟨c, m, rfl⟩ : ∃ c m, L = c :: m := by
    cases L with
    | nil => cases hL
    | cons c m => exact ⟨c, m, rfl⟩
   have hh' : (c :: m).head? ≠ some 48 := by
    rcases hh with h | h
    ·simpa using h
    ·cases h
   obtain ⟨h1, h2⟩ := ykU n (c :: m) hL (.inl hh') fun x hx => hd x (by simp only [List.concat_eq_append, List.mem_append]; exact .inl hx)
   have h3 := h2 hh'
   rw [List.concat_eq_append, yiI]
   refine ⟨?_, fun _ => by omega⟩
   rw [zjE, if_neg (by omega), show (10 * vaF (c :: m) + (b.toNat - 48)) / 10 = vaF (c :: m) by omega, show (10 * vaF (c :: m) + (b.toNat - 48)) % 10 = b.toNat - 48 by omega, h1, show 48 + (b.toNat - 48) = b.toNat by omega]
   simp
def numB (s : Bs) : Bool := s != [] && decide (s.length ≤ 15) && (s.head? != some 48 || s == [48]) && s.all digB
theorem ylF {s : Bs} (h : s.all digB = true) : ∀ b ∈ s, 48 ≤ b.toNat ∧ b.toNat ≤ 57 := fun b hb => ybS.1 (List.all_eq_true.1 h b hb)
theorem zmI {s : Bs} (h : numB s = true) : Lib.decDigits (vaF s) = s ∧ vaF s < 1000000000000000 := by
 unfold numB at h
 simp only [Bool.and_eq_true, decide_eq_true_eq] at h
 obtain ⟨⟨⟨h1, h2⟩, h3⟩, h4⟩ := h
 have hd := ylF h4
 refine ⟨?_, yuY hd h2⟩
 have hne : s ≠ [] := by simpa using h1
 obtain ⟨n, hn⟩ : ∃ n, s.length = n + 1 := ⟨s.length - 1, by have := List.length_pos_iff.2 hne; omega⟩
 refine (ykU n s hn ?_ hd).1
 rcases Bool.or_eq_true _ _ ▸ h3 with h | h
 ·exact .inl (by simpa using h)
 ·right
  rw [beq_iff_eq.1 h] at hn
  simp only [List.length_cons, List.length_nil] at hn
  omega
theorem zyT {p : UInt8 → Bool} : ∀ {l : Bs}, l.dropWhile p = [] → ∀ b ∈ l, p b = true
 | [], _, b, hb => by cases hb
 | c :: l, h, b, hb => by
  rw [List.dropWhile_cons] at h
  split at h
  ·rename_i hc
   rcases List.mem_cons.1 hb with rfl | hb
   ·exact hc
   ·exact zyT h b hb
  ·cases h
theorem zvH {p : UInt8 → Bool} : ∀ {l : Bs} {b : UInt8}, b ∈ l → p b = false → b ∈ l.dropWhile p
 | c :: l, b, hb, hp => by
  rw [List.dropWhile_cons]
  split
  ·rename_i hc
   rcases List.mem_cons.1 hb with rfl | hb
   ·rw [hp] at hc; cases hc
   ·exact zvH hb hp
  ·exact hb
theorem zvV {l cs : Bs} : Lib.trimS l cs = [] ↔ ∀ b ∈ l, cs.contains b = true := by
 unfold Lib.trimS Lib.trimLeftS Lib.trimRightS
 constructor
 ·intro h b hb
  cases hc : cs.contains b with
  | true => rfl
  | false =>
   have h1 := zvH (List.mem_reverse.2 hb) hc
   have h2 := zyT h b (List.mem_reverse.2 h1)
   rw [hc] at h2; cases h2
 ·intro h
  rw [zwM (l := l.reverse) fun b hb => h b (List.mem_reverse.1 hb)]
  rfl
theorem yqV (b : UInt8) : tenL.contains b = digB b := by
 have := zpP (fun b => tenL.contains b == digB b) (by kernel_rfl) b
 simpa using this
theorem yjH (l : Bs) : (Lib.trimS l tenL != ([] : Bs)) = !l.all digB := by
 cases h : l.all digB with
 | true =>
  rw [zvV.2 fun b hb => by rw [yqV]; exact List.all_eq_true.1 h b hb]
  rfl
 | false =>
  rw [Bool.not_false, bne_iff_ne]
  intro e
  have h2 : l.all digB = true := List.all_eq_true.2 fun b hb => by rw [← yqV]; exact zvV.1 e b hb
  rw [h] at h2; cases h2
def colF : Bs → Option (Bs × Bs)
 | [] => none
 | b :: l => if b = 58 then some ([], l) else (colF l).map fun p => (b :: p.1, p.2)
theorem zmN : ∀ {s h r : Bs}, colF s = some (h, r) → s = h ++ 58 :: r ∧ (58 : UInt8) ∉ h
 | b :: l, h, r, e => by
  unfold colF at e
  split at e
  ·rename_i hb
   cases e
   exact ⟨by rw [hb]; rfl, by simp⟩
  ·rename_i hb
   cases hc : colF l with
   | none => rw [hc] at e; cases e
   | some p =>
    rw [hc] at e
    obtain ⟨h', r'⟩ := p
    cases e
    obtain ⟨h1, h2⟩ := zmN hc
    exact ⟨by rw [h1]; rfl, fun hm => by
     rcases List.mem_cons.1 hm with hm | hm
     ·exact hb hm.symm
     ·exact h2 hm⟩
theorem yiT : ∀ {s : Bs}, colF s = none → (58 : UInt8) ∉ s
 | [], _ => by simp
 | b :: l, e => by
  unfold colF at e
  split at e
  ·cases e
  ·rename_i hb
   intro hm
   rcases List.mem_cons.1 hm with hm | hm
   ·exact hb hm.symm
   ·exact yiT (Option.map_eq_none_iff.1 e) hm
theorem ygP : ∀ {s : Bs}, (58 : UInt8) ∉ s → Lib.index s [58] = -1
 | [], _ => by simp [Lib.index]
 | b :: l, h => by
  have hb : b ≠ 58 := fun e => h (by rw [e]; exact List.mem_cons_self)
  rw [ztE, if_neg (by simp [List.isPrefixOf]; exact fun e => hb e.symm), ygP fun hm => h (List.mem_cons_of_mem _ hm), if_pos rfl]
theorem ywR (s : Bs) : Lib.cut s [58] = match colF s with
  | some p => (p.1, p.2, true)
  | none => (s, [], false) := by
 cases h : colF s with
 | some p =>
  obtain ⟨a, r⟩ := p
  obtain ⟨rfl, h2⟩ := zmN h
  exact ysE h2
 | none =>
  unfold Lib.cut
  rw [ygP (yiT h)]
  rfl
def txtF : Nat → Bs → Option (List Bs)
 | _, [] => some []
 | 0, _ :: _ => none
 | f + 1, b :: s => match colF (b :: s) with
  | none => none
  | some (h, r) => bif numB h && decide (vaF h ≤ r.length) then (txtF f (r.drop (vaF h))).map (r.take (vaF h) :: ·) else none
theorem ybJ : ∀ {f : Nat} {s : Bs} {l : List Bs}, txtF f s = some l → zfW l = s
 | _, [], l, h => by
  unfold txtF at h
  cases h
  rfl
 | 0, _ :: _, l, h => by cases h
 | f + 1, b :: s, l, h => by
  unfold txtF at h
  cases hc : colF (b :: s) with
  | none => rw [hc] at h; cases h
  | some p =>
   obtain ⟨a, r⟩ := p
   rw [hc] at h
   simp only [] at h
   cases hb : numB a && decide (vaF a ≤ r.length) with
   | false => rw [hb] at h; cases h
   | true =>
    rw [hb] at h
    simp only [Bool.and_eq_true, decide_eq_true_eq] at hb
    simp only [cond_true] at h
    cases ht : txtF f (r.drop (vaF a)) with
    | none => rw [ht] at h; cases h
    | some m =>
     rw [ht] at h
     cases h
     have h1 := ybJ ht
     have h2 := (zmI hb.1).1
     rw [(zmN hc).1]
     show Lib.decDigits (r.take (vaF a)).length ++ 58 :: (r.take (vaF a) ++ zfW m) = _
     rw [List.length_take, Nat.min_eq_left hb.2, h2, h1, List.take_append_drop]
theorem yyF : ∀ {f : Nat} {s : Bs} {l : List Bs}, txtF f s = some l → l.length ≤ s.length ∧ ∀ t ∈ l, t.length ≤ s.length
 | _, s, l, h => by
  have h1 := ybJ h
  subst h1
  clear h
  induction l with
  | nil => simp [zfW]
  | cons t l ih =>
   simp only [zfW, List.length_append, List.length_cons]
   refine ⟨by omega, fun x hx => ?_⟩
   rcases List.mem_cons.1 hx with rfl | hx
   ·omega
   ·have := ih.2 x hx; omega
end Go.Proofs.YtmkomlbiaebddaaGreatDoor
namespace Go.Proofs.YtmkomlbiaebddaaGreatDoor.Am
open Go Go.RowKit
def τWkN : TE := [(3, ⟨.int .i64, 1, [.v (.i .i64) (show Int from 0)], (.i .i64), 8⟩),
 (4, ⟨.b, 1, [.v .b (show Bool from false)], .b, 1⟩),
 (5, ⟨.int .u8, 1, [.v (.i .u8) (show UInt8 from 0)], (.i .u8), 1⟩),
 (9, ⟨.s, 1, [.v .s (show Bs from [])], .s, 16⟩),
 (22, ⟨.sl 24, 1, [.nils], (.sl (.pr .s .s)), 24⟩),
 (24, ⟨.st [(9, 0), (9, 1)], 2, [.v .s (show Bs from []), .v .s (show Bs from [])], (.pr .s .s), 32⟩),
 (25, ⟨.pt 79, 1, [.nilp], .un, 8⟩),
 (29, ⟨.pt 38, 1, [.nilp], .un, 8⟩),
 (35, ⟨.sl 53, 1, [.nils], (.sl (.pr .s (.pr .s (.pr .s (.pr .s (.pr (.i .i64) (.pr (.i .i64) (.pr (.i .i64) (.sl (.pr .s (.pr .s (.pr .s (.i .i64))))))))))))), 24⟩),
 (38, ⟨.st [(35, 0)], 1, [.nils], (.pr (.sl (.pr .s (.pr .s (.pr .s (.pr .s (.pr (.i .i64) (.pr (.i .i64) (.pr (.i .i64) (.sl (.pr .s (.pr .s (.pr .s (.i .i64))))))))))))) .un), 24⟩),
 (41, ⟨.sl 9, 1, [.nils], (.sl .s), 24⟩),
 (51, ⟨.sl 58, 1, [.nils], (.sl (.pr .s (.pr .s (.pr .s (.i .i64))))), 24⟩),
 (53, ⟨.st [(9, 0), (9, 1), (9, 2), (9, 3), (3, 4), (3, 5), (3, 6), (51, 7)], 8, [.v .s (show Bs from []), .v .s (show Bs from []), .v .s (show Bs from []), .v .s (show Bs from []), .v (.i .i64) (show Int from 0), .v (.i .i64) (show Int from 0), .v (.i .i64) (show Int from 0), .nils], (.pr .s (.pr .s (.pr .s (.pr .s (.pr (.i .i64) (.pr (.i .i64) (.pr (.i .i64) (.sl (.pr .s (.pr .s (.pr .s (.i .i64)))))))))))), 112⟩),
 (58, ⟨.st [(9, 0), (9, 1), (9, 2), (3, 3)], 4, [.v .s (show Bs from []), .v .s (show Bs from []), .v .s (show Bs from []), .v (.i .i64) (show Int from 0)], (.pr .s (.pr .s (.pr .s (.i .i64)))), 56⟩),
 (118, ⟨.st [(41, 0), (4, 1)], 2, [.nils, .v .b (show Bool from false)], (.pr (.sl .s) .b), 32⟩)]
theorem τ_okWkN : TEok Tryz.prog τWkN := yrD (by kernel_rfl) (by kernel_rfl)
theorem yuV : Tryz.prog.follows .mixedOrders = true := by kernel_rfl
theorem yrC {G : List (Nat × Obj)} {o : Ops} [zjG G] [zjJ G o] {Γ : CT} {η : HT} {f : FuncId} {fn : Func} {c : SC} (hΓ : ∀ B, GB G B → CTok Tryz.prog Γ B) (hf : Tryz.prog.funcs[f]? = some fn) (i : (fn.name == "runtime.NumGoroutine") = false := by kernel_rfl) (j : fn.body.isNone = false := by kernel_rfl) (l : Nat.ble c.I.sl.length fn.ntmps = true := by kernel_rfl) (r : Nat.beq fn.results.toList.length c.nr = true := by kernel_rfl) (e : fnS τWkN Γ η fn c.I c.outs = c.p := by kernel_rfl) : SCok Tryz.prog G f c := witO (G := G) (o := o) <| ylA yuV τ_okWkN hΓ hf (isFn hf i j) l r e
theorem zxY {G : List (Nat × Obj)} {o : Ops} [zjG G] [zjJ G o] {Γ : CT} {η : HT} {f : FuncId} {fn : Func} {c : PC} (hΓ : ∀ B, GB G B → CTok Tryz.prog Γ B) (hf : Tryz.prog.funcs[f]? = some fn) (i : (fn.name == "runtime.NumGoroutine") = false := by kernel_rfl) (j : fn.body.isNone = false := by kernel_rfl) (l : Nat.ble c.ash.length fn.ntmps = true := by kernel_rfl) (r : c.cl = false := by kernel_rfl) (e : fnP τWkN Γ η fn c.ash c.rts = c.p := by kernel_rfl) : PCok Tryz.prog G f c := witO (G := G) (o := o) <| ykJ yuV τ_okWkN hΓ hf (isFn hf i j) l r e
abbrev zxQ : Type := (List Bs) × Bool
abbrev zuF : Type := Bs × Bs × Bs × Int
abbrev zzY : Ty := .pr .s (.pr .s (.pr .s (.i .i64)))
abbrev zgL : Type := Bs × Bs × Bs × Bs × Int × Int × Int × List zuF
abbrev ztY : Ty := .pr .s (.pr .s (.pr .s (.pr .s (.pr (.i .i64) (.pr (.i .i64) (.pr (.i .i64) (.sl zzY)))))))
abbrev ylO : OSh := .blk 53 [hS, hS, hS, hS, hI, hI, hI, (.h (.sl zzY))]
abbrev yyA : OSh := .blk 53 [hS, hS, hS, hS, hI, hI, hI, (.own 3)]
abbrev yjX : OSh := .blk 53 [hS, hS, hS, hS, hI, hI, hI, .nils]
abbrev zzV : OSh := .blk 118 [(.h (.sl .s)), hB]
abbrev xaD : OSh := .blk 38 [(.own 1)]
section
variable {tabs : List (Nat × Obj)} [zjG tabs] {o : Ops} [zjJ tabs o]
def zdY (o : Ops) (v0 : Bs) : Option ((Int × Bool) ⊕ Unit) :=
 bif (v0 == ([] : Bs)) then some (.inl ((0 : Int), false)) else (bif decide ((v0.length : Int) > 15) then some (.inl ((0 : Int), false)) else ((idx v0 (0 : Int)).bind fun v1 => bif ((v1.toNat : Int) == ((48 : UInt8).toNat : Int)) then (bif (v0 != ([48] : Bs)) then some (.inl ((0 : Int), false)) else some (.inr ())) else some (.inr ())))
def zgE (o : Ops) (v0 : Bs) (v6 : Int) : Option ((Int × Bool) ⊕ Unit) :=
 (idx v0 v6).bind fun v7 => bif decide ((v7.toNat : Int) < ((48 : UInt8).toNat : Int)) then some (.inl ((0 : Int), false)) else ((idx v0 v6).bind fun v8 => bif decide ((v8.toNat : Int) > ((57 : UInt8).toNat : Int)) then some (.inl ((0 : Int), false)) else some (.inr ()))
def zcC (o : Ops) (v0 : Bs) (v5 : Int) (v6 : Int) : Option ((Int × Int) ⊕ ((Int × Bool) ⊕ Int)) :=
 bif decide (v6 < (v0.length : Int)) then ((zgE o v0 v6).bind fun v9 => match v9 with
 | .inl v10 => some (.inr (.inl v10))
 | .inr v11 => ((idx v0 v6).bind fun v12 => let v13 : Int := w64 ((i8 ((v12.toNat : Int) - ((48 : UInt8).toNat : Int))).toNat : Int)
 some (.inl (w64 ((w64 ((10 : Int) * v5)) + v13), w64 (v6 + 1))))) else some (.inr (.inr v5))
def zbM (o : Ops) (v0 : Bs) : Option (Int × Bool) :=
 (zdY o v0).bind fun v2 => match v2 with
 | .inl v3 => (some v3)
 | .inr v4 => ((iter (fun x => zcC o v0 x.1 x.2) ((0 : Int), (0 : Int))).bind fun v14 => match v14 with
 | .inl v15 => (some v15)
 | .inr v16 => (some (v16, true)))
def zeC (o : Ops) : PC := ⟨[hS], [(.i .i64), .b], fun x => zbM o x, false⟩
theorem zgF : PCok Tryz.prog tabs 112 (zeC o) := zxY (o := o) (η := [(2000003, .join [] [0] [(some 1000000, ⟨[(2, hI), (3, hB)], []⟩), (none, ⟨[], []⟩)]),
 (2000009, .join [] [0, 4, 5] [(some 1000000, ⟨[(2, hI), (3, hB)], []⟩), (none, ⟨[], []⟩)]),
 (200005, .loop [] ⟨[(4, hI), (5, hI)], []⟩ [0] [(some 1000000, ⟨[(2, hI), (3, hB)], []⟩), (some 0, ⟨[(4, hI)], []⟩)])]) (Γ := ⟨[], [], false, []⟩) (ctok trivial trivial) Tryz.func112
def zcI (o : Ops) (v0 : Bs) (v3 : Int) (v4 : List Bs) : Option ((Int × List Bs) ⊕ ((Int × List Bs))) :=
 bif decide (v3 < (v0.length : Int)) then ((idx v0 v3).bind fun v5 => bif ((v5.toNat : Int) != ((58 : UInt8).toNat : Int)) then some (.inl (w64 (v3 + 1), v4)) else some (.inr (v3, v4))) else some (.inr (v3, v4))
def zcL (o : Ops) (v0 : Bs) (v6 : Int × List Bs) (v8 : Int × Bool) : Option (Bool ⊕ List Bs) :=
 bif (!v8.2) then some (.inl false) else (bif (v6.1 == (v0.length : Int)) then some (.inl false) else (let v9 : Bool := decide (v8.1 > (w64 ((w64 ((v0.length : Int) - v6.1)) - 1)))
 bif v9 then some (.inl false) else some (.inr v6.2)))
def zbL (o : Ops) (v0 : Bs) (v1 : Int) (v2 : List Bs) : Option ((Int × List Bs) ⊕ (Bool ⊕ List Bs)) :=
 bif decide (v1 < (v0.length : Int)) then ((iter (fun x => zcI o v0 x.1 x.2) (v1, v2)).bind fun v6 => (sub3 v0 v1 v6.1).bind fun v7 => (zbM o v7).bind fun v8 => (zcL o v0 v6 v8).bind fun v10 => match v10 with
 | .inl v11 => some (.inr (.inl v11))
 | .inr v12 => ((sub3 v0 (w64 (v6.1 + 1)) (w64 ((w64 (v6.1 + 1)) + v8.1))).bind fun v13 => (app v12 ([v13] : List Bs)).bind fun v14 => some (.inl (w64 ((w64 (v6.1 + 1)) + v8.1), v14)))) else some (.inr (.inr v2))
def zcZ (o : Ops) (v0 : Bs) : Option zxQ :=
 (iter (fun x => zbL o v0 x.1 x.2) ((0 : Int), ([] : List Bs))).bind fun v15 => match v15 with
 | .inl v16 => (some (([] : List Bs), v16))
 | .inr v17 => (some (v17, true))
def zgT (o : Ops) : PC := ⟨[hS], [(.sl .s), .b], fun x => zcZ o x, false⟩
theorem zmZ : PCok Tryz.prog tabs 80 (zgT o) := zxY (o := o) (η := [(200005, .loop [] ⟨[(4, (.own 0)), (6, hI)], [.osl .s 9]⟩ [0, 5] [(some 2, ⟨[(4, (.own 0)), (6, hI)], [.osl .s 9]⟩)]),
 (2000010, .join [] [0, 6, 7] [(some 1000000, ⟨[(2, .nils), (3, hB)], []⟩), (none, ⟨[(4, (.own 0))], [.osl .s 9]⟩)]),
 (200003, .loop [] ⟨[(4, (.own 0)), (5, hI)], [.osl .s 9]⟩ [0] [(some 1000000, ⟨[(2, .nils), (3, hB)], []⟩), (some 0, ⟨[(4, (.own 0))], [.osl .s 9]⟩)])]) (Γ := ⟨[(112, (zeC o))], [], false, []⟩) (ctok ⟨zgF, trivial⟩ trivial) Tryz.func80
def zaE (o : Ops) (v0 : List Bs) (v1 : Bool) : Option ((Bs × zxQ)) :=
 bif ((v0.length : Int) == 0) then some (([] : Bs), v0, true) else ((idx v0 (0 : Int)).bind fun v2 => (subL v0 (1 : Int)).bind fun v3 => some (v2, v3, v1))
def zcE (o : Ops) : SC := ⟨⟨[(0, (.ptr 0 0))], [zzV]⟩, 1, [(none, ⟨[(0, hS)], [zzV]⟩)], fun x => zaE o x.1 x.2⟩
theorem zeK : SCok Tryz.prog tabs 81 (zcE o) := yrC (o := o) (η := []) (Γ := ⟨[], [], false, []⟩) (ctok trivial trivial) Tryz.func81
def zcG (o : Ops) (v0 : Int) (v1 : Int) (v4 : (Bs × zxQ)) (v5 : Int × Bool) : Option ((Bool × zxQ)) :=
 bif (!v5.2) then some (true, v4.2) else (bif decide (v5.1 < v0) then some (true, v4.2) else some (decide (v5.1 > v1), v4.2))
def zaJ (o : Ops) (v0 : Int) (v1 : Int) (v2 : List Bs) (v3 : Bool) : Option ((Int × zxQ)) :=
 (zaE o v2 v3).bind fun v4 => (zbM o v4.1).bind fun v5 => (zcG o v0 v1 v4 v5).bind fun v6 => bif v6.1 then some (v0, v6.2.1, true) else some (v5.1, v6.2)
def zfE (o : Ops) : SC := ⟨⟨[(0, (.ptr 0 0)), (1, hI), (2, hI)], [zzV]⟩, 1, [(none, ⟨[(0, hI)], [zzV]⟩)], fun x => zaJ o x.1 x.2.1 x.2.2.1 x.2.2.2⟩
theorem zjN : SCok Tryz.prog tabs 82 (zfE o) := yrC (o := o) (η := [(2300003, .join [] [1, 7] [(none, ⟨[(0, (.ptr 0 0)), (26, hB)], [zzV]⟩)])]) (Γ := ⟨[(112, (zeC o))], [(81, (zcE o))], false, []⟩) (ctok ⟨zgF, trivial⟩ ⟨zeK, trivial⟩) Tryz.func82
def zeS (o : Ops) (v0 : Bs × Bs) : Option ((Bool × Bs × Bs × Bs × Bs × Int × Int × Int) ⊕ (Bs × Bs × Bs × Bs × Bs × Bs × Int × Int × Int)) :=
 bif decide ((v0.1.length : Int) < 7) then some (.inl (false, ([] : Bs), ([] : Bs), ([] : Bs), ([] : Bs), (0 : Int), (0 : Int), (0 : Int))) else ((subH v0.1 (6 : Int)).bind fun v1 => bif (v1 != ([108, 111, 103, 105, 110, 47] : Bs)) then some (.inl (false, ([] : Bs), ([] : Bs), ([] : Bs), ([] : Bs), (0 : Int), (0 : Int), (0 : Int))) else ((subL v0.1 (6 : Int)).bind fun v2 => (zdJ o v2).bind fun v3 => bif (!v3) then some (.inl (false, ([] : Bs), ([] : Bs), ([] : Bs), ([] : Bs), (0 : Int), (0 : Int), (0 : Int))) else some (.inr (v0.1, v0.2, ([] : Bs), ([] : Bs), ([] : Bs), ([] : Bs), (0 : Int), (0 : Int), (0 : Int)))))
def zgY (o : Ops) (v17 : Bs) (v18 : Bs) (v19 : Bs) (v20 : Bs) (v21 : Int) (v22 : Int) (v23 : Int) (v26 : Bs) (v27 : Bs) (v28 : Bs) (v29 : Bs) (v30 : Int) (v31 : Int) (v32 : Int) (v33 : List zuF) (v34 : (Bs × zxQ)) (v35 : (Bs × zxQ)) (v36 : (Bs × zxQ)) (v37 : (Int × zxQ)) : Option ((Bool × zgL) ⊕ (Bs × Bs × Bs × Bs × Int × Int × Int × (List Bs) × Bool × Bs × Bs × Bs × Bs × Int × Int × Int × Bs × Bs × Bs × Int × List zuF)) :=
 (zdV o (v34.1, v35.1, v36.1, v37.1)).bind fun v38 => bif (!v38) then some (.inl (false, v26, v27, v28, v29, v30, v31, v32, v33)) else ((zaX o v33 v34.1).bind fun v39 => bif decide (v39 ≥ 0) then some (.inl (false, v26, v27, v28, v29, v30, v31, v32, v33)) else some (.inr (v17, v18, v19, v20, v21, v22, v23, v37.2.1, v37.2.2, v26, v27, v28, v29, v30, v31, v32, v34.1, v35.1, v36.1, v37.1, v33)))
def zbX (o : Ops) (v15 : (Int × zxQ)) (v16 : Int) (v17 : Bs) (v18 : Bs) (v19 : Bs) (v20 : Bs) (v21 : Int) (v22 : Int) (v23 : Int) (v24 : List Bs) (v25 : Bool) (v26 : Bs) (v27 : Bs) (v28 : Bs) (v29 : Bs) (v30 : Int) (v31 : Int) (v32 : Int) (v33 : List zuF) : Option ((Int × Bs × Bs × Bs × Bs × Int × Int × Int × (List Bs) × Bool × zgL) ⊕ ((Bool × zgL) ⊕ (Bs × Bs × Bs × Bs × Int × Int × Int × (List Bs) × Bool × zgL))) :=
 bif decide (v16 < v15.1) then ((zaE o v24 v25).bind fun v34 => (zaE o v34.2.1 v34.2.2).bind fun v35 => (zaE o v35.2.1 v35.2.2).bind fun v36 => (zaJ o (0 : Int) (4294967295 : Int) v36.2.1 v36.2.2).bind fun v37 => (zgY o v17 v18 v19 v20 v21 v22 v23 v26 v27 v28 v29 v30 v31 v32 v33 v34 v35 v36 v37).bind fun v40 => match v40 with
 | .inl v41 => some (.inr (.inl v41))
 | .inr v42 => ((app v42.2.2.2.2.2.2.2.2.2.2.2.2.2.2.2.2.2.2.2.2 ([(v42.2.2.2.2.2.2.2.2.2.2.2.2.2.2.2.2.1, v42.2.2.2.2.2.2.2.2.2.2.2.2.2.2.2.2.2.1, v42.2.2.2.2.2.2.2.2.2.2.2.2.2.2.2.2.2.2.1, v42.2.2.2.2.2.2.2.2.2.2.2.2.2.2.2.2.2.2.2.1)] : List zuF)).bind fun v43 => some (.inl (w64 (v16 + 1), v42.1, v42.2.1, v42.2.2.1, v42.2.2.2.1, v42.2.2.2.2.1, v42.2.2.2.2.2.1, v42.2.2.2.2.2.2.1, v42.2.2.2.2.2.2.2.1, v42.2.2.2.2.2.2.2.2.1, v42.2.2.2.2.2.2.2.2.2.1, v42.2.2.2.2.2.2.2.2.2.2.1, v42.2.2.2.2.2.2.2.2.2.2.2.1, v42.2.2.2.2.2.2.2.2.2.2.2.2.1, v42.2.2.2.2.2.2.2.2.2.2.2.2.2.1, v42.2.2.2.2.2.2.2.2.2.2.2.2.2.2.1, v42.2.2.2.2.2.2.2.2.2.2.2.2.2.2.2.1, v43)))) else some (.inr (.inr (v17, v18, v19, v20, v21, v22, v23, v24, v25, v26, v27, v28, v29, v30, v31, v32, v33)))
def zeT (o : Ops) (v46 : Bs × Bs × Bs × Bs × Int × Int × Int × (List Bs) × Bool × zgL) : Option ((Bool × Bs × Bs × Bs × Bs × Int × Int × Int × (List Bs) × Bool × zgL)) :=
 bif (v46.2.2.2.2.2.2.2.2.2.2.2.2.1 == ([] : Bs)) then some (true, v46) else (let v47 : Bool := decide ((v46.2.2.2.2.2.2.2.2.2.2.2.2.1.length : Int) ≥ 16)
 bif v47 then (let v48 : Bool := decide ((v46.2.2.2.2.2.2.2.2.2.2.2.2.1.length : Int) ≤ 64)
 some (v48, v46)) else some (false, v46))
def zdD (o : Ops) (v0 : Bs × Bs) : Option (zgL × Bool) :=
 (zeS o v0).bind fun v4 => match v4 with
 | .inl v5 => (some ((v5.2.1, v5.2.2.1, v5.2.2.2.1, v5.2.2.2.2.1, v5.2.2.2.2.2.1, v5.2.2.2.2.2.2.1, v5.2.2.2.2.2.2.2, ([] : List zuF)), v5.1))
 | .inr v6 => ((zcZ o v6.2.1).bind fun v7 => (subL v6.1 (6 : Int)).bind fun v8 => (zaE o v7.1 false).bind fun v9 => (zaE o v9.2.1 v9.2.2).bind fun v10 => (zaE o v10.2.1 v10.2.2).bind fun v11 => (zaJ o (0 : Int) (2199023255552 : Int) v11.2.1 v11.2.2).bind fun v12 => (zaJ o (0 : Int) (4 : Int) v12.2.1 v12.2.2).bind fun v13 => (zaJ o (0 : Int) (2199023255552 : Int) v13.2.1 v13.2.2).bind fun v14 => (zaJ o (0 : Int) (4 : Int) v14.2.1 v14.2.2).bind fun v15 => (iter (fun x => zbX o v15 x.1 x.2.1 x.2.2.1 x.2.2.2.1 x.2.2.2.2.1 x.2.2.2.2.2.1 x.2.2.2.2.2.2.1 x.2.2.2.2.2.2.2.1 x.2.2.2.2.2.2.2.2.1 x.2.2.2.2.2.2.2.2.2.1 x.2.2.2.2.2.2.2.2.2.2.1 x.2.2.2.2.2.2.2.2.2.2.2.1 x.2.2.2.2.2.2.2.2.2.2.2.2.1 x.2.2.2.2.2.2.2.2.2.2.2.2.2.1 x.2.2.2.2.2.2.2.2.2.2.2.2.2.2.1 x.2.2.2.2.2.2.2.2.2.2.2.2.2.2.2.1 x.2.2.2.2.2.2.2.2.2.2.2.2.2.2.2.2.1 x.2.2.2.2.2.2.2.2.2.2.2.2.2.2.2.2.2) ((0 : Int), v6.2.2.1, v6.2.2.2.1, v6.2.2.2.2.1, v6.2.2.2.2.2.1, v6.2.2.2.2.2.2.1, v6.2.2.2.2.2.2.2.1, v6.2.2.2.2.2.2.2.2, v15.2.1, v15.2.2, v8, v9.1, v10.1, v11.1, v12.1, v13.1, v14.1, ([] : List zuF))).bind fun v44 => match v44 with
 | .inl v45 => (some (v45.2, v45.1))
 | .inr v46 => ((zeT o v46).bind fun v49 => bif v7.2 then (bif (!v49.2.2.2.2.2.2.2.2.2.1) then (bif ((v49.2.2.2.2.2.2.2.2.1.length : Int) == 0) then (bif ((v49.2.2.2.2.2.2.2.2.2.2.2.1.length : Int) == 16) then (bif ((v49.2.2.2.2.2.2.2.2.2.2.2.2.1.length : Int) == 32) then (some (v49.2.2.2.2.2.2.2.2.2.2, v49.1)) else (some (v49.2.2.2.2.2.2.2.2.2.2, false))) else (some (v49.2.2.2.2.2.2.2.2.2.2, false))) else (some (v49.2.2.2.2.2.2.2.2.2.2, false))) else (some (v49.2.2.2.2.2.2.2.2.2.2, false))) else (some (v49.2.2.2.2.2.2.2.2.2.2, false))))
def zhI (o : Ops) : PC := ⟨[(.h (.pr .s .s))], [ztY, .b], fun x => zdD o x, false⟩
theorem znW : PCok Tryz.prog tabs 35 (zhI o) := zxY (o := o) (η := [(2000003, .join [] [] [(some 1000000, ⟨[(2, (.ptr 0 0)), (3, hB)], [yjX]⟩), (none, ⟨[(1, (.ptr 0 0)), (2, (.ptr 1 0))], [.blk 24 [hS, hS], yjX]⟩)]),
 (2000021, .join [] [5, 8, 9] [(some 1000000, ⟨[(2, (.ptr 0 0)), (3, hB)], [.blk 53 [hS, hS, hS, hS, hI, hI, hI, (.own 1)], .osl zzY 58]⟩), (none, ⟨[(2, (.ptr 0 0)), (6, (.ptr 1 0)), (7, (.ptr 2 0)), (10, (.ptr 3 0))], [yjX, zzV, .blk 53 [hS, hS, hS, hS, hI, hI, hI, (.own 4)], .blk 58 [hS, hS, hS, hI], .osl zzY 58]⟩)]),
 (200013, .loop [.cell 7 7 zzY 58] ⟨[(2, (.ptr 0 0)), (6, (.ptr 1 0)), (7, (.ptr 2 0)), (9, hI)], [yjX, zzV, yyA, .osl zzY 58]⟩ [5, 8] [(some 1000000, ⟨[(2, (.ptr 0 0)), (3, hB)], [.blk 53 [hS, hS, hS, hS, hI, hI, hI, (.own 1)], .osl zzY 58]⟩), (some 0, ⟨[(2, (.ptr 0 0)), (6, (.ptr 1 0)), (7, (.ptr 2 0))], [yjX, zzV, yyA, .osl zzY 58]⟩)]),
 (2000023, .join [] [5] [(none, ⟨[(2, (.ptr 0 0)), (6, (.ptr 1 0)), (7, (.ptr 2 0)), (11, hB)], [yjX, zzV, yyA, .osl zzY 58]⟩)]),
 (4000005, .sch [(.pu, 0, [2]), (.pu, 1, [2]), (.pu, 2, [2]), (.pu, 3, []), (.la, 6, []), (.mn, 4, [2]), (.pu, 5, []), (.rv, 6, []), (.mn, 7, [4])]),
 (4000023, .sch [(.pu, 0, []), (.pu, 1, []), (.pu, 2, []), (.pu, 3, []), (.pu, 4, []), (.pu, 5, []), (.pu, 6, []), (.pu, 7, []), (.pu, 8, []), (.pu, 9, []), (.pu, 10, []), (.pu, 11, []), (.pu, 12, []), (.pu, 13, []), (.pu, 14, []), (.pu, 15, []), (.pu, 16, []), (.pu, 17, []), (.pu, 18, []), (.pu, 19, []), (.pu, 20, []), (.pu, 21, []), (.pu, 22, []), (.pu, 23, []), (.pu, 24, []), (.pu, 25, []), (.pu, 26, []), (.pu, 27, []), (.pu, 28, []), (.pu, 29, []), (.pu, 30, [0]), (.pu, 31, [0]), (.mn, 32, [0]), (.pu, 33, [])])]) (Γ := ⟨[(79, (zhM o)), (80, (zgT o)), (83, (ziN o)), (84, (zhG o))], [(81, (zcE o)), (82, (zfE o))], false, []⟩) (ctok ⟨znZ, ⟨zmZ, ⟨zpM, ⟨zoC, trivial⟩⟩⟩⟩ ⟨zeK, ⟨zjN, trivial⟩⟩) Tryz.func35
def zbN (o : Ops) (v0 : List (Bs × Bs)) (v1 : Int) (v2 : List zgL) (v4 : zgL × Bool) : Option (Int ⊕ (Bs × Bs × Bs × Bs × Int × Int × Int × (List zuF) × List zgL)) :=
 bif (!v4.2) then some (.inl (155 : Int)) else (bif decide (v1 > 0) then ((idx v0 v1).bind fun v5 => (idx v0 (w64 (v1 - 1))).bind fun v6 => bif (Op.bytesLess v5.1 v6.1 || v5.1 == v6.1) then some (.inl (155 : Int)) else some (.inr (v4.1.1, v4.1.2.1, v4.1.2.2.1, v4.1.2.2.2.1, v4.1.2.2.2.2.1, v4.1.2.2.2.2.2.1, v4.1.2.2.2.2.2.2.1, v4.1.2.2.2.2.2.2.2, v2))) else some (.inr (v4.1.1, v4.1.2.1, v4.1.2.2.1, v4.1.2.2.2.1, v4.1.2.2.2.2.1, v4.1.2.2.2.2.2.1, v4.1.2.2.2.2.2.2.1, v4.1.2.2.2.2.2.2.2, v2)))
def zaR (o : Ops) (v0 : List (Bs × Bs)) (v1 : Int) (v2 : List zgL) : Option ((Int × List zgL) ⊕ (Int ⊕ (List zgL))) :=
 bif decide (v1 < (v0.length : Int)) then ((idx v0 v1).bind fun v3 => (zdD o v3).bind fun v4 => (zbN o v0 v1 v2 v4).bind fun v7 => match v7 with
 | .inl v8 => some (.inr (.inl v8))
 | .inr v9 => ((app v9.2.2.2.2.2.2.2.2 ([(v9.1, v9.2.1, v9.2.2.1, v9.2.2.2.1, v9.2.2.2.2.1, v9.2.2.2.2.2.1, v9.2.2.2.2.2.2.1, v9.2.2.2.2.2.2.2.1)] : List zgL)).bind fun v10 => some (.inl (w64 (v1 + 1), v10)))) else some (.inr (.inr v2))
def zbI (o : Ops) (v0 : List (Bs × Bs)) : Option (Int ⊕ (Int × List zgL)) :=
 (iter (fun x => zaR o v0 x.1 x.2) ((0 : Int), ([] : List zgL))).bind fun v11 => match v11 with
 | .inl v12 => some (.inl v12)
 | .inr v13 => (bif decide ((v0.length : Int) > 64) then some (.inl (155 : Int)) else some (.inr ((0 : Int), v13)))
def zhJ (o : Ops) : SC := ⟨⟨[(0, (.h (.sl (.pr .s .s))))], []⟩, 2, [(none, ⟨[(0, .nilp), (1, hI)], []⟩), (none, ⟨[(0, (.ptr 0 0)), (1, hI)], [xaD, .osl ztY 53]⟩)], fun x => zbI o x⟩
theorem znX : SCok Tryz.prog tabs 10 (zhJ o) := yrC (o := o) (η := [(2000008, .join [] [0, 5] [(some 1000000, ⟨[(2, .nilp), (3, hI)], []⟩), (none, ⟨[(4, (.ptr 0 0)), (6, (.ptr 1 0))], [.blk 38 [(.own 2)], ylO, .osl ztY 53]⟩)]),
 (200003, .loop [.cell 4 0 ztY 53] ⟨[(4, (.ptr 0 0)), (5, hI)], [xaD, .osl ztY 53]⟩ [0] [(some 1000000, ⟨[(2, .nilp), (3, hI)], []⟩), (some 0, ⟨[(4, (.ptr 0 0))], [xaD, .osl ztY 53]⟩)]),
 (4000006, .sch [(.pu, 0, []), (.pu, 1, []), (.pu, 2, []), (.pu, 3, []), (.pu, 4, []), (.pu, 5, []), (.pu, 6, []), (.pu, 7, []), (.pu, 8, []), (.pu, 9, []), (.pu, 10, []), (.pu, 11, []), (.pu, 12, []), (.pu, 13, []), (.pu, 14, []), (.pu, 15, []), (.pu, 16, []), (.pu, 17, []), (.pu, 18, []), (.pu, 19, [])]),
 (4000008, .sch [(.pu, 0, [2]), (.pu, 1, []), (.pu, 2, []), (.pu, 3, []), (.pu, 4, []), (.pu, 5, []), (.mn, 6, []), (.mn, 7, [2]), (.pu, 8, []), (.pu, 9, []), (.mn, 10, [0])])]) (Γ := ⟨[(35, (zhI o))], [], false, []⟩) (ctok ⟨znW, trivial⟩ trivial) Tryz.func10
def zcX (o : Ops) (v3 : Int) (v4 : Bs) (v5 : Bs) (v6 : Bs) (v7 : Bs) (v8 : Int) (v9 : Int) (v10 : Int) (v11 : List zuF) (v12 : Bs) (v13 : Bs) (v14 : Bs) (v15 : Bs) (v16 : Int) (v17 : Int) (v18 : Int) (v19 : List zuF) : Option ((Int × Bs × Bs × Bs × Bs × Int × Int × Int × (List zuF) × zgL) ⊕ (Bool ⊕ (Bs × Bs × Bs × Bs × Int × Int × Int × (List zuF) × zgL))) :=
 bif decide (v3 < (v11.length : Int)) then ((idx v11 v3).bind fun v20 => (idx v19 v3).bind fun v21 => let v22 : Bool := (!((v20.1 == v21.1) && ((v20.2.1 == v21.2.1) && ((v20.2.2.1 == v21.2.2.1) && (decide (v20.2.2.2 = v21.2.2.2))))))
 bif v22 then some (.inr (.inl false)) else some (.inl (w64 (v3 + 1), v4, v5, v6, v7, v8, v9, v10, v11, v12, v13, v14, v15, v16, v17, v18, v19))) else some (.inr (.inr (v4, v5, v6, v7, v8, v9, v10, v11, v12, v13, v14, v15, v16, v17, v18, v19)))
def zdI (o : Ops) (v0 : zgL) (v1 : zgL) : Option (Bool) :=
 let v2 : Bool := ((v0.2.2.2.2.2.2.2.length : Int) != (v1.2.2.2.2.2.2.2.length : Int))
 bif v2 then (some false) else ((iter (fun x => zcX o x.1 x.2.1 x.2.2.1 x.2.2.2.1 x.2.2.2.2.1 x.2.2.2.2.2.1 x.2.2.2.2.2.2.1 x.2.2.2.2.2.2.2.1 x.2.2.2.2.2.2.2.2.1 x.2.2.2.2.2.2.2.2.2.1 x.2.2.2.2.2.2.2.2.2.2.1 x.2.2.2.2.2.2.2.2.2.2.2.1 x.2.2.2.2.2.2.2.2.2.2.2.2.1 x.2.2.2.2.2.2.2.2.2.2.2.2.2.1 x.2.2.2.2.2.2.2.2.2.2.2.2.2.2.1 x.2.2.2.2.2.2.2.2.2.2.2.2.2.2.2.1 x.2.2.2.2.2.2.2.2.2.2.2.2.2.2.2.2) ((0 : Int), v0.1, v0.2.1, v0.2.2.1, v0.2.2.2.1, v0.2.2.2.2.1, v0.2.2.2.2.2.1, v0.2.2.2.2.2.2.1, v0.2.2.2.2.2.2.2, v1)).bind fun v23 => match v23 with
 | .inl v24 => (some v24)
 | .inr v25 => (bif (v25.1 == v25.2.2.2.2.2.2.2.2.1) then (bif (v25.2.1 == v25.2.2.2.2.2.2.2.2.2.1) then (bif (v25.2.2.1 == v25.2.2.2.2.2.2.2.2.2.2.1) then (bif (v25.2.2.2.1 == v25.2.2.2.2.2.2.2.2.2.2.2.1) then (bif (v25.2.2.2.2.1 == v25.2.2.2.2.2.2.2.2.2.2.2.2.1) then (bif (v25.2.2.2.2.2.1 == v25.2.2.2.2.2.2.2.2.2.2.2.2.2.1) then (some (v25.2.2.2.2.2.2.1 == v25.2.2.2.2.2.2.2.2.2.2.2.2.2.2.1)) else (some false)) else (some false)) else (some false)) else (some false)) else (some false)) else (some false)))
def zhP (o : Ops) : PC := ⟨[(.h ztY), (.h ztY)], [.b], fun x => zdI o x.1 x.2, false⟩
theorem zoA : PCok Tryz.prog tabs 32 (zhP o) := zxY (o := o) (η := [(200004, .loop [] ⟨[(2, (.ptr 0 0)), (3, (.ptr 1 0)), (5, hI)], [ylO, ylO]⟩ [] [(some 1000000, ⟨[(4, hB)], []⟩), (some 0, ⟨[(2, (.ptr 0 0)), (3, (.ptr 1 0))], [ylO, ylO]⟩)]),
 (4000006, .sch [(.pu, 0, []), (.pu, 1, []), (.pu, 2, []), (.pu, 3, []), (.pu, 4, []), (.pu, 5, []), (.pu, 6, []), (.pu, 7, []), (.pu, 8, []), (.pu, 9, []), (.pu, 10, [])])]) (Γ := ⟨[], [], false, []⟩) (ctok trivial trivial) Tryz.func32
def zdQ (o : Ops) (v0 : List zgL) (v1 : List zgL) (v2 : Int) : Option (Int ⊕ (Bool ⊕ Unit)) :=
 bif decide (v2 < (v0.length : Int)) then ((idx v0 v2).bind fun v3 => (idx v1 v2).bind fun v4 => (zdI o v3 v4).bind fun v5 => bif (!v5) then some (.inr (.inl false)) else some (.inl (w64 (v2 + 1)))) else some (.inr (.inr ()))
def zcD (o : Ops) (v0 : List zgL) (v1 : List zgL) : Option (Bool) :=
 bif ((v0.length : Int) != (v1.length : Int)) then (some false) else ((iter (zdQ o v0 v1) (0 : Int)).bind fun v6 => match v6 with
 | .inl v7 => (some v7)
 | .inr v8 => (some true))
def zfU (o : Ops) : PC := ⟨[(.h (.sl ztY)), (.h (.sl ztY))], [.b], fun x => zcD o x.1 x.2, false⟩
theorem zlD : PCok Tryz.prog tabs 13 (zfU o) := zxY (o := o) (η := [(200004, .loop [] ⟨[(5, hI)], []⟩ [0, 1] [(some 1000000, ⟨[(4, hB)], []⟩), (some 0, ⟨[], []⟩)]),
 (4000006, .sch [(.pu, 0, []), (.pu, 1, []), (.pu, 2, []), (.pu, 3, []), (.pu, 4, []), (.pu, 5, []), (.pu, 6, []), (.pu, 7, []), (.mn, 8, []), (.pu, 9, [])])]) (Γ := ⟨[(32, (zhP o))], [], false, []⟩) (ctok ⟨zoA, trivial⟩ trivial) Tryz.func13
def zcH (o : Ops) (v0 : List (Bs × Bs)) (v2 : List (Bs × Bs)) (v5 : Int) (v8 : Int) : Option (Bool ⊕ Unit) :=
 bif (v5 != v8) then some (.inl false) else ((zaV o (List.take ((v0.length : Int).toNat) v2) v0).bind fun v10 => bif (!v10) then some (.inl false) else ((subH v2 (w64 ((v0.length : Int) + 1))).bind fun v11 => (idx v11 (v0.length : Int)).bind fun v12 => bif (v12.1 != ([98, 101, 104, 105, 110, 100] : Bs)) then some (.inl false) else some (.inr ())))
def zjD (o : Ops) (v5 : Int) (v9 : (Int × List zgL)) : Option (Bool) :=
 bif (v5 != v9.1) then some false else some false
def zjK (o : Ops) (v6 : (Int × List (Bs × zgL))) (v19 : Int) : Option (Bool) :=
 bif (v6.1 != v19) then some false else some false
def zcK (o : Ops) (v0 : List (Bs × Bs)) (v2 : List (Bs × Bs)) (v6 : (Int × List (Bs × zgL))) (v20 : (Int × List zgL)) : Option (Bool ⊕ ((List (Bs × zgL)) × List zgL)) :=
 bif (v6.1 != v20.1) then some (.inl false) else ((zaV o (List.take ((v0.length : Int).toNat) v2) v0).bind fun v22 => bif (!v22) then some (.inl false) else ((subH v2 (w64 ((v0.length : Int) + 1))).bind fun v23 => (idx v23 (v0.length : Int)).bind fun v24 => bif (v24.1 != ([98, 101, 104, 105, 110, 100] : Bs)) then some (.inl false) else some (.inr (v6.2, v20.2))))
def zbO (o : Ops) (v0 : List (Bs × Bs)) : Option (Bool) :=
 (app ([] : List (Bs × Bs)) v0).bind fun v1 => (app v1 ([(([98, 101, 104, 105, 110, 100] : Bs), ([] : Bs))] : List (Bs × Bs))).bind fun v2 => (subH v2 (v0.length : Int)).bind fun v3 => (zgI o (List.take ((v0.length : Int).toNat) v2)).bind fun v4 => match v4 with
 | .inl v5 => ((zbI o v0).bind fun v7 => match v7 with
 | .inl v8 => ((zcH o v0 v2 v5 v8).bind fun v13 => match v13 with
 | .inl v14 => (some v14)
 | .inr v15 => ((some true).bind fun v16 => some v16))
 | .inr v9 => ((zjD o v5 v9).bind fun v17 => some v17))
 | .inr v6 => ((zbI o v0).bind fun v18 => match v18 with
 | .inl v19 => ((zjK o v6 v19).bind fun v21 => some v21)
 | .inr v20 => ((zcK o v0 v2 v6 v20).bind fun v25 => match v25 with
 | .inl v26 => (some v26)
 | .inr v27 => ((zcR o v27.1).bind fun v28 => (zcD o v28.2 v27.2).bind fun v29 => bif v29 then ((zdK o v28.1).bind fun v30 => (zaV o v30.1 v0).bind fun v31 => bif v31 then ((some true).bind fun v32 => some v32) else (some false)) else (some false))))
def zjO (o : Ops) : PC := ⟨[(.h (.sl (.pr .s .s)))], [.b], fun x => zbO o x, false⟩
theorem zuP : PCok Tryz.prog tabs 3 (zjO o) := zxY (o := o) (η := [(2000006, .whn 4 1 (.whn 6 1 (.join [] [0, 4, 6] [(some 1000000, ⟨[(2, hB)], []⟩), (none, ⟨[], []⟩)]))),
 (2000006, .whn 4 1 (.whn 6 2 (.join [] [] [(some 1000000, ⟨[(2, hB)], []⟩)]))),
 (2000006, .whn 4 2 (.whn 6 1 (.join [] [] [(some 1000000, ⟨[(2, hB)], []⟩)]))),
 (2000006, .whn 4 2 (.whn 6 2 (.join [] [0] [(some 1000000, ⟨[(2, hB)], []⟩), (none, ⟨[(4, (.ptr 0 0)), (6, (.ptr 1 0))], [.blk 79 [(.mpr 2)], .blk 38 [(.own 3)], .mp true .s ztY, .osl ztY 53]⟩)]))),
 (4000008, .sch [(.pu, 0, []), (.pu, 2, [0, 2]), (.pu, 3, [0, 2]), (.pu, 4, [0, 2]), (.pu, 5, [0, 2]), (.mn, 1, [0, 2]), (.mn, 6, []), (.pu, 7, []), (.pu, 8, []), (.pu, 10, [0, 2]), (.mn, 9, [0, 2]), (.mn, 11, []), (.pu, 12, []), (.pu, 13, []), (.mn, 14, []), (.pu, 15, []), (.pu, 16, [])])]) (Γ := ⟨[(11, (zfO o)), (12, yjK), (13, (zfU o))], [(9, (zmJ o)), (10, (zhJ o)), (14, (zfF o)), (15, (zgA o))], false, []⟩) (ctok ⟨zkL, ⟨ysD, ⟨zlD, trivial⟩⟩⟩ ⟨zrN, ⟨znX, ⟨zgZ, ⟨zkD, trivial⟩⟩⟩⟩) Tryz.func3
end
section
variable {α β γ σ : Type}
def T (o : Option α) (P : α → Prop) : Prop := ∃ r, o = some r ∧ P r
theorem T.eq {o : Option α} {v : α} (h : T o fun r => r = v) : o = some v := by
 obtain ⟨r, h1, rfl⟩ := h; exact h1
theorem T.ok {a : α} {P : α → Prop} (h : P a) : T (some a) P := ⟨a, rfl, h⟩
theorem T.bind {o : Option α} {f : α → Option β} {Q : α → Prop} {P : β → Prop} (h : T o Q) (g : ∀ a, Q a → T (f a) P) : T (o.bind f) P := by
 obtain ⟨a, rfl, h⟩ := h
 exact g a h
theorem T.bif {c : Bool} {a b : Option α} {P : α → Prop} (h : c = true → T a P) (g : c = false → T b P) : T (bif c then a else b) P := by
 cases c
 ·exact g rfl
 ·exact h rfl
theorem T.dif {p : Prop} [Decidable p] {a b : Option α} {P : α → Prop} (h : p → T a P) (g : ¬ p → T b P) : T (bif decide p then a else b) P :=
 T.bif (fun e => h (of_decide_eq_true e)) fun e => g (of_decide_eq_false e)
theorem T.mono {o : Option α} {P Q : α → Prop} (h : T o P) (g : ∀ a, P a → Q a) : T o Q := by
 obtain ⟨a, h1, h2⟩ := h
 exact ⟨a, h1, g a h2⟩
theorem T.get {o : Option Bool} {P : Bool → Prop} (h : T o P) : o = some (o.getD false) := by
 obtain ⟨a, rfl, _⟩ := h
 rfl
theorem T.at {o : Option α} {P : α → Prop} {a : α} (h : T o P) (e : o = some a) : P a := by
 obtain ⟨b, e2, h2⟩ := h
 rw [e] at e2
 cases e2
 exact h2
theorem T.idx {l : List α} {i : Int} {P : α → Prop} (h0 : 0 ≤ i) (h : i < (l.length : Int)) (g : ∀ (k : Nat) (hk : k < l.length), i = (k : Int) → P l[k]) : T (idx l i) P := by
 obtain ⟨k, rfl⟩ : ∃ k : Nat, i = k := ⟨i.toNat, by omega⟩
 exact ⟨_, zdC rfl (by omega), g k (by omega) rfl⟩
theorem T.ix {l : List α} {i : Int} (h0 : 0 ≤ i) (h : i < (l.length : Int)) : T (Go.Proofs.YtmkomlbiaebddaaGreatDoor.idx l i) fun _ => True := T.idx h0 h fun _ _ _ => trivial
theorem T.iter {body : σ → Option (σ ⊕ β)} (I : σ → Prop) (m : σ → Nat) (G : β → Prop) (hr : ∀ s, I s → T (body s) fun r => match r with
  | .inl s' => I s' ∧ m s' < m s
  | .inr b => G b) {s : σ} (hs : I s) (hm : m s < 1099511627776) : T (iter body s) G :=
 zvS I m G (fun s hs => by
  obtain ⟨r, h1, h2⟩ := hr s hs
  cases r with
  | inl s' => exact .inl ⟨s', h1, h2⟩
  | inr b => exact .inr ⟨b, h1, h2⟩) FU s hs (by unfold FU; exact hm)
theorem T.app {a b : List α} {P : List α → Prop} (h : a.length + b.length ≤ 68719476736) (g : P (a ++ b)) : T (app a b) P := ⟨_, zdO h, g⟩
theorem T.places {body : Int → Option (Int ⊕ β)} (n : Nat) (hn : n < 1099511627776) (G : β → Prop) (hr : ∀ k : Nat, k ≤ n → T (body (k : Int)) fun r => match r with
  | .inl s' => s' = ((k + 1 : Nat) : Int) ∧ k < n
  | .inr b => G b) : T (Go.Proofs.YtmkomlbiaebddaaGreatDoor.iter body 0) G := by
 refine T.iter (fun i => 0 ≤ i ∧ i ≤ (n : Int)) (fun i => (n - i).toNat) G (fun i hi => ?_) ⟨by omega, by omega⟩ (by omega)
 obtain ⟨k, rfl⟩ : ∃ k : Nat, i = k := ⟨i.toNat, by omega⟩
 refine (hr k (by omega)).mono fun r h => ?_
 cases r with
 | inl s => obtain ⟨rfl, h⟩ := h; exact ⟨⟨by omega, by omega⟩, by omega⟩
 | inr b => exact h
end
theorem zzP {k : Nat} (h : k < 1099511627776) : w64 ((k : Int) + 1) = ((k + 1 : Nat) : Int) := by rw [zcP (by omega) (by omega)]; omega
theorem xdO (s cs : Bs) (h : s.length ≤ 1048576) (h2 : cs.length < 4294967281) (h3 : cs.all (fun b => decide (b.toNat < 128)) = true) : T (zaB.trim s cs) fun _ => True := by
 refine ⟨Lib.trimS s cs, ?_, trivial⟩
 show zuB s cs = _
 unfold zuB
 rw [decide_eq_true (show s.length ≤ 9223372036854775807 by omega), decide_eq_true h2, h3]
 rfl
theorem of_t (v : Bs) (n : Int) (cs : Bs) (hn : n ≤ 1048576) (h2 : cs.length < 4294967281) (h3 : cs.all (fun b => decide (b.toNat < 128)) = true) : T (zhY zaB v n cs) fun _ => True := by
 unfold zhY
 refine T.bif (fun _ => T.dif (fun h => ?_) fun _ => T.ok trivial) fun _ => T.ok trivial
 exact (xdO v cs (by omega) h2 h3).bind fun _ _ => T.ok trivial
theorem xeR (s : Bs) : T (zbY zaB s) fun _ => True := by
 unfold zbY
 exact (of_t s _ _ (by decide) (by decide) (by decide)).bind fun _ _ => T.ok trivial
abbrev L8 : Type := Bs
def nmB (s : L8) : Bool := (zbY zaB s).getD false
theorem xaI (s : L8) : zbY zaB s = some (nmB s) := (xeR s).get
def numR (s : L8) : Int × Bool := bif numB s then ((vaF s : Int), true) else (0, false)
theorem yvU {s : L8} (h : s.length ≤ 1048576) : zaB.trim s tenL = some (Lib.trimS s tenL) := by
 show zuB s tenL = _
 unfold zuB
 rw [decide_eq_true (show s.length ≤ 9223372036854775807 by omega), decide_eq_true (show tenL.length < 4294967281 by decide), show tenL.all (fun b => decide (b.toNat < 128)) = true by decide]
 rfl
theorem is48 (b : UInt8) : ((b.toNat : Int) == ((48 : UInt8).toNat : Int)) = (b == 48) := by
 have := zpP (fun b => ((b.toNat : Int) == ((48 : UInt8).toNat : Int)) == (b == 48)) (by kernel_rfl) b
 simpa using this
theorem yeX {b : UInt8} {l : L8} (hl : ¬ ((b :: l).length : Int) > 15) (h48 : (b == 48) = false) : numB (b :: l) = (b :: l).all digB := by
 unfold numB
 rw [decide_eq_true (show (b :: l).length ≤ 15 by omega)]
 have h1 : ((b :: l).head? != some 48) = true := by simpa using h48
 rw [h1]
 rfl
theorem zyI (s : L8) (h : s.length ≤ 1048576) : zeB zaB s = some (numR s) := by
 cases hb : numB s with
 | true =>
  have hd := zmI hb
  unfold numR
  rw [hb]
  have := ylV (vaF s) hd.2
  rw [hd.1] at this
  exact this
 | false =>
  have hj : zeJ zaB s = some (.inl (0, false)) := by
   unfold zeJ
   cases s with
   | nil => rfl
   | cons b l =>
    rw [show ((b :: l : L8) == []) = false from rfl]
    simp only [cond_false]
    by_cases hl : ((b :: l).length : Int) > 15
    ·rw [zaY hl]
    ·rw [zbE hl, show idx (b :: l) 0 = some b from rfl, zaA, is48]
     cases h48 : b == 48 with
     | true =>
      simp only [cond_true]
      cases hz : (b :: l) != ([48] : L8) with
      | true => rfl
      | false =>
       have e : b :: l = [48] := by simpa using hz
       rw [e] at hb; exact absurd hb (by decide)
     | false =>
      simp only [cond_false]
      rw [yeX hl h48] at hb
      rw [show zaB.trim (b :: l) ([48, 49, 50, 51, 52, 53, 54, 55, 56, 57] : L8) = some (Lib.trimS (b :: l) tenL) from yvU h, zaA, yjH, hb]
      rfl
  unfold zeB numR
  rw [hj, hb]
  rfl
theorem xeG {b : UInt8} (h : 48 ≤ b.toNat ∧ b.toNat ≤ 57) : (i8 ((b.toNat : Int) - ((48 : UInt8).toNat : Int))).toNat = b.toNat - 48 := by
 have := zpP (fun b => !digB b || ((i8 ((b.toNat : Int) - ((48 : UInt8).toNat : Int))).toNat == b.toNat - 48)) (by kernel_rfl) b
 rw [ybS.2 h] at this
 simpa using this
theorem dg_j (b : UInt8) {α : Type} (x y : Option α) : (bif decide ((b.toNat : Int) < ((48 : UInt8).toNat : Int)) then x else (bif decide ((b.toNat : Int) > ((57 : UInt8).toNat : Int)) then x else y)) = bif digB b then y else x := by
 have e1 : ((48 : UInt8).toNat : Int) = 48 := rfl
 have e2 : ((57 : UInt8).toNat : Int) = 57 := rfl
 rw [e1, e2]
 unfold digB
 by_cases h1 : (b.toNat : Int) < 48
 ·rw [zaY h1, decide_eq_false (show ¬ 48 ≤ b.toNat by omega)]; rfl
 ·rw [zbE h1, decide_eq_true (show 48 ≤ b.toNat by omega)]
  by_cases h2 : (b.toNat : Int) > 57
  ·rw [zaY h2, decide_eq_false (show ¬ b.toNat ≤ 57 by omega)]; rfl
  ·rw [zbE h2, decide_eq_true (show b.toNat ≤ 57 by omega)]; rfl
theorem ygO {α : Type} {l : List α} {p : α → Bool} {k : Nat} (hk : k < l.length) : (l.take (k + 1)).all p = ((l.take k).all p && p l[k]) := by
 rw [List.take_succ_eq_append_getElem hk, List.all_append, List.all_cons, List.all_nil, Bool.and_true]
theorem yvK {α : Type} {l : List α} {p : α → Bool} {k : Nat} (hk : k < l.length) (h : p l[k] = false) : l.all p = false := by
 cases ha : l.all p with
 | false => rfl
 | true => rw [List.all_eq_true.1 ha _ (List.getElem_mem hk)] at h; cases h
theorem ysP {s : L8} {k : Nat} (hk : k < s.length) : vaF (s.take (k + 1)) = 10 * vaF (s.take k) + (s[k].toNat - 48) := by
 rw [List.take_succ_eq_append_getElem hk, yiI]
theorem xcH {s : L8} {R : Type} {body : Int × Int → Option ((Int × Int) ⊕ (R ⊕ Int))} {bad : R} (hs : s.length ≤ 15)
  (hb : ∀ (n : Nat) (k : Nat) (hk : k < s.length), n < 1000000000000000 → body ((n : Int), (k : Int)) = some (bif digB s[k] then .inl (((10 * n + (s[k].toNat - 48) : Nat) : Int), ((k + 1 : Nat) : Int)) else .inr (.inl bad)))
  (he : ∀ n : Int, body (n, (s.length : Int)) = some (.inr (.inr n))) : iter body ((0 : Int), (0 : Int)) = some (bif s.all digB then .inr (vaF s : Int) else .inl bad) := by
 have hT : T (iter body ((0 : Int), (0 : Int))) fun r => r = (bif s.all digB then .inr (vaF s : Int) else .inl bad) := by
  refine T.iter (fun x => 0 ≤ x.2 ∧ x.2 ≤ (s.length : Int) ∧ (s.take x.2.toNat).all digB = true ∧ x.1 = (vaF (s.take x.2.toNat) : Int)) (fun x => s.length - x.2.toNat) _ (fun x hx => ?_) ⟨Int.le_refl _, by simp, rfl, rfl⟩ (by simp; omega)
  obtain ⟨n, i⟩ := x
  obtain ⟨h1, h2, h3, h4⟩ := hx
  simp only at h1 h2 h3 h4
  obtain ⟨k, rfl⟩ : ∃ k : Nat, i = k := ⟨i.toNat, by omega⟩
  rw [Int.toNat_natCast] at h3 h4
  subst h4
  by_cases hk : k < s.length
  ·have hv : vaF (s.take k) < 1000000000000000 := yuY (ylF h3) (by rw [List.length_take]; omega)
   rw [hb _ k hk hv]
   cases hd : digB s[k] with
   | true =>
    refine T.ok ⟨⟨by simp only []; omega, by simp only []; omega, ?_, ?_⟩, by simp only []; omega⟩
    ·simp only [Int.toNat_natCast]; rw [ygO hk, h3, hd]; rfl
    ·simp only [Int.toNat_natCast]; rw [ysP hk]
   | false => exact T.ok (by rw [yvK hk hd]; rfl)
  ·obtain rfl : k = s.length := by omega
   rw [he]
   rw [List.take_of_length_le (Nat.le_refl _)] at h3 ⊢
   exact T.ok (by rw [h3]; rfl)
 obtain ⟨r, h1, rfl⟩ := hT
 exact h1
theorem yrT {n : Nat} (h : n ≤ 9223372036854775807) : w64 (n : Int) = (n : Int) := zcP (by omega) (by omega)
theorem zyM (s : L8) : zbM zaB s = some (numR s) := by
 have main : s.length ≤ 15 → (Option.bind (iter (fun x => zcC zaB s x.1 x.2) ((0 : Int), (0 : Int))) fun v14 => match v14 with
   | .inl v15 => (some v15)
   | .inr v16 => (some (v16, true))) = some (bif s.all digB then ((vaF s : Int), true) else (0, false)) := fun hs => by
  rw [xcH (bad := ((0 : Int), false)) hs (fun n k hk hn => ?_) (fun n => ?_), zaA]
  ·cases s.all digB <;> rfl
  ·unfold zcC zgE
   simp only []
   rw [zaY (show (k : Int) < (s.length : Int) by omega), zdC rfl hk, zaA, zaA, dg_j]
   cases hd : digB s[k] with
   | false => rfl
   | true =>
    have h1 := ybS.1 hd
    simp only [cond_true, zaA]
    rw [xeG h1, yrT (show s[k].toNat - 48 ≤ 9223372036854775807 by omega), show (10 : Int) * (n : Int) = ((10 * n : Nat) : Int) by omega, yrT (show 10 * n ≤ 9223372036854775807 by omega), show ((10 * n : Nat) : Int) + ((s[k].toNat - 48 : Nat) : Int) = ((10 * n + (s[k].toNat - 48) : Nat) : Int) by omega, yrT (show 10 * n + (s[k].toNat - 48) ≤ 9223372036854775807 by omega), zzP (by omega)]
  ·unfold zcC
   simp only []
   rw [zbE (by omega)]
 unfold zbM
 cases s with
 | nil => rfl
 | cons b l =>
  have hj : zdY zaB (b :: l) = some (bif decide (((b :: l).length : Int) > 15) then .inl (0, false) else (bif b == 48 then (bif (b :: l) != ([48] : L8) then .inl (0, false) else .inr ()) else .inr ())) := by
   unfold zdY
   rw [show ((b :: l : L8) == []) = false from rfl]
   simp only [cond_false]
   by_cases hl : ((b :: l).length : Int) > 15
   ·rw [zaY hl, zaY hl]
   ·rw [zbE hl, zbE hl, show idx (b :: l) 0 = some b from rfl, zaA, is48]
    cases b == 48 with
    | false => rfl
    | true => cases (b :: l) != ([48] : L8) <;> rfl
  rw [hj, zaA]
  by_cases hl : ((b :: l).length : Int) > 15
  ·rw [zaY hl]
   have e : numB (b :: l) = false := by
    unfold numB
    rw [decide_eq_false (show ¬ (b :: l).length ≤ 15 by omega)]
    rfl
   unfold numR
   rw [e]
   rfl
  ·rw [zbE hl]
   cases h48 : b == 48 with
   | false =>
    unfold numR
    rw [yeX hl h48]
    exact main (by omega)
   | true =>
    simp only [cond_true]
    cases hz : (b :: l) != ([48] : L8) with
    | true =>
     have e : numB (b :: l) = false := by
      have h1 : b = 48 := by simpa using h48
      subst h1
      have h2 : ((48 :: l : L8) == [48]) = false := by simpa using hz
      unfold numB
      rw [h2]
      simp
     unfold numR
     rw [e]
     rfl
    | false =>
     have e : b :: l = [48] := by simpa using hz
     have := main (by omega)
     simp only [cond_false]
     refine this.trans ?_
     rw [e]
     rfl
theorem ylI (f : Nat) : txtF f [] = some [] := by cases f <;> rfl
def txtR (acc : List L8) (o : Option (List L8)) : Bool ⊕ List L8 := match o with
 | some l => .inr (acc ++ l)
 | none => .inl false
theorem ydG (acc : List L8) (t : L8) (o : Option (List L8)) : txtR acc (o.map (t :: ·)) = txtR (acc ++ [t]) o := by
 cases o with
 | none => rfl
 | some l => show Sum.inr (acc ++ t :: l) = Sum.inr ((acc ++ [t]) ++ l); simp
theorem xcC (f : Nat) (b : UInt8) (s : L8) : txtF (f + 1) (b :: s) = match colF (b :: s) with
  | none => none
  | some (h, r) => bif numB h && decide (vaF h ≤ r.length) then (txtF f (r.drop (vaF h))).map (r.take (vaF h) :: ·) else none := rfl
theorem cut_o {s : L8} (h : s.length ≤ 1048576) : zaB.cut s ([58] : L8) = some (Lib.cut s [58]) := by
 show cutP s [58] = _
 unfold cutP
 rw [decide_eq_true (show s.length < 4294967281 by omega)]
 rfl
theorem ywL : ∀ (f : Nat) (s : L8) (acc : List L8) (k : Nat), s.length ≤ f → f < k → acc.length + f ≤ 1048577 → s.length ≤ 1048576 → zlC (fun x : L8 × List L8 => zfV zaB x.1 x.2) k (s, acc) = some (txtR acc (txtF f s))
 | f, [], acc, k + 1, _, _, _, _ => by
  rw [ylI]
  refine zbT ?_
  show some (Sum.inr (Sum.inr acc)) = some (Sum.inr (Sum.inr (acc ++ [])))
  rw [List.append_nil]
 | 0, b :: s, _, _, h, _, _, _ => by simp at h
 | f + 1, b :: s, acc, k + 1, hl, hk, ha, hs => by
  have hbody : zfV zaB (b :: s) acc = match colF (b :: s) with
    | none => some (.inr (.inl false))
    | some (h, r) => bif numB h && decide (vaF h ≤ r.length) then some (.inl (r.drop (vaF h), acc ++ [r.take (vaF h)])) else some (.inr (.inl false)) := by
   unfold zfV
   rw [show ((b :: s : L8) != []) = true from rfl]
   simp only [cond_true]
   rw [cut_o hs, zaA, ywR]
   cases hc : colF (b :: s) with
   | none =>
    simp only []
    rw [zyI _ hs, zaA]
    rfl
   | some p =>
    obtain ⟨h, r⟩ := p
    have he := (zmN hc).1
    have hlen : h.length + r.length + 1 = (b :: s).length := by rw [he]; simp; omega
    simp only []
    rw [zyI h (by omega), zaA]
    unfold znS numR
    cases hn : numB h with
    | false => rfl
    | true =>
     simp only [cond_true, Bool.not_true, cond_false, Bool.true_and]
     by_cases hv : vaF h ≤ r.length
     ·rw [zbE (show ¬ ((vaF h : Nat) : Int) > (r.length : Int) by omega), zaA, decide_eq_true hv]
      simp only [cond_true]
      rw [zqS hv, zaA, zdO (by simp; omega), zaA, zrE hv, zaA]
     ·rw [zaY (show ((vaF h : Nat) : Int) > (r.length : Int) by omega), zaA, decide_eq_false hv]
      rfl
  rw [xcC]
  cases hc : colF (b :: s) with
  | none =>
   rw [hc] at hbody
   exact zbT hbody
  | some p =>
   obtain ⟨h, r⟩ := p
   have he := (zmN hc).1
   have hlen : h.length + r.length + 1 = (b :: s).length := by rw [he]; simp; omega
   rw [hc] at hbody
   simp only [] at hbody ⊢
   cases hb : numB h && decide (vaF h ≤ r.length) with
   | false =>
    rw [hb] at hbody
    exact zbT hbody
   | true =>
    rw [hb] at hbody
    simp only [cond_true] at hbody ⊢
    rw [zgK hbody, ydG]
    exact ywL f (r.drop (vaF h)) (acc ++ [r.take (vaF h)]) k (by rw [List.length_drop]; omega) (by omega) (by simp; omega) (by rw [List.length_drop]; omega)
def txtP (s : L8) : List L8 × Bool := ((txtF s.length s).getD [], (txtF s.length s).isSome)
theorem ynK {s : L8} (h : s.length ≤ 1048576) : ziG zaB s = some (txtP s) := by
 unfold ziG
 rw [show iter _ (s, ([] : List L8)) = _ from ywL s.length s [] FU (Nat.le_refl _) (by unfold FU; omega) (by simp; omega) h, zaA]
 unfold txtP
 cases txtF s.length s <;> rfl
def colN (l : L8) : Nat := match colF l with
 | some p => p.1.length
 | none => l.length
theorem zvO (b : UInt8) (l : L8) : colN (b :: l) = if b = 58 then 0 else colN l + 1 := by
 unfold colN
 rw [colF]
 by_cases h : b = 58
 ·rw [if_pos h, if_pos h]; rfl
 ·rw [if_neg h, if_neg h]
  cases colF l <;> rfl
theorem ygJ : ∀ l : L8, colN l ≤ l.length
 | [] => Nat.le_refl _
 | b :: l => by
  rw [zvO]
  split
  ·exact Nat.zero_le _
  ·have := ygJ l; simp only [List.length_cons]; omega
theorem yoX : ∀ (l : L8) (k : Nat), k < colN l → ∃ c, l[k]? = some c ∧ c ≠ 58
 | [], k, h => by simp [colN, colF] at h
 | b :: l, k, h => by
  rw [zvO] at h
  split at h
  ·omega
  ·rename_i hb
   cases k with
   | zero => exact ⟨b, rfl, hb⟩
   | succ k =>
    obtain ⟨c, h1, h2⟩ := yoX l k (by omega)
    exact ⟨c, by simpa using h1, h2⟩
theorem yqC : ∀ (l : L8), colN l < l.length → l[colN l]? = some 58
 | [], h => by simp at h
 | b :: l, h => by
  rw [zvO] at h ⊢
  split
  ·rename_i hb; rw [hb]; rfl
  ·rename_i hb
   rw [if_neg hb] at h
   simp only [List.length_cons] at h
   have := yqC l (by omega)
   simpa using this
theorem is58 (b : UInt8) : ((b.toNat : Int) != ((58 : UInt8).toNat : Int)) = (b != 58) := by
 have := zpP (fun b => ((b.toNat : Int) != ((58 : UInt8).toNat : Int)) == (b != 58)) (by kernel_rfl) b
 simpa using this
theorem yxX {s : L8} {a : Nat} (acc : List L8) (ha : a ≤ s.length) (hs : s.length ≤ 1048576) : iter (fun x : Int × List L8 => zcI zaB s x.1 x.2) ((a : Int), acc) = some (((a + colN (s.drop a) : Nat) : Int), acc) := by
 have hle := ygJ (s.drop a)
 rw [List.length_drop] at hle
 refine zbS (fun k => (((a + k : Nat) : Int), acc)) (colN (s.drop a)) (by omega) _ (fun k hk => ?_) ?_
 ·obtain ⟨c, h1, h2⟩ := yoX _ _ hk
  rw [List.getElem?_drop] at h1
  have hlt := (List.getElem?_eq_some_iff.1 h1).1
  have he := (List.getElem?_eq_some_iff.1 h1).2
  unfold zcI
  simp only []
  rw [zaY (by omega), zdC rfl hlt, zaA, he, is58, show (c != 58) = true by simpa using h2]
  simp only [cond_true]
  rw [zzP (by omega)]
  rfl
 ·unfold zcI
  simp only []
  by_cases hlt : a + colN (s.drop a) < s.length
  ·have h1 := yqC (s.drop a) (by rw [List.length_drop]; omega)
   rw [List.getElem?_drop] at h1
   have he := (List.getElem?_eq_some_iff.1 h1).2
   rw [zaY (by omega), zdC rfl hlt, zaA, he]
   rfl
  ·rw [zbE (by omega)]
theorem yvE {s : L8} (hs : s.length ≤ 1048576) : ∀ (f a : Nat) (acc : List L8) (k : Nat), a ≤ s.length → s.length - a ≤ f → f < k → acc.length + f ≤ 1048577 → zlC (fun x : Int × List L8 => zbL zaB s x.1 x.2) k ((a : Int), acc) = some (txtR acc (txtF f (s.drop a)))
 | f, a, acc, k + 1, ha, hf, hk, hc => by
  by_cases he : a = s.length
  ·subst he
   rw [List.drop_length, ylI]
   refine zbT ?_
   unfold zbL
   simp only []
   rw [zbE (by omega)]
   show some (Sum.inr (Sum.inr acc)) = some (Sum.inr (Sum.inr (acc ++ [])))
   rw [List.append_nil]
  ·have halt : a < s.length := by omega
   have hd := List.drop_eq_getElem_cons halt
   obtain ⟨f, rfl⟩ : ∃ g, f = g + 1 := ⟨f - 1, by omega⟩
   have hle := ygJ (s.drop a)
   have hdl : (s.drop a).length = s.length - a := List.length_drop ..
   have hsub : sub3 s (a : Int) ((a + colN (s.drop a) : Nat) : Int) = some ((s.drop a).take (colN (s.drop a))) := by
    have := yeP (l := s) (n := a) (m := a + colN (s.drop a)) (by omega) (by omega)
    rw [this, List.drop_take]
    congr 2
    omega
   have hbody : zbL zaB s (a : Int) acc = match colF (s.drop a) with
     | none => some (.inr (.inl false))
     | some (h, r) => bif numB h && decide (vaF h ≤ r.length) then some (.inl (((a + h.length + 1 + vaF h : Nat) : Int), acc ++ [r.take (vaF h)])) else some (.inr (.inl false)) := by
    unfold zbL
    rw [zaY (show (a : Int) < (s.length : Int) by omega), yxX acc ha hs, zaA]
    simp only []
    rw [hsub, zaA, zyM, zaA]
    cases hcl : colF (s.drop a) with
    | none =>
     have hn : colN (s.drop a) = s.length - a := by unfold colN; rw [hcl]; exact hdl
     have hj : ∀ v, zcL zaB s (((a + colN (s.drop a) : Nat) : Int), acc) v = some (.inl false) := fun v => by
      unfold zcL
      cases v.2 with
      | false => rfl
      | true =>
       simp only [Bool.not_true, cond_false]
       rw [show (((a + colN (s.drop a) : Nat) : Int) == (s.length : Int)) = true from beq_iff_eq.2 (by omega)]
       rfl
     rw [hj, zaA]
    | some p =>
     obtain ⟨h, r⟩ := p
     have hcs := (zmN hcl).1
     have hn : colN (s.drop a) = h.length := by unfold colN; rw [hcl]
     have ht : (s.drop a).take h.length = h := by rw [hcs]; simp
     have hlen : h.length + r.length + 1 = s.length - a := by rw [← hdl, hcs]; simp; omega
     have hr : s.drop (a + h.length + 1) = r := by
      rw [show a + h.length + 1 = a + (h.length + 1) by omega, ← List.drop_drop, hcs]
      simp [List.drop_append]
     rw [hn, ht]
     simp only []
     unfold zcL numR
     cases hb : numB h with
     | false => rfl
     | true =>
      simp only [cond_true, Bool.not_true, cond_false, Bool.true_and]
      rw [show (((a + h.length : Nat) : Int) == (s.length : Int)) = false from beq_eq_false_iff_ne.2 (by omega)]
      simp only [cond_false]
      rw [zcP (x := (s.length : Int) - ((a + h.length : Nat) : Int)) (by omega) (by omega), zcP (x := (s.length : Int) - ((a + h.length : Nat) : Int) - 1) (by omega) (by omega)]
      have hvl := (zmI hb).2
      by_cases hv : vaF h ≤ r.length
      ·rw [decide_eq_false (show ¬ ((vaF h : Nat) : Int) > (s.length : Int) - ((a + h.length : Nat) : Int) - 1 by omega), decide_eq_true hv]
       simp only [cond_false, cond_true, zaA]
       rw [zzP (show a + h.length < 1099511627776 by omega), show (((a + h.length + 1 : Nat) : Int) + ((vaF h : Nat) : Int)) = ((a + h.length + 1 + vaF h : Nat) : Int) by omega, yrT (by omega), yeP (n := a + h.length + 1) (m := a + h.length + 1 + vaF h) (by omega) (by omega), zaA, List.drop_take, hr, show a + h.length + 1 + vaF h - (a + h.length + 1) = vaF h by omega, zdO (by simp; omega), zaA]
      ·rw [decide_eq_true (show ((vaF h : Nat) : Int) > (s.length : Int) - ((a + h.length : Nat) : Int) - 1 by omega), decide_eq_false hv]
       rfl
   have htx : txtF (f + 1) (s.drop a) = match colF (s.drop a) with
     | none => none
     | some (h, r) => bif numB h && decide (vaF h ≤ r.length) then (txtF f (r.drop (vaF h))).map (r.take (vaF h) :: ·) else none := by
    rw [hd, xcC]
   rw [htx]
   cases hcl : colF (s.drop a) with
   | none =>
    rw [hcl] at hbody
    exact zbT hbody
   | some p =>
    obtain ⟨h, r⟩ := p
    have hcs := (zmN hcl).1
    have hlen : h.length + r.length + 1 = s.length - a := by rw [← hdl, hcs]; simp; omega
    have hr : s.drop (a + h.length + 1) = r := by
     rw [show a + h.length + 1 = a + (h.length + 1) by omega, ← List.drop_drop, hcs]
     simp [List.drop_append]
    rw [hcl] at hbody
    simp only [] at hbody ⊢
    cases hb : numB h && decide (vaF h ≤ r.length) with
    | false =>
     rw [hb] at hbody
     exact zbT hbody
    | true =>
     have hv : vaF h ≤ r.length := by
      rw [Bool.and_eq_true, decide_eq_true_eq] at hb
      exact hb.2
     rw [hb] at hbody
     simp only [cond_true] at hbody ⊢
     rw [zgK hbody, ydG, show r.drop (vaF h) = s.drop (a + h.length + 1 + vaF h) by rw [← hr, List.drop_drop]]
     exact yvE hs f (a + h.length + 1 + vaF h) (acc ++ [r.take (vaF h)]) k (by omega) (by omega) (by omega) (by simp; omega)
theorem ymU {s : L8} (h : s.length ≤ 1048576) : zcZ zaB s = some (txtP s) := by
 unfold zcZ
 have := yvE h s.length 0 [] FU (Nat.zero_le _) (by omega) (by unfold FU; omega) (by simp; omega)
 rw [List.drop_zero] at this
 rw [show iter _ ((0 : Int), ([] : List L8)) = _ from this, zaA]
 unfold txtP
 cases txtF s.length s <;> rfl
theorem ywF {α R : Type} {l : List α} {p : α → Bool} {body : Int → Option (Int ⊕ R)} {bad good : R} (hl : l.length < 1099511627776)
  (hb : ∀ (k : Nat) (hk : k < l.length), body (k : Int) = some (bif p l[k] then .inl ((k + 1 : Nat) : Int) else .inr bad)) (he : body (l.length : Int) = some (.inr good)) : iter body (0 : Int) = some (bif l.all p then good else bad) := by
 have hT : T (iter body (0 : Int)) fun r => r = (bif l.all p then good else bad) := by
  refine T.iter (fun x => 0 ≤ x ∧ x ≤ (l.length : Int) ∧ (l.take x.toNat).all p = true) (fun x => l.length - x.toNat) _ (fun x hx => ?_) ⟨Int.le_refl _, by omega, rfl⟩ (by omega)
  obtain ⟨h1, h2, h3⟩ := hx
  obtain ⟨k, rfl⟩ : ∃ k : Nat, x = k := ⟨x.toNat, by omega⟩
  rw [Int.toNat_natCast] at h3
  by_cases hk : k < l.length
  ·rw [hb k hk]
   cases hp : p l[k] with
   | true => exact T.ok ⟨⟨by omega, by omega, by rw [Int.toNat_natCast, ygO hk, h3, hp]; rfl⟩, by omega⟩
   | false => exact T.ok (by rw [yvK hk hp]; rfl)
  ·obtain rfl : k = l.length := by omega
   rw [he]
   rw [List.take_of_length_le (Nat.le_refl _)] at h3
   exact T.ok (by rw [h3]; rfl)
 obtain ⟨r, h1, rfl⟩ := hT
 exact h1
theorem ymB {α : Type} {l : List α} {p q : α → Bool} (h : ∀ x ∈ l, p x = q x) : l.all p = l.all q := by
 induction l with
 | nil => rfl
 | cons x l ih => rw [List.all_cons, List.all_cons, h x List.mem_cons_self, ih fun y hy => h y (List.mem_cons_of_mem _ hy)]
theorem xeP {s cs : L8} {n : Int} (hn : n ≤ 1048576) (h2 : cs.length < 4294967281) (h3 : cs.all (fun b => decide (b.toNat < 128)) = true) : zhY zaB s n cs = some (s != [] && decide ((s.length : Int) ≤ n) && s.all (cs.contains ·)) := by
 unfold zhY
 cases h0 : s != ([] : L8) with
 | false => rfl
 | true =>
  simp only [cond_true, Bool.true_and]
  by_cases hl : (s.length : Int) ≤ n
  ·rw [zaY hl, decide_eq_true hl]
   have ht : zaB.trim s cs = some (Lib.trimS s cs) := by
    show zuB s cs = _
    unfold zuB
    rw [decide_eq_true (show s.length ≤ 9223372036854775807 by omega), decide_eq_true h2, h3]
    rfl
   rw [ht, zaA, Bool.true_and]
   congr 1
   rw [Bool.eq_iff_iff, beq_iff_eq, zvV, List.all_eq_true]
  ·rw [zbE hl, decide_eq_false hl]
   rfl
abbrev yiS : L8 := [97, 98, 99, 100, 101, 102, 103, 104, 105, 106, 107, 108, 109, 110, 111, 112, 113, 114, 115, 116, 117, 118, 119, 120, 121, 122, 48, 49, 50, 51, 52, 53, 54, 55, 56, 57, 46, 95, 45]
def letB (b : UInt8) : Bool := (zaZ zaB b).getD false
theorem ymT (b : UInt8) : zaZ zaB b = some (letB b) := by
 have := zpP (fun b => (zaZ zaB b).isSome) (by kernel_rfl) b
 unfold letB
 cases h : zaZ zaB b with
 | none => rw [h] at this; cases this
 | some v => rfl
theorem xbG (b : UInt8) : yiS.contains b = letB b := by
 have := zpP (fun b => yiS.contains b == letB b) (by kernel_rfl) b
 simpa using this
theorem xeH (s : L8) : nmB s = (s != [] && decide (s.length ≤ 24) && s.all letB) := by
 have h := xaI s
 unfold zbY at h
 rw [xeP (by decide) (by decide) (by decide), zaA] at h
 rw [← osi h, ymB fun b _ => xbG b]
 congr 2
 rw [decide_eq_decide]
 omega
theorem xbD (s : L8) : decide ((s.length : Int) ≥ 1) = (s != []) := by
 cases s with
 | nil => rfl
 | cons b l => rw [decide_eq_true (by simp only [List.length_cons]; omega)]; rfl
theorem yrM {s : L8} (hs : s.length ≤ 1048576) : zdJ zaB s = some (nmB s) := by
 unfold zdJ
 rw [ywF (l := s) (p := letB) (bad := Sum.inl false) (good := Sum.inr ()) (by omega) (fun k hk => ?_) ?_, zaA, xeH]
 ·cases ha : s.all letB with
  | false => simp
  | true =>
   simp only [cond_true, Bool.and_true]
   rw [← xbD]
   by_cases h : (s.length : Int) ≥ 1
   ·rw [zaY h, decide_eq_true h, Bool.true_and]
    congr 1
    rw [decide_eq_decide]
    omega
   ·rw [zbE h, decide_eq_false h]; rfl
 ·unfold zeR
  rw [zbE (by omega)]
 ·unfold zeR
  rw [zaY (show (k : Int) < (s.length : Int) by omega), zdC rfl hk, zaA, ymT, zaA]
  cases letB s[k] with
  | false => rfl
  | true => simp only [Bool.not_true, cond_false, cond_true]; rw [zzP (by omega)]
def rdT (l : List L8) (q : Bool) : L8 × List L8 × Bool := match l with
 | [] => ([], [], true)
 | x :: r => (x, r, q)
def rdM (a b : Int) (l : List L8) (q : Bool) : Int × List L8 × Bool := bif !(numR (rdT l q).1).2 || (decide ((numR (rdT l q).1).1 < a) || decide ((numR (rdT l q).1).1 > b)) then (a, (rdT l q).2.1, true) else ((numR (rdT l q).1).1, (rdT l q).2)
def Sml (l : List L8) : Prop := l.length ≤ 1048576 ∧ ∀ t ∈ l, t.length ≤ 1048576
theorem zrJ (l : List L8) (q : Bool) : zaE zaB l q = some (rdT l q) := by
 cases l with
 | nil => rfl
 | cons x r =>
  unfold zaE
  have e : ((((x :: r).length : Nat) : Int) == (0 : Int)) = false := beq_eq_false_iff_ne.2 (by simp only [List.length_cons]; omega)
  rw [e]
  simp only [cond_false]
  rw [show idx (x :: r) 0 = some x from rfl, zaA, show subL (x :: r) 1 = some r from zrE (n := 1) (by simp), zaA]
  rfl
theorem Sml.text {l : List L8} (h : Sml l) (q : Bool) : (rdT l q).1.length ≤ 1048576 ∧ Sml (rdT l q).2.1 := by
 cases l with
 | nil => exact ⟨Nat.zero_le _, h⟩
 | cons x r => exact ⟨h.2 x List.mem_cons_self, by have := h.1; simp only [List.length_cons] at this; show r.length ≤ _; omega, fun t ht => h.2 t (List.mem_cons_of_mem _ ht)⟩
theorem ydQ (a b : Int) (l : List L8) (q : Bool) : zaJ zaB a b l q = some (rdM a b l q) := by
 unfold zaJ
 rw [zrJ, zaA, zyM, zaA]
 have hj : zcG zaB a b (rdT l q) (numR (rdT l q).1) = some (!(numR (rdT l q).1).2 || (decide ((numR (rdT l q).1).1 < a) || decide ((numR (rdT l q).1).1 > b)), (rdT l q).2) := by
  unfold zcG
  cases (numR (rdT l q).1).2 with
  | false => rfl
  | true =>
   simp only [Bool.not_true, cond_false, Bool.false_or]
   by_cases h : (numR (rdT l q).1).1 < a
   ·rw [zaY h, decide_eq_true h]; rfl
   ·rw [zbE h, decide_eq_false h]; rfl
 rw [hj, zaA]
 unfold rdM
 cases !(numR (rdT l q).1).2 || (decide ((numR (rdT l q).1).1 < a) || decide ((numR (rdT l q).1).1 > b)) <;> rfl
theorem ysY (s : L8) : 0 ≤ (numR s).1 := by
 unfold numR
 cases numB s with
 | false => exact Int.le_refl _
 | true => exact Int.natCast_nonneg _
theorem Sml.drop {l : List L8} (h : Sml l) (n : Nat) : Sml (l.drop n) := ⟨by rw [List.length_drop]; have := h.1; omega, fun t ht => h.2 t (List.mem_of_mem_drop ht)⟩
theorem Sml.take {l : List L8} (h : Sml l) (n : Nat) : Sml (l.take n) := ⟨by rw [List.length_take]; have := h.1; omega, fun t ht => h.2 t (List.mem_of_mem_take ht)⟩
theorem Sml.nil : Sml [] := ⟨Nat.zero_le _, fun _ h => by cases h⟩
theorem ywZ {b : Int} (l : List L8) (q : Bool) : 0 ≤ (rdM 0 b l q).1 := by
 unfold rdM
 cases !(numR (rdT l q).1).2 || (decide ((numR (rdT l q).1).1 < 0) || decide ((numR (rdT l q).1).1 > b)) with
 | true => exact Int.le_refl _
 | false => exact ysY _
theorem invT {l : List L8} {q : Bool} (h : (rdT l q).2.2 = false) : q = false ∧ l = (rdT l q).1 :: (rdT l q).2.1 := by
 cases l with
 | nil => cases h
 | cons x r => exact ⟨h, rfl⟩
section
attribute [local irreducible] stF macF
def numM (s : L8) (m : Int) : Option Int := bif numB s && decide ((vaF s : Int) ≤ m) then some (vaF s : Int) else none
theorem zgP {s : L8} {m v : Int} (h : numM s m = some v) : numB s = true ∧ v = (vaF s : Int) ∧ (vaF s : Int) ≤ m := by
 unfold numM at h
 cases hb : numB s && decide ((vaF s : Int) ≤ m) with
 | false => rw [hb] at h; cases h
 | true =>
  rw [hb] at h
  rw [Bool.and_eq_true, decide_eq_true_eq] at hb
  cases h
  exact ⟨hb.1, rfl, hb.2⟩
theorem ybT (s : L8) (h : s.length ≤ 1048576) (m : Int) : zbD zaB s m = some ((numM s m).getD (-1)) := by
 cases hb : numB s with
 | true =>
  have hd := zmI hb
  unfold numM
  rw [hb]
  by_cases hm : (vaF s : Int) ≤ m
  ·have := yjP (vaF s) hd.2 m hm
   rw [hd.1] at this
   rw [this, decide_eq_true hm]
   rfl
  ·unfold zbD
   have hj := zyF (vaF s) hd.2
   have ha : zaB.atoi s = some ((vaF s : Int), false) := by
    have := zvX (vaF s) hd.2
    rw [hd.1] at this
    exact this
   rw [hd.1] at hj
   rw [hj, zaA]
   simp only []
   rw [ha, zaA, zaY (show (vaF s : Int) > m by omega), decide_eq_false hm]
   rfl
 | false =>
  have hj : zfH zaB s = some (.inl (-1)) := by
   unfold zfH
   cases s with
   | nil => rfl
   | cons b l =>
    rw [show ((b :: l : L8) == []) = false from rfl]
    simp only [cond_false]
    by_cases hl : ((b :: l).length : Int) > 15
    ·rw [zaY hl]
    ·rw [zbE hl, show idx (b :: l) 0 = some b from rfl, zaA, is48]
     cases h48 : b == 48 with
     | true =>
      simp only [cond_true]
      cases hz : (b :: l) != ([48] : L8) with
      | true => rfl
      | false =>
       have e : b :: l = [48] := by simpa using hz
       rw [e] at hb; exact absurd hb (by decide)
     | false =>
      simp only [cond_false]
      rw [yeX hl h48] at hb
      rw [show zaB.trim (b :: l) ([48, 49, 50, 51, 52, 53, 54, 55, 56, 57] : L8) = some (Lib.trimS (b :: l) tenL) from yvU h, zaA, yjH, hb]
      rfl
  unfold zbD numM
  rw [hj, hb]
  rfl
def mayK (k : KeyT) : Bool := (decide (1 ≤ (k.1.length : Int)) && decide ((k.1.length : Int) ≤ 86)) && (((k.2.1.length : Int) == 32) && (((k.2.2.1.length : Int) == 32) && (decide (0 ≤ k.2.2.2) && decide (k.2.2.2 ≤ 4294967295))))
theorem xbP (k : KeyT) : zhS zaB k = some (mayK k) := by
 unfold zhS mayK
 rw [yxL, zaA, yxL]
 cases (decide (1 ≤ (k.1.length : Int)) && decide ((k.1.length : Int) ≤ 86)) with
 | false => rfl
 | true =>
  cases ((k.2.1.length : Int) == 32) with
  | false => rfl
  | true => cases ((k.2.2.1.length : Int) == 32) <;> rfl
theorem xcW (k : KeyT) : zdV zaB k = some (mayK k) := by
 unfold zdV mayK
 by_cases h1 : (k.1.length : Int) ≥ 1
 ·rw [zaY h1, decide_eq_true (show 1 ≤ (k.1.length : Int) from h1)]
  by_cases h2 : (k.1.length : Int) ≤ 86
  ·rw [zaY h2, decide_eq_true h2]
   cases ((k.2.1.length : Int) == 32) with
   | false => rfl
   | true =>
    cases ((k.2.2.1.length : Int) == 32) with
    | false => rfl
    | true =>
     simp only [cond_true, Bool.true_and]
     by_cases h3 : k.2.2.2 ≥ 0
     ·rw [zaY h3, decide_eq_true (show 0 ≤ k.2.2.2 from h3)]; rfl
     ·rw [zbE h3, decide_eq_false (show ¬ 0 ≤ k.2.2.2 from h3)]; rfl
  ·rw [zbE h2, decide_eq_false h2]; rfl
 ·rw [zbE h1, decide_eq_false (show ¬ 1 ≤ (k.1.length : Int) from h1)]; rfl
theorem ydD {k : KeyT} (h : mayK k = true) : (1 ≤ k.1.length ∧ k.1.length ≤ 86) ∧ k.2.1.length = 32 ∧ k.2.2.1.length = 32 ∧ 0 ≤ k.2.2.2 ∧ k.2.2.2 ≤ 4294967295 := by
 unfold mayK at h
 simp only [Bool.and_eq_true, decide_eq_true_eq, beq_iff_eq] at h
 obtain ⟨⟨a, b⟩, c, d, e, f⟩ := h
 exact ⟨⟨by omega, by omega⟩, by omega, by omega, e, f⟩
def hasK (ks : List KeyT) (id : L8) : Bool := ks.any fun k => k.1 == id
theorem yuU {ks : List KeyT} {id : L8} (h : ∀ k ∈ ks, k.1 ≠ id) : hasK ks id = false := by
 unfold hasK
 rw [List.any_eq_false]
 exact fun k hk => by simpa using h k hk
theorem yuX {ks : List KeyT} {id : L8} {i : Nat} (hi : i < ks.length) (h : ks[i].1 = id) : hasK ks id = true := by
 unfold hasK
 rw [List.any_eq_true]
 exact ⟨_, List.getElem_mem hi, by simpa using h⟩
theorem yxS {ks : List KeyT} {id : L8} (h : hasK ks id = false) : ∀ k ∈ ks, k.1 ≠ id := fun k hk e => by
 unfold hasK at h
 rw [List.any_eq_false] at h
 exact h k hk (by simpa using e)
theorem pat_o {ks : List KeyT} (id : L8) (hk : ks.length ≤ 4) : T (zeP zaB ks id) fun i => decide (i ≥ 0) = hasK ks id := by
 rcases at_t ks id hk with ⟨h, hn⟩ | ⟨i, hi, h, he⟩
 ·rw [h]; exact T.ok (by rw [yuU hn]; rfl)
 ·rw [h]; exact T.ok (by rw [yuX hi he]; exact decide_eq_true (by omega))
theorem ytZ (ks : List KeyT) (id : L8) (hk : ks.length ≤ 4) : (zaX zaB ks id = some (-1) ∧ ∀ k ∈ ks, k.1 ≠ id) ∨ ∃ i : Nat, ∃ hi : i < ks.length, zaX zaB ks id = some (i : Int) ∧ ks[i].1 = id := by
 have hT : T (iter (zeQ zaB ks id) (0 : Int)) fun r => match r with
   | .inl j => ∃ i : Nat, ∃ hi : i < ks.length, j = (i : Int) ∧ ks[i].1 = id
   | .inr _ => ∀ k ∈ ks, k.1 ≠ id := by
  refine T.iter (fun i => 0 ≤ i ∧ i ≤ (ks.length : Int) ∧ ∀ k ∈ ks.take i.toNat, k.1 ≠ id) (fun i => ks.length - i.toNat) _ (fun i hi => ?_) ⟨Int.le_refl _, by omega, fun k hk => by simp at hk⟩ (by omega)
  obtain ⟨h1, h2, h3⟩ := hi
  obtain ⟨j, rfl⟩ : ∃ j : Nat, i = j := ⟨i.toNat, by omega⟩
  rw [Int.toNat_natCast] at h3
  unfold zeQ
  refine T.dif (fun h => ?_) fun h => T.ok ?_
  ·have hj : j < ks.length := by omega
   rw [zdC rfl hj, zaA]
   cases hb : ks[j].1 == id with
   | true => exact T.ok ⟨j, hj, rfl, beq_iff_eq.1 hb⟩
   | false =>
    simp only [cond_false]
    rw [zcP (by omega) (by omega)]
    refine T.ok ⟨⟨by omega, by omega, fun k hk => ?_⟩, by omega⟩
    rw [show ((j : Int) + 1).toNat = j + 1 by omega, List.take_succ_eq_append_getElem hj] at hk
    rcases List.mem_append.1 hk with hk | hk
    ·exact h3 k hk
    ·rw [List.mem_singleton.1 hk]; exact fun e => by rw [e, beq_self_eq_true] at hb; cases hb
  ·rw [List.take_of_length_le (by omega)] at h3
   exact h3
 obtain ⟨r, h1, h2⟩ := hT
 unfold zaX
 rw [h1, zaA]
 cases r with
 | inl j => obtain ⟨i, hi, rfl, he⟩ := h2; exact .inr ⟨i, hi, rfl, he⟩
 | inr u => exact .inl ⟨rfl, h2⟩
theorem dat_o {ks : List KeyT} (id : L8) (hk : ks.length ≤ 4) : T (zaX zaB ks id) fun i => decide (i ≥ 0) = hasK ks id := by
 rcases ytZ ks id hk with ⟨h, hn⟩ | ⟨i, hi, h, he⟩
 ·rw [h]; exact T.ok (by rw [yuU hn]; rfl)
 ·rw [h]; exact T.ok (by rw [yuX hi he]; exact decide_eq_true (by omega))
def keyG (a b c d : L8) : KeyT := (a, b, c, (numM d 4294967295).getD (-1))
def zqF : Nat → List L8 → List KeyT → Option (List L8 × List KeyT)
 | 0, l, ks => some (l, ks)
 | n + 1, a :: b :: c :: d :: r, ks => bif mayK (keyG a b c d) && !hasK ks a then zqF n r (ks ++ [keyG a b c d]) else none
 | _ + 1, _, _ => none
theorem yhC {a b c d : L8} (h : mayK (keyG a b c d) = true) : numM d 4294967295 = some (vaF d : Int) ∧ Lib.decDigits (vaF d) = d := by
 have h1 := (ydD h).2.2.2.1
 unfold keyG at h1
 cases hn : numM d 4294967295 with
 | none => rw [hn] at h1; simp at h1
 | some v =>
  obtain ⟨h2, h3, _⟩ := zgP hn
  exact ⟨by rw [h3], (zmI h2).1⟩
theorem ztG : ∀ {n : Nat} {l l' : List L8} {ks ks' : List KeyT}, zqF n l ks = some (l', ks') → ∃ new : List KeyT, ks' = ks ++ new ∧ new.length = n ∧ l = new.flatMap zqI ++ l' ∧ (∀ k ∈ new, mayK k = true) ∧ ((ks.Pairwise fun x y => x.1 ≠ y.1) → ks'.Pairwise fun x y => x.1 ≠ y.1)
 | 0, l, l', ks, ks', h => by
  cases h
  exact ⟨[], (List.append_nil _).symm, rfl, rfl, (fun _ hk => by cases hk), fun h => h⟩
 | n + 1, a :: b :: c :: d :: r, l', ks, ks', h => by
  unfold zqF at h
  cases hb : mayK (keyG a b c d) && !hasK ks a with
  | false => rw [hb] at h; cases h
  | true =>
   rw [hb] at h
   simp only [cond_true] at h
   rw [Bool.and_eq_true, Bool.not_eq_true'] at hb
   obtain ⟨new, h1, h2, h3, h4, h5⟩ := ztG h
   obtain ⟨g1, g2⟩ := yhC hb.1
   refine ⟨keyG a b c d :: new, by rw [h1]; simp, by simp [h2], ?_, fun k hk => ?_, fun hp => h5 ?_⟩
   ·rw [List.flatMap_cons, h3]
    have : zqI (keyG a b c d) = [a, b, c, d] := by
     unfold zqI keyG
     rw [g1]
     simp only [Option.getD_some, Int.toNat_natCast, g2]
    rw [this]; simp
   ·rcases List.mem_cons.1 hk with rfl | hk
    ·exact hb.1
    ·exact h4 k hk
   ·refine List.pairwise_append.2 ⟨hp, List.pairwise_singleton _ _, fun x hx y hy => ?_⟩
    rw [List.mem_singleton.1 hy]
    exact yxS hb.2 x hx
 | n + 1, [], _, _, _, h => by cases h
 | n + 1, [_], _, _, _, h => by cases h
 | n + 1, [_, _], _, _, _, h => by cases h
 | n + 1, [_, _, _], _, _, _, h => by cases h
theorem yeF {n : Nat} {l l' : List L8} {ks ks' : List KeyT} (h : zqF n l ks = some (l', ks')) : l.length = 4 * n + l'.length := by
 obtain ⟨new, _, h2, h3, _⟩ := ztG h
 rw [h3, List.length_append, zuW, h2]
theorem yiK (z1 z2 z3 z4 : L8) (z5 z6 z7 : Int) (y1 y2 y3 y4 : L8) (y5 y6 y7 : Int) : ∀ (n : Nat) (l : List L8) (ks : List KeyT) (k : Nat), l.length = 4 * n → n < k → ks.length + n ≤ 4 → Sml l →
  zlC (fun x : List L8 × L8 × L8 × L8 × L8 × Int × Int × Int × CrT => zjL zaB x.1 x.2.1 x.2.2.1 x.2.2.2.1 x.2.2.2.2.1 x.2.2.2.2.2.1 x.2.2.2.2.2.2.1 x.2.2.2.2.2.2.2.1 x.2.2.2.2.2.2.2.2.1 x.2.2.2.2.2.2.2.2.2.1 x.2.2.2.2.2.2.2.2.2.2.1 x.2.2.2.2.2.2.2.2.2.2.2.1 x.2.2.2.2.2.2.2.2.2.2.2.2.1 x.2.2.2.2.2.2.2.2.2.2.2.2.2.1 x.2.2.2.2.2.2.2.2.2.2.2.2.2.2.1 x.2.2.2.2.2.2.2.2.2.2.2.2.2.2.2) k (l, z1, z2, z3, z4, z5, z6, z7, y1, y2, y3, y4, y5, y6, y7, ks)
   = some (match zqF n l ks with
    | some p => .inr (z1, z2, z3, z4, z5, z6, z7, y1, y2, y3, y4, y5, y6, y7, p.2)
    | none => .inl (false, [], [], [], [], 0, 0, 0))
 | 0, [], ks, k + 1, _, _, _, _ => zbT rfl
 | 0, _ :: _, _, _, h, _, _, _ => by simp at h
 | n + 1, a :: b :: c :: d :: r, ks, k + 1, hl, hk, hc, hs => by
  have hd : d.length ≤ 1048576 := hs.2 d (by simp)
  have hr : Sml r := ⟨by have := hs.1; simp only [List.length_cons] at this; omega, fun t ht => hs.2 t (by simp [ht])⟩
  have hlr : r.length = 4 * n := by simp only [List.length_cons] at hl; omega
  have hbody : zjL zaB (a :: b :: c :: d :: r) z1 z2 z3 z4 z5 z6 z7 y1 y2 y3 y4 y5 y6 y7 ks = some (bif mayK (keyG a b c d) && !hasK ks a then .inl (r, z1, z2, z3, z4, z5, z6, z7, y1, y2, y3, y4, y5, y6, y7, ks ++ [keyG a b c d]) else .inr (.inl (false, [], [], [], [], 0, 0, 0))) := by
   unfold zjL
   rw [zaY (show ((a :: b :: c :: d :: r).length : Int) > 0 by simp only [List.length_cons]; omega), show idx (a :: b :: c :: d :: r) 0 = some a from rfl, zaA, show idx (a :: b :: c :: d :: r) 1 = some b from rfl, zaA, show idx (a :: b :: c :: d :: r) 2 = some c from rfl, zaA, show idx (a :: b :: c :: d :: r) 3 = some d from rfl, zaA, ybT d hd, zaA]
   unfold zqK
   rw [show zhS zaB (a, b, c, (numM d 4294967295).getD (-1)) = some (mayK (keyG a b c d)) from xbP _, zaA]
   cases mayK (keyG a b c d) with
   | false => rfl
   | true =>
    simp only [Bool.not_true, cond_false, Bool.true_and]
    obtain ⟨i, h1, h2⟩ := pat_o (ks := ks) a (by omega)
    rw [h1, zaA, h2]
    cases hasK ks a with
    | true => rfl
    | false =>
     simp only [cond_false, zaA, Bool.not_false, cond_true]
     rw [zdO (by simp only [List.length_cons, List.length_nil]; omega), zaA, show subL (a :: b :: c :: d :: r) 4 = some r from yhO [a, b, c, d] r rfl, zaA]
     rfl
  unfold zqF
  cases hb : mayK (keyG a b c d) && !hasK ks a with
  | false =>
   rw [hb] at hbody
   exact zbT hbody
  | true =>
   rw [hb] at hbody
   simp only [cond_true] at hbody ⊢
   rw [zgK hbody]
   exact yiK z1 z2 z3 z4 z5 z6 z7 y1 y2 y3 y4 y5 y6 y7 n r (ks ++ [keyG a b c d]) k hlr (by omega) (by simp; omega) hr
 | n + 1, [], _, _, h, _, _, _ => by simp at h
 | n + 1, [_], _, _, h, _, _, _ => by simp at h; omega
 | n + 1, [_, _], _, _, h, _, _, _ => by simp at h; omega
 | n + 1, [_, _, _], _, _, h, _, _, _ => by simp at h; omega
def keyD (l : List L8) (q : Bool) : KeyT × List L8 × Bool := ((fun t1 => (fun t2 => (fun t3 => (fun t4 => ((t1.1, t2.1, t3.1, t4.1), t4.2)) (rdM 0 4294967295 t3.2.1 t3.2.2)) (rdT t2.2.1 t2.2.2)) (rdT t1.2.1 t1.2.2)) (rdT l q))
def zuE : Nat → List L8 → Bool → List KeyT → List KeyT ⊕ (List L8 × Bool × List KeyT)
 | 0, l, q, ks => .inr (l, q, ks)
 | n + 1, l, q, ks => bif mayK (keyD l q).1 && !hasK ks (keyD l q).1.1 then zuE n (keyD l q).2.1 (keyD l q).2.2 (ks ++ [(keyD l q).1]) else .inl ks
theorem yhS (v15 : Int × List L8 × Bool) (m : Nat) (hm : v15.1 = (m : Int)) (hm4 : m ≤ 4) (z1 z2 z3 z4 : L8) (z5 z6 z7 : Int) (y1 y2 y3 y4 : L8) (y5 y6 y7 : Int) : ∀ (f i : Nat) (l : List L8) (q : Bool) (ks : List KeyT) (k : Nat), i + f = m → f < k → ks.length = i →
  zlC (fun x : Int × L8 × L8 × L8 × L8 × Int × Int × Int × List L8 × Bool × CrT => zbX zaB v15 x.1 x.2.1 x.2.2.1 x.2.2.2.1 x.2.2.2.2.1 x.2.2.2.2.2.1 x.2.2.2.2.2.2.1 x.2.2.2.2.2.2.2.1 x.2.2.2.2.2.2.2.2.1 x.2.2.2.2.2.2.2.2.2.1 x.2.2.2.2.2.2.2.2.2.2.1 x.2.2.2.2.2.2.2.2.2.2.2.1 x.2.2.2.2.2.2.2.2.2.2.2.2.1 x.2.2.2.2.2.2.2.2.2.2.2.2.2.1 x.2.2.2.2.2.2.2.2.2.2.2.2.2.2.1 x.2.2.2.2.2.2.2.2.2.2.2.2.2.2.2.1 x.2.2.2.2.2.2.2.2.2.2.2.2.2.2.2.2.1 x.2.2.2.2.2.2.2.2.2.2.2.2.2.2.2.2.2) k ((i : Int), z1, z2, z3, z4, z5, z6, z7, l, q, y1, y2, y3, y4, y5, y6, y7, ks)
   = some (match zuE f l q ks with
    | .inr p => .inr (z1, z2, z3, z4, z5, z6, z7, p.1, p.2.1, y1, y2, y3, y4, y5, y6, y7, p.2.2)
    | .inl ks' => .inl (false, y1, y2, y3, y4, y5, y6, y7, ks'))
 | 0, i, l, q, ks, k + 1, hf, _, _ => by
  refine zbT ?_
  unfold zbX
  simp only []
  rw [hm, zbE (by omega)]
  rfl
 | f + 1, i, l, q, ks, k + 1, hf, hk, hc => by
  have hbody : zbX zaB v15 (i : Int) z1 z2 z3 z4 z5 z6 z7 l q y1 y2 y3 y4 y5 y6 y7 ks = some (bif mayK (keyD l q).1 && !hasK ks (keyD l q).1.1 then .inl (((i + 1 : Nat) : Int), z1, z2, z3, z4, z5, z6, z7, (keyD l q).2.1, (keyD l q).2.2, y1, y2, y3, y4, y5, y6, y7, ks ++ [(keyD l q).1]) else .inr (.inl (false, y1, y2, y3, y4, y5, y6, y7, ks))) := by
   unfold zbX
   rw [hm, zaY (show (i : Int) < (m : Int) by omega), zrJ, zaA, zrJ, zaA, zrJ, zaA, ydQ, zaA]
   unfold zgY
   have hm1 := xcW (keyD l q).1
   generalize mayK (keyD l q).1 = mb at hm1 ⊢
   unfold keyD at hm1
   simp only [] at hm1
   rw [hm1, zaA]
   cases mb with
   | false => rfl
   | true =>
    simp only [Bool.not_true, cond_false, Bool.true_and]
    obtain ⟨j, h1, h2⟩ := dat_o (ks := ks) (keyD l q).1.1 (by omega)
    rw [show zaX zaB ks (rdT l q).1 = some j from h1, zaA, h2]
    cases hasK ks (keyD l q).1.1 with
    | true => rfl
    | false =>
     simp only [cond_false, zaA, Bool.not_false, cond_true]
     rw [zdO (by simp only [List.length_cons, List.length_nil]; omega), zaA, zzP (by omega)]
     rfl
  unfold zuE
  cases hb : mayK (keyD l q).1 && !hasK ks (keyD l q).1.1 with
  | false =>
   rw [hb] at hbody
   exact zbT hbody
  | true =>
   rw [hb] at hbody
   simp only [cond_true] at hbody ⊢
   rw [zgK hbody]
   exact yhS v15 m hm hm4 z1 z2 z3 z4 z5 z6 z7 y1 y2 y3 y4 y5 y6 y7 f (i + 1) (keyD l q).2.1 (keyD l q).2.2 (ks ++ [(keyD l q).1]) k (by omega) (by omega) (by simp; omega)
theorem xeB (l : List L8) : (rdT l true).2.2 = true := by cases l <;> rfl
theorem xdA (a b : Int) (l : List L8) : (rdM a b l true).2.2 = true := by
 unfold rdM
 cases !(numR (rdT l true).1).2 || (decide ((numR (rdT l true).1).1 < a) || decide ((numR (rdT l true).1).1 > b)) with
 | true => rfl
 | false => exact xeB l
theorem ztD (m : Int) (d : L8) (r : List L8) (hm : 0 ≤ m) : rdM 0 m (d :: r) false = ((numM d m).getD 0, r, !(numM d m).isSome) := by
 unfold rdM rdT numM numR
 cases hb : numB d with
 | false => rfl
 | true =>
  simp only [cond_true, Bool.not_true, Bool.false_or, Bool.true_and]
  rw [decide_eq_false (show ¬ ((vaF d : Nat) : Int) < 0 by omega), Bool.false_or]
  by_cases h : ((vaF d : Nat) : Int) ≤ m
  ·rw [decide_eq_true h, decide_eq_false (show ¬ ((vaF d : Nat) : Int) > m by omega)]; rfl
  ·rw [decide_eq_false h, decide_eq_true (show ((vaF d : Nat) : Int) > m by omega)]; rfl
theorem xcY (l : List L8) : (keyD l true).2.2 = true := by
 unfold keyD
 simp only [xeB, xdA]
theorem yaV : ∀ {f : Nat} {l l' : List L8} {q' : Bool} {ks ks' : List KeyT}, zuE f l true ks = .inr (l', q', ks') → q' = true
 | 0, _, _, _, _, _, h => by cases h; rfl
 | f + 1, l, l', q', ks, ks', h => by
  unfold zuE at h
  rw [xcY] at h
  cases hb : mayK (keyD l true).1 && !hasK ks (keyD l true).1.1 with
  | false => rw [hb] at h; cases h
  | true => rw [hb] at h; exact yaV h
theorem yqM (a b c d : L8) (r : List L8) : keyD (a :: b :: c :: d :: r) false = ((a, b, c, (numM d 4294967295).getD 0), r, !(numM d 4294967295).isSome) := by
 have h := ztD 4294967295 d r (by decide)
 unfold keyD
 simp only [rdT, h]
theorem znJ {f : Nat} {l l' : List L8} {ks ks' : List KeyT} {q' : Bool} (h : zuE (f + 1) l false ks = .inr (l', q', ks')) (hl : l.length < 4) : q' = true := by
 have hq : (keyD l false).2.2 = true := by
  match l, hl with
  | [], _ => rfl
  | [_], _ => rfl
  | [_, _], _ => rfl
  | [_, _, _], _ => rfl
 unfold zuE at h
 cases hb : mayK (keyD l false).1 && !hasK ks (keyD l false).1.1 with
 | false => rw [hb] at h; cases h
 | true => rw [hb, hq] at h; exact yaV h
theorem yhD : ∀ (f : Nat) (l : List L8) (ks : List KeyT), match zqF f l ks with
  | some p => zuE f l false ks = .inr (p.1, false, p.2)
  | none => ∀ l' q' ks', zuE f l false ks = .inr (l', q', ks') → q' = true
 | 0, l, ks => rfl
 | f + 1, a :: b :: c :: d :: r, ks => by
  unfold zqF zuE
  rw [yqM]
  simp only []
  cases hn : numM d 4294967295 with
  | none =>
   have hno : mayK (keyG a b c d) = false := by
    cases hb : mayK (keyG a b c d) with
    | false => rfl
    | true => have := (yhC hb).1; rw [hn] at this; cases this
   rw [hno]
   simp only [Bool.false_and, cond_false]
   intro l' q' ks' h
   cases hb : mayK (a, b, c, (none : Option Int).getD 0) && !hasK ks a with
   | false => rw [hb] at h; cases h
   | true => rw [hb] at h; exact yaV h
  | some v =>
   have hk : keyG a b c d = (a, b, c, v) := by unfold keyG; rw [hn]; rfl
   rw [hk]
   simp only [Option.getD_some, Option.isSome_some, Bool.not_true]
   cases hb : mayK (a, b, c, v) && !hasK ks a with
   | false => intro l' q' ks' h; cases h
   | true => exact yhD f r (ks ++ [(a, b, c, v)])
 | f + 1, [], ks => fun l' q' ks' h => znJ h (by simp)
 | f + 1, [_], ks => fun l' q' ks' h => znJ h (by simp)
 | f + 1, [_, _], ks => fun l' q' ks' h => znJ h (by simp)
 | f + 1, [_, _, _], ks => fun l' q' ks' h => znJ h (by simp)
theorem ywY {c : CrT} (h : c.2.2.2.2.2.2.2.length ≤ 4) : zdI zaB c c = some true := by
 unfold zdI
 simp only [bne_self_eq_false, cond_false]
 have hi : iter (fun x => zcX zaB x.1 x.2.1 x.2.2.1 x.2.2.2.1 x.2.2.2.2.1 x.2.2.2.2.2.1 x.2.2.2.2.2.2.1 x.2.2.2.2.2.2.2.1 x.2.2.2.2.2.2.2.2.1 x.2.2.2.2.2.2.2.2.2.1 x.2.2.2.2.2.2.2.2.2.2.1 x.2.2.2.2.2.2.2.2.2.2.2.1 x.2.2.2.2.2.2.2.2.2.2.2.2.1 x.2.2.2.2.2.2.2.2.2.2.2.2.2.1 x.2.2.2.2.2.2.2.2.2.2.2.2.2.2.1 x.2.2.2.2.2.2.2.2.2.2.2.2.2.2.2.1 x.2.2.2.2.2.2.2.2.2.2.2.2.2.2.2.2) (((0 : Nat) : Int), c.1, c.2.1, c.2.2.1, c.2.2.2.1, c.2.2.2.2.1, c.2.2.2.2.2.1, c.2.2.2.2.2.2.1, c.2.2.2.2.2.2.2, c) = some (.inr (c.1, c.2.1, c.2.2.1, c.2.2.2.1, c.2.2.2.2.1, c.2.2.2.2.2.1, c.2.2.2.2.2.2.1, c.2.2.2.2.2.2.2, c)) := by
  refine zbS (fun k => ((k : Int), c.1, c.2.1, c.2.2.1, c.2.2.2.1, c.2.2.2.2.1, c.2.2.2.2.2.1, c.2.2.2.2.2.2.1, c.2.2.2.2.2.2.2, c)) c.2.2.2.2.2.2.2.length (by omega) _ (fun k hk => ?_) ?_
  ·unfold zcX
   simp only []
   rw [zaY (by omega), zdC rfl hk, zaA, zaA]
   simp only [beq_self_eq_true, Bool.true_and, decide_true, Bool.not_true, cond_false]
   rw [zcP (by omega) (by omega)]
   rfl
  ·unfold zcX
   simp only []
   rw [zbE (by omega)]
 rw [show iter _ ((0 : Int), c.1, c.2.1, c.2.2.1, c.2.2.2.1, c.2.2.2.2.1, c.2.2.2.2.2.1, c.2.2.2.2.2.2.1, c.2.2.2.2.2.2.2, c) = _ from hi, zaA]
 simp only [beq_self_eq_true, cond_true]
theorem ynS {l : List CrT} (hl : l.length ≤ 1048576) (h : ∀ c ∈ l, c.2.2.2.2.2.2.2.length ≤ 4) : zcD zaB l l = some true := by
 unfold zcD
 rw [bne_self_eq_false]
 simp only [cond_false]
 rw [ywF (l := l) (p := fun _ => true) (bad := Sum.inl false) (good := Sum.inr ()) (by omega) (fun k hk => ?_) ?_, zaA, List.all_eq_true.2 fun _ _ => rfl]
 ·rfl
 ·unfold zdQ
  rw [zbE (by omega)]
 ·unfold zdQ
  rw [zaY (show (k : Int) < (l.length : Int) by omega), zdC rfl hk, zaA, zaA, ywY (h _ (List.getElem_mem hk)), zaA, zzP (by omega)]
  rfl
end
end Go.Proofs.YtmkomlbiaebddaaGreatDoor.Am
