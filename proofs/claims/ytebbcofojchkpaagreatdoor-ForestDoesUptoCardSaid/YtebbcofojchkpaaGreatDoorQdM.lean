/- The law 'seneschallaw13.ForestDoes' holds of every input whose arguments hold together at most 1048576 values and letters, and its card. Conditions: the row's listed tables hold what the program's text lays; the arguments' bulk is at most 1048576. -/
import Derived.Shelf.SlMaps.Clone
import Derived.Ground.SlmcProg
import Derived.Test.YtebbcofojchkpaaGreatDoorProg
import Derived.KernelRfl
import Derived.Stop.LaidErr
import Derived.Test.YtebbcofojchkpaaGreatDoorQdL
namespace Go.Proofs.YtebbcofojchkpaaGreatDoor.Am
open Go Go.RowKit
section
variable {nx nx' : Int} {es : Es}
theorem yyE (h : Ok nx es) : ∀ (f : Nat) (id k : Int), k ∈ pth es f id → k ≤ id
 | 0, _, _, hk => by cases hk
 | f + 1, id, k, hk => by
  rw [xcU] at hk
  cases hm : mget keqI es id with
  | none => rw [hm] at hk; cases hk
  | some n =>
   rw [hm] at hk
   rcases List.mem_cons.1 hk with rfl | hk
   ·exact Int.le_refl _
   ·have h1 := yyE h f (npar n) k hk
    have h2 := (h.par _ (znQ hm)).2
    simp only at h2
    omega
def ndQ (es : Es) (now k : Int) (p : Int × Nd) : Bool := zuS es p.1 now && (zmN es p.1).contains k
theorem ysB (h : Ok nx es) (now : Int) {k : Nat} (hk : k < es.length) : (es.drop k).any (ndQ es now es[k].1) = zlV es now es[k].1 := by
 unfold zlV
 show _ = es.any (ndQ es now es[k].1)
 have key : ∀ q : Int × Nd → Bool, es.any q = ((es.take k).any q || (es.drop k).any q) := fun q => by rw [← List.any_append, List.take_append_drop]
 rw [key]
 have : (es.take k).any (ndQ es now es[k].1) = false := by
  rw [List.any_eq_false]
  intro p hp hq
  unfold ndQ at hq
  have hc := (Bool.and_eq_true _ _ ▸ hq).2
  have hle := yyE h _ _ _ (List.contains_iff_mem.1 hc)
  obtain ⟨i, hi, e⟩ := List.mem_iff_getElem.1 hp
  rw [List.length_take] at hi
  rw [List.getElem_take] at e
  have := List.pairwise_iff_getElem.1 h.rises i k (by omega) hk (by omega)
  rw [e] at this; omega
 rw [this, Bool.false_or]
theorem yuN (h : Ok nx es) (now : Int) {k : Nat} (hk : k < es.length) (out : List Nd) :
  iter (fun x => zdJ zaB now (k : Int) x.1 x.2.1 x.2.2.1 x.2.2.2.1 x.2.2.2.2) (false, (k : Int), ds es, nx', out) = some (zlV es now es[k].1, ds es, nx', out) := by
 have hl := h.len
 rw [← ysB h now hk]
 refine T.eq (T.iter (fun x => x.2.2 = (ds es, nx', out) ∧ (k : Int) ≤ x.2.1 ∧ x.2.1 ≤ (es.length : Int) ∧ x.1 = ((es.take x.2.1.toNat).drop k).any (ndQ es now es[k].1)) (fun x => es.length - x.2.1.toNat) _ (fun x hx => ?_) ⟨rfl, Int.le_refl _, by simp; omega, by simp⟩ (by simp; omega))
 obtain ⟨b, j, v⟩ := x
 obtain ⟨rfl, h12, h13, h14⟩ := hx
 simp only at h12 h13 h14
 obtain ⟨j, rfl⟩ : ∃ q : Nat, j = q := ⟨j.toNat, by omega⟩
 rw [Int.toNat_natCast] at h14
 unfold zdJ zgQ
 simp only []
 by_cases h2 : (j : Int) < ((ds es).length : Int)
 ·rw [zcF h2]
  have hj : j < es.length := by rw [zdQ] at h2; omega
  cases hb : b with
  | true =>
   refine T.ok ?_
   simp only []
   rw [hb] at h14
   obtain ⟨p, hp, hq⟩ := List.any_eq_true.1 h14.symm
   have hp2 : p ∈ es.drop k := by
    rw [List.drop_take] at hp
    exact List.mem_of_mem_take hp
   rw [List.any_eq_true.2 ⟨p, hp2, hq⟩]
  | false =>
   rw [hb] at h14
   simp only [Bool.not_false, cond_true, zaA]
   have hstep : ((es.take (j + 1)).drop k).any (ndQ es now es[k].1) = ndQ es now es[k].1 es[j] := by
    rw [List.take_succ_eq_append_getElem hj, List.drop_append_of_le_length (by rw [List.length_take]; omega), List.any_append, ← h14]
    simp
   have hw : ∀ b : Bool, b = ndQ es now es[k].1 es[j] → (fun r : (Bool × Int × (List Nd) × Int × List Nd) ⊕ ((Bool × (List Nd) × Int × List Nd)) => match r with
     | .inl s' => (s'.2.2 = (ds es, nx', out) ∧ (k : Int) ≤ s'.2.1 ∧ s'.2.1 ≤ (es.length : Int) ∧ s'.1 = ((es.take s'.2.1.toNat).drop k).any (ndQ es now es[k].1)) ∧ es.length - s'.2.1.toNat < es.length - ((j : Int)).toNat
     | .inr b => b = ((es.drop k).any (ndQ es now es[k].1), ds es, nx', out)) (.inl (b, w64 ((j : Int) + 1), ds es, nx', out)) := fun b hb => by
    rw [zbK (by omega)]
    refine ⟨⟨rfl, by show (k : Int) ≤ ((j + 1 : Nat) : Int); omega, by show ((j + 1 : Nat) : Int) ≤ (es.length : Int); omega, ?_⟩, by show es.length - (((j + 1 : Nat) : Int)).toNat < _; omega⟩
    show b = ((es.take ((j + 1 : Nat) : Int).toNat).drop k).any _
    rw [Int.toNat_natCast, hstep, hb]
   rw [zbP rfl (by rw [zdQ]; exact hj), zaA, zyD, (h.ids _ (List.getElem_mem hj)).1, ydX h, zaA]
   cases hlv : zuS es es[j].1 now with
   | false => exact T.ok (hw false (by unfold ndQ; rw [hlv]; rfl))
   | true =>
    simp only [cond_true]
    rw [zbP rfl (by rw [zdQ]; exact hj), zaA, zyD, (h.ids _ (List.getElem_mem hj)).1, zbP rfl (by rw [zdQ]; exact hk), zaA, zyD, (h.ids _ (List.getElem_mem hk)).1, yvT h, zaA]
    exact T.ok (hw _ (by unfold ndQ; rw [hlv]; rfl))
 ·rw [zcO h2]
  refine T.ok ?_
  simp only []
  rw [zdQ] at h2
  rw [List.take_of_length_le (by omega)] at h14
  rw [h14]
theorem yfP (h : Ok nx es) (now : Int) : zaY zaB now (ds es) nx' = some ((es.length : Int) - ((zbU es now).length : Int), nx', ds (zbU es now)) := by
 have hl := h.len
 refine T.eq ?_
 unfold zaY
 refine T.bind (Q := fun r => r = (ds es, nx', ds (zbU es now))) (T.iter (fun x => x.2.1 = ds es ∧ x.2.2.1 = nx' ∧ 0 ≤ x.1 ∧ x.1 ≤ (es.length : Int) ∧ x.2.2.2 = ds ((es.take x.1.toNat).filter fun p => zlV es now p.1)) (fun x => es.length - x.1.toNat) _ (fun x hx => ?_) ⟨rfl, rfl, Int.le_refl _, by simp, rfl⟩ (by simp; omega)) fun r hr => ?_
 ·obtain ⟨i, L', nx2, out⟩ := x
  obtain ⟨e1, e2, h8, h9, h10⟩ := hx
  simp only at e1 e2 h8 h9 h10
  subst e1 e2
  obtain ⟨k, rfl⟩ : ∃ k : Nat, i = k := ⟨i.toNat, by omega⟩
  rw [Int.toNat_natCast] at h10
  unfold zgL
  simp only []
  refine T.dif (fun h2 => ?_) fun h2 => T.ok ?_
  ·have hk : k < es.length := by rw [zdQ] at h2; omega
   have hfl : ((es.take (k + 1)).filter fun p => zlV es now p.1) = ((es.take k).filter fun p => zlV es now p.1) ++ (bif zlV es now es[k].1 then [es[k]] else []) := by
    rw [List.take_succ_eq_append_getElem hk, List.filter_append]
    congr 1
   have hol : out.length ≤ 256 := by
    rw [h10, zdQ]
    have := List.length_filter_le (fun p : Int × Nd => zlV es now p.1) (es.take k)
    rw [List.length_take] at this; omega
   rw [yuN h now hk, zaA]
   cases hb : zlV es now es[k].1 with
   | true =>
    simp only [cond_true]
    rw [zbP rfl (by rw [zdQ]; exact hk), zaA, zyD, zgM (by simp; omega), zaA]
    refine T.ok ⟨⟨rfl, rfl, ?_, ?_, ?_⟩, ?_⟩
    ·simp only []; rw [zbK (by omega)]; omega
    ·simp only []; rw [zbK (by omega)]; omega
    ·simp only []
     rw [zbK (by omega), Int.toNat_natCast, hfl, hb, h10]
     unfold ds
     rw [List.map_append]; rfl
    ·simp only []; rw [zbK (by omega)]; omega
   | false =>
    simp only [cond_false]
    refine T.ok ⟨⟨rfl, rfl, ?_, ?_, ?_⟩, ?_⟩
    ·simp only []; rw [zbK (by omega)]; omega
    ·simp only []; rw [zbK (by omega)]; omega
    ·simp only []
     rw [zbK (by omega), Int.toNat_natCast, hfl, hb, h10]
     simp
    ·simp only []; rw [zbK (by omega)]; omega
  ·rw [zdQ] at h2
   rw [List.take_of_length_le (by omega)] at h10
   rw [h10]; rfl
 ·subst hr
  refine T.ok ?_
  simp only []
  have := List.length_filter_le (fun p : Int × Nd => zlV es now p.1) es
  have hp : (zbU es now).length ≤ es.length := this
  rw [zdQ, zdQ, ziU (by omega) (by omega)]
theorem T.ok' {α : Type} {o : Option α} {v : α} (h : o = some v) : T o fun r => r = v := ⟨_, h, rfl⟩
theorem yqO (h : Ok nx es) {n : Nd} (hn : NdOk n) (now : Int) : zbQ zaB n now (ds es) nx = some ((zkZ n now nx es).1, (zkZ n now nx es).2.1, ds (zkZ n now nx es).2.2.2, (zkZ n now nx es).2.2.1) := by
 have hnx := h.next
 have hl := h.len
 unfold zbQ zkZ
 rw [yzC hn, zaA]
 cases hm : mayB n with
 | false => rfl
 | true =>
  simp only [Bool.not_true, cond_false]
  rw [ylB h, zaA]
  show (bif (zpU es (nsec n)).isSome then _ else _) = _
  cases hf : (zpU es (nsec n)).isSome with
  | true => rfl
  | false =>
   simp only [cond_false]
   have hj : zdH zaB n ((zpU es (nsec n)).getD zN, false, ds es, nx) = some (bif zyE es (npar n) then .inl ((0 : Int), (133 : Int), ds es, nx) else .inr (ds es, nx, n)) := by
    unfold zdH zyE
    simp only []
    by_cases hp : npar n > 0
    ·rw [zcF (show n.2.2.1 > 0 from hp), decide_eq_true hp, Bool.true_and]
     refine T.eq ((ygB h _).bind fun r hr => ?_)
     obtain ⟨i, v⟩ := r
     obtain ⟨rfl, hr⟩ := hr
     simp only [] at hr ⊢
     rcases hr with ⟨rfl, h2⟩ | ⟨k, hk, m, rfl, h2, h3⟩
     ·have hh : mhas keqI es (npar n) = false := by
       cases hh : mhas keqI es (npar n) with
       | false => rfl
       | true => obtain ⟨q, hq, _⟩ := zgH hh; rw [show npar n = n.2.2.1 from rfl, h2] at hq; cases hq
      rw [zcF (by omega), hh]
      exact T.ok rfl
     ·have hh : mhas keqI es (npar n) = true := yhJ h3
      rw [zcO (by omega), hh, ygX h, zaA]
      refine T.ok' ?_
      show (bif yaB es (npar n) then _ else _) = _
      cases yaB es (npar n) <;> rfl
    ·rw [zcO (show ¬ n.2.2.1 > 0 from hp), decide_eq_false hp]; rfl
   rw [hj, zaA]
   cases ho : zyE es (npar n) with
   | true => rfl
   | false =>
    simp only [cond_false]
    rw [yfP h, zaA]
    have hpl : (zbU es now).length ≤ 256 := by
     have : (zbU es now).length ≤ es.length := List.length_filter_le _ _
     omega
    unfold zgU
    simp only []
    rw [zdQ]
    by_cases h1 : ((zbU es now).length : Int) ≥ 256
    ·rw [zcF h1, zaA, decide_eq_true (show (zbU es now).length ≥ 256 by omega)]; rfl
    ·rw [zcO h1, decide_eq_false (show ¬ (zbU es now).length ≥ 256 by omega), Bool.false_or]
     by_cases h2 : nx ≥ 99999999
     ·rw [zcF h2, zaA, decide_eq_true h2]; rfl
     ·rw [zcO h2, zaA, decide_eq_false h2]
      simp only [cond_false]
      have hs : n.2.2.2.2.2.2.1.length ≤ 1048576 := hn.2.2.2.1
      have ha : n.2.2.2.2.2.2.2.2.2.2.2.1.length ≤ 1048576 := hn.2.2.2.2.2.1
      rw [znN _ (by omega), zaA]
      unfold zgO
      rw [znN _ (show (n.2.2.2.2.2.2.2.2.2.2.2.1).length ≤ 68719476736 by omega), zaA, zaA]
      simp only []
      rw [znN _ (by rw [zdQ]; omega), zaA, zgM (by rw [zdQ, List.length_singleton]; omega), zaA, ziU (by omega) (by omega)]
      unfold ds
      rw [List.map_append]
      rfl
end
def rdT (l : List L8) (q : Bool) : L8 × List L8 × Bool := match l with
 | [] => ([], [], true)
 | x :: r => (x, r, q)
def rdN (l : List L8) (q : Bool) : Int × List L8 × Bool := ((numR (rdT l q).1).1, (rdT l q).2.1, (rdT l q).2.2 || !(numR (rdT l q).1).2)
def rdM (a b : Int) (l : List L8) (q : Bool) : Int × List L8 × Bool := bif !(numR (rdT l q).1).2 || (decide ((numR (rdT l q).1).1 < a) || decide ((numR (rdT l q).1).1 > b)) then (a, (rdT l q).2.1, true) else ((numR (rdT l q).1).1, (rdT l q).2)
def rdF (l : List L8) (q : Bool) : Bool × List L8 × Bool := ((rdT l q).1 == [49], (rdT l q).2.1, (rdT l q).2.2 || ((rdT l q).1 != [48] && (rdT l q).1 != [49]))
def rdL (l : List L8) (q : Bool) : List L8 × List L8 × Bool := bif (rdN l q).2.2 || decide ((rdN l q).1 > ((rdN l q).2.1.length : Int)) then ([], (rdN l q).2.1, true) else ((rdN l q).2.1.take (rdN l q).1.toNat, (rdN l q).2.1.drop (rdN l q).1.toNat, (rdN l q).2.2)
def rdK (l : List L8) (q : Bool) : List L8 × List L8 × Bool := bif decide ((rdM 0 100000 l q).1 > ((rdM 0 100000 l q).2.1.length : Int)) then ([], (rdM 0 100000 l q).2.1, true) else ((rdM 0 100000 l q).2.1.take (rdM 0 100000 l q).1.toNat, (rdM 0 100000 l q).2.1.drop (rdM 0 100000 l q).1.toNat, (rdM 0 100000 l q).2.2)
def Sml (l : List L8) : Prop := l.length ≤ 1048576 ∧ ∀ t ∈ l, t.length ≤ 1048576
theorem Sml.text {l : List L8} (h : Sml l) (q : Bool) : (rdT l q).1.length ≤ 1048576 ∧ Sml (rdT l q).2.1 := by
 cases l with
 | nil => exact ⟨Nat.zero_le _, h⟩
 | cons x r => exact ⟨h.2 x List.mem_cons_self, by have := h.1; simp only [List.length_cons] at this; show r.length ≤ _; omega, fun t ht => h.2 t (List.mem_cons_of_mem _ ht)⟩
theorem Sml.num {l : List L8} (h : Sml l) (q : Bool) : Sml (rdN l q).2.1 := (h.text q).2
theorem Sml.drop {l : List L8} (h : Sml l) (n : Nat) : Sml (l.drop n) := ⟨by rw [List.length_drop]; have := h.1; omega, fun t ht => h.2 t (List.mem_of_mem_drop ht)⟩
theorem Sml.take {l : List L8} (h : Sml l) (n : Nat) : Sml (l.take n) := ⟨by rw [List.length_take]; have := h.1; omega, fun t ht => h.2 t (List.mem_of_mem_take ht)⟩
theorem Sml.nil : Sml [] := ⟨Nat.zero_le _, fun _ h => by cases h⟩
theorem Sml.list {l : List L8} (h : Sml l) (q : Bool) : Sml (rdL l q).1 ∧ Sml (rdL l q).2.1 := by
 unfold rdL
 cases (rdN l q).2.2 || decide ((rdN l q).1 > ((rdN l q).2.1.length : Int)) with
 | true => exact ⟨Sml.nil, h.num q⟩
 | false => exact ⟨(h.num q).take _, (h.num q).drop _⟩
section
variable (l : List L8)
def a1 := rdN l false
def a2 := rdN (a1 l).2.1 (a1 l).2.2
def a3 := rdT (a2 l).2.1 (a2 l).2.2
def a4 := rdT (a3 l).2.1 (a3 l).2.2
def a5 := rdT (a4 l).2.1 (a4 l).2.2
def a6 := rdL (a5 l).2.1 (a5 l).2.2
def a7 := rdN (a6 l).2.1 (a6 l).2.2
def a8 := rdN (a7 l).2.1 (a7 l).2.2
def a9 := rdF (a8 l).2.1 (a8 l).2.2
def a10 := rdF (a9 l).2.1 (a9 l).2.2
def a11 := rdL (a10 l).2.1 (a10 l).2.2
def a12 := rdN (a11 l).2.1 (a11 l).2.2
def a13 := rdT (a12 l).2.1 (a12 l).2.2
def a14 := rdT (a13 l).2.1 (a13 l).2.2
def d1 := rdM 0 999999999999999 l false
def d2 := rdM 0 999999999999999 (d1 l).2.1 (d1 l).2.2
def d3 := rdT (d2 l).2.1 (d2 l).2.2
def d4 := rdT (d3 l).2.1 (d3 l).2.2
def d5 := rdT (d4 l).2.1 (d4 l).2.2
def d6 := rdK (d5 l).2.1 (d5 l).2.2
def d7 := rdM 0 999999999999999 (d6 l).2.1 (d6 l).2.2
def d8 := rdM 0 999999999999999 (d7 l).2.1 (d7 l).2.2
end
theorem ylV (l : List (L8 × L8)) (hl : l.length ≤ 1048576) : zdL zaB l l = some true := by
 unfold zdL
 simp only [bne_self_eq_false, cond_false]
 have hI : iter (zcZ zaB l l) (0 : Int) = (some (.inr ()) : Option (Bool ⊕ Unit)) := by
  refine zpB (fun k => (k : Int)) l.length (by omega) _ (fun k hk => ?_) ?_
  ·unfold zcZ
   rw [zcF (by omega), zbP rfl hk, zaA, zaA]
   simp only [beq_self_eq_true, Bool.and_self, Bool.not_true, cond_false]
   rw [zbK (by omega)]
  ·unfold zcZ
   rw [zcO (by omega)]
 rw [show iter _ _ = _ from hI, zaA]
theorem Ok.snoc {nx last : Int} {es : Es} (h : Ok nx es) (h0 : 0 ≤ last) (hlow : ∀ p ∈ es, p.1 ≤ last) (hlen : es.length < 256) {n : Nd} (hm : mayB n = true) (hf : (zpU es (nsec n)).isSome = false) (h1 : last < n.1) (h2 : n.1 < nx) (h3 : npar n < n.1) : Ok nx (es ++ [(n.1, n)]) := by
 have hmem : ∀ p, p ∈ es ++ [(n.1, n)] → p ∈ es ∨ p = (n.1, n) := fun p hp => by simpa using hp
 have hno : ∀ p ∈ es, nsec p.2 ≠ nsec n := fun p hp e => by
  unfold zpU at hf
  rw [Option.isSome_map, Option.isSome_eq_false_iff, Option.isNone_iff_eq_none, List.find?_eq_none] at hf
  exact hf p hp (beq_iff_eq.2 e)
 have hp0 := (ztU hm).2.2.2.2.2
 exact {
   rises := by
    unfold zmA
    rw [List.pairwise_append]
    refine ⟨h.rises, List.pairwise_singleton _ _, fun p hp q hq => ?_⟩
    rw [List.mem_singleton] at hq
    subst hq
    have := hlow p hp
    simp only []
    omega
   ids := fun p hp => by
    rcases hmem p hp with hp | rfl
    ·exact h.ids p hp
    ·exact ⟨rfl, by simp only []; omega, h2⟩
   par := fun p hp => by
    rcases hmem p hp with hp | rfl
    ·exact h.par p hp
    ·exact ⟨hp0, h3⟩
   may := fun p hp => by
    rcases hmem p hp with hp | rfl
    ·exact h.may p hp
    ·exact hm
   uniq := fun p hp q hq e => by
    rcases hmem p hp with hp | rfl <;> rcases hmem q hq with hq | rfl
    ·exact h.uniq p hp q hq e
    ·exact absurd e (hno p hp)
    ·exact absurd e.symm (hno q hq)
    ·rfl
   next := h.next
   len := by rw [List.length_append, List.length_singleton]; omega }
theorem ynR {a : List L8} (h : a.length ≤ 1048576) : zdT zaB a a = some true := by
 unfold zdT
 rw [bne_self_eq_false]
 simp only [cond_false]
 rw [yhC (l := a) (p := fun _ => true) (bad := Sum.inl false) (good := Sum.inr ()) (by omega) (fun k hk => ?_) ?_, zaA, List.all_eq_true.2 fun _ _ => rfl]
 ·rfl
 ·unfold ziG
  rw [zcO (by omega)]
 ·unfold ziG
  rw [zcF (show (k : Int) < (a.length : Int) by omega), zbP rfl hk, zaA, zaA, bne_self_eq_false, zbK (by omega)]
  rfl
theorem ysS {n : Nd} (h : Lst n) : zcD zaB n n = some true := by
 unfold zcD
 have hj : ziH zaB n n = some (.inr (n.1, n.2.1, n.2.2.1, n.2.2.2.1, n.2.2.2.2.1, n.2.2.2.2.2.1, n.2.2.2.2.2.2.1, n.2.2.2.2.2.2.2.1, n.2.2.2.2.2.2.2.2.1, n.2.2.2.2.2.2.2.2.2.1, n.2.2.2.2.2.2.2.2.2.2.1, n.2.2.2.2.2.2.2.2.2.2.2.1, n.2.2.2.2.2.2.2.2.2.2.2.2.1, n.2.2.2.2.2.2.2.2.2.2.2.2.2.1, n.2.2.2.2.2.2.2.2.2.2.2.2.2.2, n)) := by
  unfold ziH
  rw [ynR h.1, zaA]
  simp only [Bool.not_true, cond_false]
  rw [ynR h.2, zaA]
  rfl
 rw [hj, zaA]
 simp only [beq_self_eq_true, cond_true]
theorem yiX {l : List Nd} (hl : l.length ≤ 1048576) (h : ∀ n ∈ l, Lst n) : zcY zaB l l = some true := by
 unfold zcY
 rw [bne_self_eq_false]
 simp only [cond_false]
 rw [yhC (l := l) (p := fun _ => true) (bad := Sum.inl false) (good := Sum.inr ()) (by omega) (fun k hk => ?_) ?_, zaA, List.all_eq_true.2 fun _ _ => rfl]
 ·rfl
 ·unfold zeP
  rw [zcO (by omega)]
 ·unfold zeP
  rw [zcF (show (k : Int) < (l.length : Int) by omega), zbP rfl hk, zaA, zaA, ysS (h _ (List.getElem_mem hk)), zaA, zbK (by omega)]
  rfl
section
variable {nx nx' : Int} {es : Es}
theorem yrM {a : List Int} (h : a.length ≤ 99999999) : zeB zaB a a = some true := by
 unfold zeB
 rw [show ((a.length : Int) != (a.length : Int)) = false from by simp]
 simp only [cond_false]
 refine T.eq (T.bind (Q := fun r => r = .inr ()) (T.places a.length (by omega) _ fun k hk => ?_) fun r hr => by subst hr; exact T.ok rfl)
 unfold zkN
 refine T.dif (fun h2 => ?_) fun _ => T.ok rfl
 rw [zbP rfl (show k < a.length by omega), zaA, zaA]
 rw [show (a[k] != a[k]) = false from by simp]
 exact T.ok ⟨zbK (by omega), by omega⟩
theorem xdE (h : Ok nx es) (o : OpT) (ho : NdOk o.2.2.2.2.2) : zeS zaB o nx (ds es) nx es = some (true, (yfI o nx es).1, ds (yfI o nx es).2, (yfI o nx es).1, (yfI o nx es).2) := by
 unfold zeS yfI
 have h4 : o.2.2.2.2.2.2.2.2.2.2.2.1.length ≤ 1048576 := ho.2.2.2.1
 have h6 : o.2.2.2.2.2.2.2.2.2.2.2.2.2.2.2.2.1.length ≤ 1048576 := ho.2.2.2.2.2.1
 cases o.2.1 == (0 : Int) with
 | true =>
  simp only [cond_true]
  rw [znN _ (by omega), zaA, znN _ (by omega), zaA]
  rw [show zdE zaB _ _ _ _ _ _ _ _ _ _ _ _ _ _ _ _ _ _ = _ from yqB h o.2.2.2.2.2 o.2.2.1 ⟨h4, h6⟩, zaA]
  rw [yqO h ho, zaA]
  refine T.eq (T.bind (xcH (by exact rfl) (by exact h4) (by exact h6)) fun v hv => ?_)
  obtain ⟨e1, e2, e3, e4, h7⟩ := hv
  refine T.bind (xcO (by exact rfl) (by exact h7)) fun v2 hv2 => ?_
  simp only at e1 e2 e3 e4
  rw [e1, e2, e3, e4] at hv2
  subst hv2
  simp only [beq_self_eq_true, cond_true]
  exact T.ok rfl
 | false =>
  cases o.2.1 == (1 : Int) with
  | true =>
   simp only [cond_true, cond_false]
   rw [yzA h, zaA, zvO h, zaA, zwC h, zaA, ylB h, zaA]
   have hql : Lst ((zpU es o.2.2.2.2.1).getD zN) := by
    cases hf : zpU es o.2.2.2.2.1 with
    | none => exact yyL
    | some n => exact yrF h hf
   simp only [beq_self_eq_true, cond_true]
   rw [ysS (ytG h _), zaA]
   simp only [cond_true]
   rw [ysS hql, zaA]
   simp only [cond_true]
   rw [yiW h, zaA, ydX h, zaA]
   simp only [beq_self_eq_true, cond_true]
   rw [yhU h, zaA, ydK h, zaA, yrM (zqW h _), zaA]
  | false =>
   cases o.2.1 == (2 : Int) with
   | true =>
    simp only [cond_true, cond_false]
    rw [yuK h, zaA, ytN h, zaA]
    simp only [beq_self_eq_true]
   | false =>
    cases o.2.1 == (3 : Int) with
    | true =>
     simp only [cond_true, cond_false]
     rw [xaH h, zaA, ykW h]
     cases mhas keqI es o.2.2.1 <;> rfl
    | false =>
     cases o.2.1 == (4 : Int) with
     | true =>
      simp only [cond_true, cond_false]
      rw [ysH h, zaA, ylX h, zaA]
      simp only [beq_self_eq_true]
     | false =>
      cases o.2.1 == (5 : Int) with
      | true =>
       simp only [cond_true, cond_false]
       rw [yzT h, zaA, yuO h, zaA]
       simp only [beq_self_eq_true]
      | false =>
       cases o.2.1 == (6 : Int) with
       | true =>
        simp only [cond_true, cond_false]
        rw [yzW h, zaA, yvY h, zaA]
        simp only [beq_self_eq_true]
       | false =>
        cases o.2.1 == (7 : Int) with
        | true =>
         simp only [cond_true, cond_false]
         rw [zyI h, zaA, yfP h, zaA]
         simp only [beq_self_eq_true]
        | false => rfl
end
section
variable {P : Program} {G : List (Nat × Obj)}
theorem yhT {f : FuncId} {K V : Ty} (hfn : IsFn P f)
  (hc : ∀ (b : Nat) (es : Array MapEntry) (ck : Nat) (w : World), w.heap[b]? = some (.map es ck) → Calls P f #[.map (some b)] w fun e w' => e = .returned (.map (some w.heap.size)) ∧ w' = w.alloc (.map es ck)) :
  SCok P G f ⟨⟨[(0, .mpr 0)], [.mp true K V]⟩, 1, [(none, ⟨[(0, .mpr 1)], [.mp true K V, .mp true K V]⟩)], fun (es : List (den K × den V)) => some (es, es)⟩ := by
 obtain ⟨q, hq⟩ := zeF (.mp K V)
 have e0 : ∀ y : den (.mp K V), zcU [.mp true K V] [.v (.mp K V) y] = [.mp 0 K V y] := fun y => by simp only [zcU, hq]; rfl
 refine ⟨hfn, fun S0 w0 us E0 L0 (es : List (den K × den V)) (d : List (den K × den V) × List (den K × den V)) _ hul R hy => ?_⟩
 have hd : d = (es, es) := (osi hy).symm
 subst hd
 have hul : us.length = 1 := hul
 obtain ⟨u, rfl⟩ : ∃ u, us = [u] := by
  match us, hul with
  | [u], _ => exact ⟨u, rfl⟩
 have hput : (Shp.put (⟨[(0, .mpr 0)], [.mp true K V]⟩ : Shp) es) = ⟨[(0, .mpr 0)], [.mp 0 K V es]⟩ := congrArg (fun hp => (⟨[(0, .mpr 0)], hp⟩ : St)) (e0 es)
 have R : RelV ⟨S0, zcA L0, w0⟩ S0 E0 L0 ⟨[(0, .mpr 0)], [.mp 0 K V es]⟩ (fun t => [u].getD t undef) w0 := by rw [← hput]; exact R
 obtain ⟨r1, e1', c1, c2, b, ents, ck, rfl, rfl, c3, c4⟩ := R.objN (i := 0) rfl
 obtain ⟨_, e1, a5, a6⟩ := (show VB S0 E0 (.mpr 0) u from R.sl 0)
 rw [c2] at a5; cases a5
 have hu := a6 _ _ _ _ rfl
 subst hu
 have hh1 : w0.heap[b]? = some (.map ents.toArray ck) := R.hs.own 0 _ c1
 have hL : L0.length = 1 := R.lL
 have hE : E0.length = 1 := R.lE
 refine (hc b _ ck w0 hh1).mono ?_
 rintro x w' ⟨rfl, rfl⟩
 have H : HS ⟨S0, zcA L0, w0⟩ S0 (w0.alloc (.map ents.toArray ck)) (.obj w0.heap.size (.map ents.toArray ck) :: L0) := R.hs.push (Ext.alloc w0 _) (zaE w0 _) fun b hb => by cases hb; exact Nat.le_refl _
 refine ⟨_, rfl, S0, E0 ++ [.mp 0 w0.heap.size ck ents], L0 ++ [.obj w0.heap.size (.map ents.toArray ck)], ⟨[(0, .mpr 1)], [.mp 0 K V es, .mp 0 K V es]⟩, fun _ => .map (some w0.heap.size), fun k => ?_, Mem.le_refl _, Pin.of (ELe.push _ _), ⟨HS.snoc H, by simp [hL], by simp [hE], fun i o ho => ?_, fun t => ?_⟩, ?_, by simp, rfl⟩
 ·show k (exOf none) _ = _
  have h2 : (Shp.put (⟨[(0, .mpr 1)], [.mp true K V, .mp true K V]⟩ : Shp) ((es, es) : List (den K × den V) × List (den K × den V))) = ⟨[(0, .mpr 1)], [.mp 0 K V es, .mp 0 K V es]⟩ := by
   have e2 : ∀ y z : den (.mp K V), zcU [.mp true K V, .mp true K V] [.v (.mp K V) y, .v (.mp K V) z] = [.mp 0 K V y, .mp 0 K V z] := fun y z => by
    rw [zcU, hq]
    simp only []
    rw [e0]; rfl
   exact congrArg (fun hp => (⟨[(0, .mpr 1)], hp⟩ : St)) (e2 es es)
  rw [h2]; rfl
 ·cases i with
  | zero =>
   cases ho
   exact ⟨_, _, by rw [List.getElem?_append_left (by omega), ← zaL]; exact c1, by rw [List.getElem?_append_left (by omega)]; exact c2, b, ents, ck, rfl, rfl, c3, c4⟩
  | succ i =>
   cases i with
   | zero =>
    cases ho
    exact ⟨_, _, by rw [List.getElem?_append_right (by omega), hL]; rfl, by rw [List.getElem?_append_right (by omega), hE]; rfl, w0.heap.size, ents, ck, rfl, rfl, c3, c4⟩
   | succ i => simp at ho
 ·cases t with
  | zero => exact VR.ofC (show VC S0 _ (.mpr 1) _ from ⟨rfl, .mp 0 w0.heap.size ck ents, by rw [List.getElem?_append_right (by omega), hE]; rfl, fun g b ck es he => by cases he; rfl⟩)
  | succ t => trivial
 ·intro i ver e' T' xs' hi
  cases i with
  | zero => cases hi
  | succ i =>
   cases i with
   | zero => cases hi
   | succ i => simp at hi
end
end Go.Proofs.YtebbcofojchkpaaGreatDoor.Am
namespace Go.Proofs
open Go.Shelf
def Tryz.mclone73_ren : Go.Shelf.Ren := ⟨fun | 5 => 73 | 7 => 128 | n => n, fun | 23 => 73 | 25 => 3 | 3 => 81 | 4 => 4 | 20 => 20 | n => n, fun | n => n⟩
theorem Tryz.mclone73 : Go.Proofs.SlLaysW.n5 Tryz.prog Tryz.mclone73_ren := {
  mixed := by kernel_rfl
  f5 := ⟨Tryz.f73.name, by decide, Tryz.func73.trans (congrArg some (by kernel_rfl))⟩
  f7 := Tryz.func128.trans (congrArg some (by kernel_rfl))
  t4 := Tryz.underlying4
  a4 := Tryz.isAgg4
  z4 := Tryz.sizeOf4
  v4 := Tryz.zeroValue4
  t20 := Tryz.underlying20
  a20 := Tryz.isAgg20
  z20 := Tryz.sizeOf20
  v20 := Tryz.zeroValue20
  t23 := Tryz.underlying73
  a23 := Tryz.isAgg73
  z23 := Tryz.sizeOf73
  v23 := Tryz.zeroValue73 }
end Go.Proofs
namespace Go.Proofs.YtebbcofojchkpaaGreatDoor.Am
open Go Go.RowKit
theorem mclone73 (b : Nat) (es : Array MapEntry) (ck : Nat) (w : World) (hb : w.heap[b]? = some (.map es ck)) : Calls Tryz.prog 73 #[.map (some b)] w fun e w' => e = .returned (.map (some w.heap.size)) ∧ w' = w.alloc (.map es ck) := AnyW.maps_Clone Tryz.mclone73 b es ck w hb
def τWkP : TE := [(3, ⟨.int .i64, 1, [.v (.i .i64) (show Int from 0)], (.i .i64), 8⟩),
 (4, ⟨.b, 1, [.v .b (show Bool from false)], .b, 1⟩),
 (25, ⟨.pt 75, 1, [.nilp], .un, 8⟩),
 (35, ⟨.sl 47, 1, [.nils], (.sl (.pr (.i .i64) (.pr (.i .i64) (.pr (.i .i64) (.pr .s (.pr .s (.pr .s (.pr (.sl .s) (.pr (.i .i64) (.pr (.i .i64) (.pr .b (.pr .b (.pr (.sl .s) (.pr (.i .i64) (.pr .s .s))))))))))))))), 24⟩),
 (47, ⟨.st [(3, 0), (3, 1), (3, 2), (9, 3), (9, 4), (9, 5), (45, 6), (3, 7), (3, 8), (4, 9), (4, 10), (45, 11), (3, 12), (9, 13), (9, 14)], 15, [.v (.i .i64) (show Int from 0), .v (.i .i64) (show Int from 0), .v (.i .i64) (show Int from 0), .v .s (show Bs from []), .v .s (show Bs from []), .v .s (show Bs from []), .nils, .v (.i .i64) (show Int from 0), .v (.i .i64) (show Int from 0), .v .b (show Bool from false), .v .b (show Bool from false), .nils, .v (.i .i64) (show Int from 0), .v .s (show Bs from []), .v .s (show Bs from [])], (.pr (.i .i64) (.pr (.i .i64) (.pr (.i .i64) (.pr .s (.pr .s (.pr .s (.pr (.sl .s) (.pr (.i .i64) (.pr (.i .i64) (.pr .b (.pr .b (.pr (.sl .s) (.pr (.i .i64) (.pr .s .s)))))))))))))), 184⟩),
 (73, ⟨.map 3 81, 1, [.nilm], (.mp (.i .i64) (.pr (.i .i64) (.pr (.i .i64) (.pr (.i .i64) (.pr .s (.pr .s (.pr .s (.pr (.sl .s) (.pr (.i .i64) (.pr (.i .i64) (.pr .b (.pr .b (.pr (.sl .s) (.pr (.i .i64) (.pr .s .s))))))))))))))), 8⟩),
 (75, ⟨.st [(73, 0), (3, 1)], 2, [.nilm, .v (.i .i64) (show Int from 0)], (.pr (.mp (.i .i64) (.pr (.i .i64) (.pr (.i .i64) (.pr (.i .i64) (.pr .s (.pr .s (.pr .s (.pr (.sl .s) (.pr (.i .i64) (.pr (.i .i64) (.pr .b (.pr .b (.pr (.sl .s) (.pr (.i .i64) (.pr .s .s))))))))))))))) (.i .i64)), 16⟩)]
theorem τ_okWkP : TEok Tryz.prog τWkP := ygU (by kernel_rfl) (by kernel_rfl)
theorem yyI : Tryz.prog.follows .mixedOrders = true := by kernel_rfl
theorem xdT {G : List (Nat × Obj)} {o : Ops} [zmE G] [zkJ G o] {Γ : CT} {η : HT} {f : FuncId} {fn : Func} {c : SC} (hΓ : ∀ B, GB G B → CTok Tryz.prog Γ B) (hf : Tryz.prog.funcs[f]? = some fn) (i : (fn.name == "runtime.NumGoroutine") = false := by kernel_rfl) (j : fn.body.isNone = false := by kernel_rfl) (l : Nat.ble c.I.sl.length fn.ntmps = true := by kernel_rfl) (r : Nat.beq fn.results.toList.length c.nr = true := by kernel_rfl) (e : fnS τWkP Γ η fn c.I c.outs = c.p := by kernel_rfl) : SCok Tryz.prog G f c := witO (G := G) (o := o) <| ymU yyI τ_okWkP hΓ hf (isFn hf i j) l r e
theorem fpcWkP {G : List (Nat × Obj)} {o : Ops} [zmE G] [zkJ G o] {Γ : CT} {η : HT} {f : FuncId} {fn : Func} {c : PC} (hΓ : ∀ B, GB G B → CTok Tryz.prog Γ B) (hf : Tryz.prog.funcs[f]? = some fn) (i : (fn.name == "runtime.NumGoroutine") = false := by kernel_rfl) (j : fn.body.isNone = false := by kernel_rfl) (l : Nat.ble c.ash.length fn.ntmps = true := by kernel_rfl) (r : c.cl = false := by kernel_rfl) (e : fnP τWkP Γ η fn c.ash c.rts = c.p := by kernel_rfl) : PCok Tryz.prog G f c := witO (G := G) (o := o) <| ymK yyI τ_okWkP hΓ hf (isFn hf i j) l r e
abbrev KWkP0 : Type := Int × Int × Int × Bs × Bs × Bs × (List Bs) × Int × Int × Bool × Bool × (List Bs) × Int × Bs × Bs
abbrev YWkP0 : Ty := .pr (.i .i64) (.pr (.i .i64) (.pr (.i .i64) (.pr .s (.pr .s (.pr .s (.pr (.sl .s) (.pr (.i .i64) (.pr (.i .i64) (.pr .b (.pr .b (.pr (.sl .s) (.pr (.i .i64) (.pr .s .s)))))))))))))
abbrev ysJ : Type := Int × KWkP0
abbrev ymZ : OSh := .mp true (.i .i64) YWkP0
abbrev xeC : OSh := .blk 75 [(.mpr 1), hI]
abbrev QWkP2 : OSh := .blk 75 [(.mpr 3), hI]
section
variable {tabs : List (Nat × Obj)} [zmE tabs] {o : Ops} [zkJ tabs o]
def yhA : SC := ⟨⟨[(0, (.mpr 0))], [ymZ]⟩, 1, [(none, ⟨[(0, (.mpr 1))], [ymZ, ymZ]⟩)], fun (es : List ysJ) => some (es, es)⟩
theorem ysX : SCok Tryz.prog tabs 73 yhA := wit (G := tabs) <| yhT (isFn Tryz.func73) mclone73
def zjI (o : Ops) (v0 : Int) (v1 : List ysJ) : Option ((Int × (List ysJ) × Int × List ysJ)) :=
 ((fun (es : List ysJ) => some (es, es)) v1).bind fun v2 => some (v0, v2.1, v0, v2.2)
def znC (o : Ops) : SC := ⟨⟨[(0, (.ptr 0 0))], [xeC, ymZ]⟩, 1, [(none, ⟨[(0, (.ptr 2 0))], [xeC, ymZ, QWkP2, ymZ]⟩)], fun x => zjI o x.1 x.2⟩
theorem zsX : SCok Tryz.prog tabs 28 (znC o) := xdT (o := o) (η := [(4000001, .sch [(.pu, 0, []), (.pu, 1, []), (.pu, 2, []), (.pu, 3, []), (.pu, 5, [1]), (.pu, 6, [1]), (.pu, 7, [1]), (.pu, 8, [1]), (.mn, 4, [1]), (.pu, 9, []), (.mn, 10, [0, 1, 2, 3]), (.pu, 11, [])])]) (Γ := ⟨[], [(73, yhA)], false, []⟩) (ctok trivial ⟨ysX, trivial⟩) Tryz.func28
end
def τWkD : TE := [(3, ⟨.int .i64, 1, [.v (.i .i64) (show Int from 0)], (.i .i64), 8⟩),
 (4, ⟨.b, 1, [.v .b (show Bool from false)], .b, 1⟩),
 (5, ⟨.int .u8, 1, [.v (.i .u8) (show UInt8 from 0)], (.i .u8), 1⟩),
 (9, ⟨.s, 1, [.v .s (show Bs from [])], .s, 16⟩),
 (22, ⟨.sl 24, 1, [.nils], (.sl (.pr .s .s)), 24⟩),
 (24, ⟨.st [(9, 0), (9, 1)], 2, [.v .s (show Bs from []), .v .s (show Bs from [])], (.pr .s .s), 32⟩),
 (25, ⟨.pt 75, 1, [.nilp], .un, 8⟩),
 (29, ⟨.pt 38, 1, [.nilp], .un, 8⟩),
 (35, ⟨.sl 47, 1, [.nils], (.sl (.pr (.i .i64) (.pr (.i .i64) (.pr (.i .i64) (.pr .s (.pr .s (.pr .s (.pr (.sl .s) (.pr (.i .i64) (.pr (.i .i64) (.pr .b (.pr .b (.pr (.sl .s) (.pr (.i .i64) (.pr .s .s))))))))))))))), 24⟩),
 (38, ⟨.st [(35, 0), (3, 1)], 2, [.nils, .v (.i .i64) (show Int from 0)], (.pr (.sl (.pr (.i .i64) (.pr (.i .i64) (.pr (.i .i64) (.pr .s (.pr .s (.pr .s (.pr (.sl .s) (.pr (.i .i64) (.pr (.i .i64) (.pr .b (.pr .b (.pr (.sl .s) (.pr (.i .i64) (.pr .s .s))))))))))))))) (.i .i64)), 32⟩),
 (41, ⟨.sl 50, 1, [.nils], (.sl (.pr (.i .i64) (.pr (.i .i64) (.pr (.i .i64) (.pr (.i .i64) (.pr .s (.pr (.i .i64) (.pr (.i .i64) (.pr (.i .i64) (.pr .s (.pr .s (.pr .s (.pr (.sl .s) (.pr (.i .i64) (.pr (.i .i64) (.pr .b (.pr .b (.pr (.sl .s) (.pr (.i .i64) (.pr .s .s)))))))))))))))))))), 24⟩),
 (45, ⟨.sl 9, 1, [.nils], (.sl .s), 24⟩),
 (47, ⟨.st [(3, 0), (3, 1), (3, 2), (9, 3), (9, 4), (9, 5), (45, 6), (3, 7), (3, 8), (4, 9), (4, 10), (45, 11), (3, 12), (9, 13), (9, 14)], 15, [.v (.i .i64) (show Int from 0), .v (.i .i64) (show Int from 0), .v (.i .i64) (show Int from 0), .v .s (show Bs from []), .v .s (show Bs from []), .v .s (show Bs from []), .nils, .v (.i .i64) (show Int from 0), .v (.i .i64) (show Int from 0), .v .b (show Bool from false), .v .b (show Bool from false), .nils, .v (.i .i64) (show Int from 0), .v .s (show Bs from []), .v .s (show Bs from [])], (.pr (.i .i64) (.pr (.i .i64) (.pr (.i .i64) (.pr .s (.pr .s (.pr .s (.pr (.sl .s) (.pr (.i .i64) (.pr (.i .i64) (.pr .b (.pr .b (.pr (.sl .s) (.pr (.i .i64) (.pr .s .s)))))))))))))), 184⟩),
 (50, ⟨.st [(3, 0), (3, 1), (3, 2), (3, 3), (9, 4), (47, 5)], 20, [.v (.i .i64) (show Int from 0), .v (.i .i64) (show Int from 0), .v (.i .i64) (show Int from 0), .v (.i .i64) (show Int from 0), .v .s (show Bs from []), .v (.i .i64) (show Int from 0), .v (.i .i64) (show Int from 0), .v (.i .i64) (show Int from 0), .v .s (show Bs from []), .v .s (show Bs from []), .v .s (show Bs from []), .nils, .v (.i .i64) (show Int from 0), .v (.i .i64) (show Int from 0), .v .b (show Bool from false), .v .b (show Bool from false), .nils, .v (.i .i64) (show Int from 0), .v .s (show Bs from []), .v .s (show Bs from [])], (.pr (.i .i64) (.pr (.i .i64) (.pr (.i .i64) (.pr (.i .i64) (.pr .s (.pr (.i .i64) (.pr (.i .i64) (.pr (.i .i64) (.pr .s (.pr .s (.pr .s (.pr (.sl .s) (.pr (.i .i64) (.pr (.i .i64) (.pr .b (.pr .b (.pr (.sl .s) (.pr (.i .i64) (.pr .s .s))))))))))))))))))), 232⟩),
 (65, ⟨.sl 25, 1, [.nils], .un, 24⟩),
 (66, ⟨.sl 29, 1, [.nils], .un, 24⟩),
 (132, ⟨.sl 5, 1, [.nils], (.sl (.i .u8)), 24⟩)]
theorem τ_okWkD : TEok Tryz.prog τWkD := ygU (by kernel_rfl) (by kernel_rfl)
theorem yyQ : Tryz.prog.follows .mixedOrders = true := by kernel_rfl
theorem yyA {G : List (Nat × Obj)} {o : Ops} [zmE G] [zkJ G o] {Γ : CT} {η : HT} {f : FuncId} {fn : Func} {c : SC} (hΓ : ∀ B, GB G B → CTok Tryz.prog Γ B) (hf : Tryz.prog.funcs[f]? = some fn) (i : (fn.name == "runtime.NumGoroutine") = false := by kernel_rfl) (j : fn.body.isNone = false := by kernel_rfl) (l : Nat.ble c.I.sl.length fn.ntmps = true := by kernel_rfl) (r : Nat.beq fn.results.toList.length c.nr = true := by kernel_rfl) (e : fnS τWkD Γ η fn c.I c.outs = c.p := by kernel_rfl) : SCok Tryz.prog G f c := witO (G := G) (o := o) <| ymU yyQ τ_okWkD hΓ hf (isFn hf i j) l r e
theorem yjE {G : List (Nat × Obj)} {o : Ops} [zmE G] [zkJ G o] {Γ : CT} {η : HT} {f : FuncId} {fn : Func} {c : PC} (hΓ : ∀ B, GB G B → CTok Tryz.prog Γ B) (hf : Tryz.prog.funcs[f]? = some fn) (i : (fn.name == "runtime.NumGoroutine") = false := by kernel_rfl) (j : fn.body.isNone = false := by kernel_rfl) (l : Nat.ble c.ash.length fn.ntmps = true := by kernel_rfl) (r : c.cl = false := by kernel_rfl) (e : fnP τWkD Γ η fn c.ash c.rts = c.p := by kernel_rfl) : PCok Tryz.prog G f c := witO (G := G) (o := o) <| ymK yyQ τ_okWkD hΓ hf (isFn hf i j) l r e
abbrev zpZ : Type := Int × Int × Int × Bs × Bs × Bs × (List Bs) × Int × Int × Bool × Bool × (List Bs) × Int × Bs × Bs
abbrev zxX : Ty := .pr (.i .i64) (.pr (.i .i64) (.pr (.i .i64) (.pr .s (.pr .s (.pr .s (.pr (.sl .s) (.pr (.i .i64) (.pr (.i .i64) (.pr .b (.pr .b (.pr (.sl .s) (.pr (.i .i64) (.pr .s .s)))))))))))))
abbrev ybC : Type := (List zpZ) × Int
abbrev ywE : Type := Int × Int × Int × Int × Bs × zpZ
abbrev YWkD2 : Ty := .pr (.i .i64) (.pr (.i .i64) (.pr (.i .i64) (.pr (.i .i64) (.pr .s zxX))))
abbrev ycZ : OSh := .blk 38 [(.h (.sl zxX)), hI]
section
variable {tabs : List (Nat × Obj)} [zmE tabs] {o : Ops} [zkJ tabs o]
def zeH (o : Ops) (v0 : List zpZ) (v1 : Int) : Option (((List zpZ) × Int × ybC)) :=
 some (v0, v1, v0, v1)
def zhW (o : Ops) : SC := ⟨⟨[(0, (.ptr 0 0))], [ycZ]⟩, 1, [(none, ⟨[(0, (.ptr 1 0))], [ycZ, ycZ]⟩)], fun x => zeH o x.1 x.2⟩
theorem zoK : SCok Tryz.prog tabs 29 (zhW o) := yyA (o := o) (η := []) (Γ := ⟨[], [], false, []⟩) (ctok trivial trivial) Tryz.func29
def zjV (o : Ops) (v1 : Int) (v2 : Bs) : Option ((Int × Bs) ⊕ ((Int × Bs))) :=
 bif decide (v1 > 9) then ((chk (decide ((0 : Int) < 10))).bind fun _ => (app ([i8 (w64 ((48 : Int) + (Int.tmod v1 (10 : Int))))] : Bs) v2).bind fun v3 => (chk (((10 : Int) != 0))).bind fun _ => some (.inl (w64 (Int.tdiv v1 (10 : Int)), v3))) else some (.inr (v1, v2))
def zaF (o : Ops) (v0 : Int) : Option Bs :=
 (iter (fun x => zjV o x.1 x.2) (v0, ([] : Bs))).bind fun v4 => (app ([i8 (w64 ((48 : Int) + v4.1))] : Bs) v4.2).bind fun v5 => some v5
def zjQ (o : Ops) : PC := ⟨[hI], [.s], fun x => zaF o x, false⟩
theorem zoE : PCok Tryz.prog tabs 75 (zjQ o) := yjE (o := o) (η := [(200002, .loop [] ⟨[(0, hI), (3, hS)], []⟩ [2] [(some 0, ⟨[(0, hI), (3, hS)], []⟩)])]) (Γ := ⟨[], [], false, []⟩) (ctok trivial trivial) Tryz.func75
def zfA (o : Ops) (v0 : List Bs) (v1 : Int) (v2 : Bs) : Option ((Int × Bs) ⊕ Bs) :=
 bif decide (v1 < (v0.length : Int)) then ((idx v0 v1).bind fun v3 => (idx v0 v1).bind fun v4 => (zaF o (v3.length : Int)).bind fun v5 => (app v5 ([58] : Bs)).bind fun v6 => (app v6 v4).bind fun v7 => (app v2 v7).bind fun v8 => some (.inl (w64 (v1 + 1), v8))) else some (.inr v2)
def zdO (o : Ops) (v0 : List Bs) : Option Bs :=
 (iter (fun x => zfA o v0 x.1 x.2) ((0 : Int), ([] : Bs))).bind fun v9 => some v9
def zmO (o : Ops) : PC := ⟨[(.h (.sl .s))], [.s], fun x => zdO o x, false⟩
theorem zsS : PCok Tryz.prog tabs 74 (zmO o) := yjE (o := o) (η := [(200003, .loop [] ⟨[(3, (.own 0)), (4, hI)], [.osl (.i .u8) 5]⟩ [0, 2] [(some 0, ⟨[(3, (.own 0))], [.osl (.i .u8) 5]⟩)]),
 (4000005, .sch [(.pu, 0, []), (.pu, 1, []), (.pu, 2, []), (.pu, 3, []), (.pu, 4, []), (.pu, 5, []), (.pu, 8, []), (.pu, 9, []), (.pu, 10, []), (.pu, 11, []), (.mn, 6, []), (.pu, 7, []), (.pu, 12, []), (.mn, 13, [0]), (.mn, 14, [])])]) (Γ := ⟨[(75, (zjQ o))], [], false, []⟩) (ctok ⟨zoE, trivial⟩ trivial) Tryz.func74
def zfV (o : Ops) (v0 : Bool) : Option Bs :=
 bif v0 then (some ([49] : Bs)) else (some ([48] : Bs))
def zmP (o : Ops) : PC := ⟨[hB], [.s], fun x => zfV o x, false⟩
theorem zsY : PCok Tryz.prog tabs 76 (zmP o) := yjE (o := o) (η := []) (Γ := ⟨[], [], false, []⟩) (ctok trivial trivial) Tryz.func76
def zhV (o : Ops) (v23 : Bs) (v24 : List zpZ) (v25 : Int) (v26 : List (Bs × Bs)) (v27 : List Bs) : Option ((Bs × (List zpZ) × Int × (List (Bs × Bs)) × List Bs) ⊕ ((Bs × (List zpZ) × Int × (List (Bs × Bs)) × List Bs))) :=
 bif decide ((v23.length : Int) < 8) then ((app ([48] : Bs) v23).bind fun v28 => some (.inl (v28, v24, v25, v26, v27))) else some (.inr (v23, v24, v25, v26, v27))
def zbX (o : Ops) (v4 : Int) (v5 : List zpZ) (v6 : Int) (v7 : List (Bs × Bs)) : Option ((Int × (List zpZ) × Int × List (Bs × Bs)) ⊕ (((List zpZ) × Int × List (Bs × Bs)))) :=
 bif decide (v4 < (v5.length : Int)) then ((idx v5 v4).bind fun v8 => (zaF o v8.2.1).bind fun v9 => (zaF o v8.2.2.1).bind fun v10 => (zaF o (v8.2.2.2.2.2.2.1.length : Int)).bind fun v11 => (app ([v9, v10, v8.2.2.2.1, v8.2.2.2.2.1, v8.2.2.2.2.2.1, v11] : List Bs) v8.2.2.2.2.2.2.1).bind fun v12 => (zaF o v8.2.2.2.2.2.2.2.1).bind fun v13 => (zaF o v8.2.2.2.2.2.2.2.2.1).bind fun v14 => (zfV o v8.2.2.2.2.2.2.2.2.2.1).bind fun v15 => (zfV o v8.2.2.2.2.2.2.2.2.2.2.1).bind fun v16 => (zaF o (v8.2.2.2.2.2.2.2.2.2.2.2.1.length : Int)).bind fun v17 => (app v12 ([v13, v14, v15, v16, v17] : List Bs)).bind fun v18 => (app v18 v8.2.2.2.2.2.2.2.2.2.2.2.1).bind fun v19 => (zaF o v8.2.2.2.2.2.2.2.2.2.2.2.2.1).bind fun v20 => (app v19 ([v20, v8.2.2.2.2.2.2.2.2.2.2.2.2.2.1, v8.2.2.2.2.2.2.2.2.2.2.2.2.2.2] : List Bs)).bind fun v21 => (zaF o v8.1).bind fun v22 => (iter (fun x => zhV o x.1 x.2.1 x.2.2.1 x.2.2.2.1 x.2.2.2.2) (v22, v5, v6, v7, v21)).bind fun v29 => (app ([110, 111, 100, 101, 47] : Bs) v29.1).bind fun v30 => (zdO o v29.2.2.2.2).bind fun v31 => (app v29.2.2.2.1 ([(v30, v31)] : List (Bs × Bs))).bind fun v32 => some (.inl (w64 (v4 + 1), v29.2.1, v29.2.2.1, v32))) else some (.inr (v5, v6, v7))
def zcK (o : Ops) (v0 : List zpZ) (v1 : Int) : Option (((List zpZ) × Int × List (Bs × Bs))) :=
 (zaF o v1).bind fun v2 => (zdO o ([v2] : List Bs)).bind fun v3 => (iter (fun x => zbX o x.1 x.2.1 x.2.2.1 x.2.2.2) ((0 : Int), v0, v1, ([(([102, 111, 114, 101, 115, 116] : Bs), v3)] : List (Bs × Bs)))).bind fun v33 => some v33
def zhY (o : Ops) : SC := ⟨⟨[(0, (.ptr 0 0))], [ycZ]⟩, 1, [(none, ⟨[(0, (.own 1))], [ycZ, .osl (.pr .s .s) 24]⟩)], fun x => zcK o x.1 x.2⟩
theorem zoJ : SCok Tryz.prog tabs 30 (zhY o) := yyA (o := o) (η := [(200010, .loop [] ⟨[(0, (.ptr 0 0)), (3, (.own 1)), (6, (.own 2)), (7, hS)], [ycZ, .osl (.pr .s .s) 24, .osl .s 9]⟩ [2, 4] [(some 2, ⟨[(0, (.ptr 0 0)), (3, (.own 1)), (6, (.own 2)), (7, hS)], [ycZ, .osl (.pr .s .s) 24, .osl .s 9]⟩)]),
 (200003, .loop [] ⟨[(0, (.ptr 0 0)), (3, (.own 1)), (4, hI)], [ycZ, .osl (.pr .s .s) 24]⟩ [2] [(some 0, ⟨[(3, (.own 1))], [ycZ, .osl (.pr .s .s) 24]⟩)]),
 (4000006, .sch [(.pu, 0, []), (.pu, 1, []), (.pu, 3, []), (.pu, 4, []), (.pu, 6, []), (.pu, 7, []), (.pu, 8, []), (.pu, 9, []), (.pu, 10, []), (.pu, 11, []), (.pu, 12, []), (.pu, 13, []), (.pu, 14, []), (.mn, 2, []), (.mn, 5, []), (.mn, 15, []), (.mn, 16, []), (.pu, 17, [])]),
 (4000007, .sch [(.pu, 0, []), (.pu, 1, []), (.pu, 2, []), (.pu, 4, [3]), (.pu, 5, [3]), (.pu, 7, [3]), (.pu, 8, [3]), (.pu, 10, [3]), (.pu, 11, [3]), (.pu, 13, [3]), (.pu, 14, [3]), (.pu, 16, [3]), (.pu, 17, [3]), (.pu, 18, [3]), (.mn, 3, [3]), (.mn, 6, []), (.mn, 9, []), (.mn, 12, []), (.mn, 15, []), (.mn, 19, []), (.mn, 20, []), (.mn, 21, [3]), (.mn, 22, [])]),
 (4000008, .sch [(.pu, 0, []), (.pu, 1, []), (.pu, 2, []), (.pu, 4, [3]), (.pu, 5, [3]), (.pu, 7, [3]), (.pu, 8, [3]), (.pu, 9, [3]), (.pu, 10, [3]), (.mn, 3, [3]), (.mn, 6, []), (.mn, 11, []), (.mn, 12, [3]), (.mn, 13, [])])]) (Γ := ⟨[(75, (zjQ o)), (74, (zmO o)), (76, (zmP o))], [], false, []⟩) (ctok ⟨zoE, ⟨zsS, ⟨zsY, trivial⟩⟩⟩ trivial) Tryz.func30
noncomputable def zeJ (o : Ops) (v4 : List (Int × List (Int × zpZ))) (v5 : List ybC) (v6 : ywE) (v7 : Int) : Option (((List (Int × List (Int × zpZ))) × (List ybC) × ywE)) :=
 bif (v6.2.1 == 8) then ((chk (decide ((0 : Int) ≤ v7) && decide (v7 < (v4.length : Int)))).bind fun _ => (chk (decide ((0 : Int) ≤ v7) && decide (v7 < (v4.length : Int)))).bind fun _ => (idx v4 v7).bind fun v8 => (zjI o v8.1 v8.2).bind fun v9 => (setL v4 v7 (v9.1, v9.2.1)).bind fun v10 => (app v10 ([v9.2.2] : List (Int × List (Int × zpZ)))).bind fun v11 => (chk (decide ((0 : Int) ≤ v7) && decide (v7 < (v5.length : Int)))).bind fun _ => (chk (decide ((0 : Int) ≤ v7) && decide (v7 < (v5.length : Int)))).bind fun _ => (idx v5 v7).bind fun v12 => (zeH o v12.1 v12.2).bind fun v13 => (setL v5 v7 (v13.1, v13.2.1)).bind fun v14 => (app v14 ([v13.2.2] : List ybC)).bind fun v15 => some (v11, v15, v6)) else some (v4, v5, v6)
noncomputable def ziT (o : Ops) (v0 : List ywE) (v3 : Int) (v4 : List (Int × List (Int × zpZ))) (v5 : List ybC) : Option ((Int × (List (Int × List (Int × zpZ))) × List ybC) ⊕ (Bool ⊕ ((List (Int × List (Int × zpZ))) × List ybC))) :=
 bif decide (v3 < (v0.length : Int)) then ((idx v0 v3).bind fun v6 => (zeX o v6.1 (v4.length : Int)).bind fun v7 => (zeJ o v4 v5 v6 v7).bind fun v16 => (chk (decide ((0 : Int) ≤ v7) && decide (v7 < (v16.1.length : Int)))).bind fun _ => (chk (decide ((0 : Int) ≤ v7) && decide (v7 < (v16.1.length : Int)))).bind fun _ => (chk (decide ((0 : Int) ≤ v7) && decide (v7 < (v16.2.1.length : Int)))).bind fun _ => (chk (decide ((0 : Int) ≤ v7) && decide (v7 < (v16.2.1.length : Int)))).bind fun _ => (idx v16.1 v7).bind fun v17 => (idx v16.2.1 v7).bind fun v18 => (zeS o v16.2.2 v17.1 v18.1 v18.2 v17.2).bind fun v19 => (setL v16.2.1 v7 (v19.2.2.1, v19.2.2.2.1)).bind fun v20 => (setL v16.1 v7 (v19.2.1, v19.2.2.2.2)).bind fun v21 => bif (!v19.1) then some (.inr (.inl false)) else some (.inl (w64 (v3 + 1), v21, v20))) else some (.inr (.inr (v4, v5)))
noncomputable def ziW (o : Ops) (v25 : Int) (v26 : List (Int × List (Int × zpZ))) (v27 : List ybC) : Option ((Int × (List (Int × List (Int × zpZ))) × List ybC) ⊕ (Bool ⊕ Unit)) :=
 bif decide (v25 < (v26.length : Int)) then ((chk (decide ((0 : Int) ≤ v25) && decide (v25 < (v26.length : Int)))).bind fun _ => (chk (decide ((0 : Int) ≤ v25) && decide (v25 < (v26.length : Int)))).bind fun _ => (chk (decide ((0 : Int) ≤ v25) && decide (v25 < (v27.length : Int)))).bind fun _ => (chk (decide ((0 : Int) ≤ v25) && decide (v25 < (v27.length : Int)))).bind fun _ => (idx v27 v25).bind fun v28 => (idx v26 v25).bind fun v29 => (zcC o v29.1 v29.2).bind fun v30 => (setL v26 v25 (v30.1, v30.2.1)).bind fun v31 => (zcY o v30.2.2 v28.1).bind fun v32 => bif (!v32) then some (.inr (.inl false)) else ((chk (decide ((0 : Int) ≤ v25) && decide (v25 < (v31.length : Int)))).bind fun _ => (chk (decide ((0 : Int) ≤ v25) && decide (v25 < (v31.length : Int)))).bind fun _ => (chk (decide ((0 : Int) ≤ v25) && decide (v25 < (v27.length : Int)))).bind fun _ => (chk (decide ((0 : Int) ≤ v25) && decide (v25 < (v27.length : Int)))).bind fun _ => (idx v31 v25).bind fun v33 => (zcT o v33.1 v33.2).bind fun v34 => (setL v31 v25 v34.2).bind fun v35 => (idx v27 v25).bind fun v36 => (zcK o v36.1 v36.2).bind fun v37 => (setL v27 v25 (v37.1, v37.2.1)).bind fun v38 => (zdL o v34.1 v37.2.2).bind fun v39 => bif (!v39) then some (.inr (.inl false)) else some (.inl (w64 (v25 + 1), v35, v38)))) else some (.inr (.inr ()))
noncomputable def zcQ (o : Ops) (v0 : List ywE) : Option (Bool) :=
 (zjG o).bind fun v1 => (zkH o).bind fun v2 => (iter (fun x => ziT o v0 x.1 x.2.1 x.2.2) ((0 : Int), ([v1] : List (Int × List (Int × zpZ))), ([(([] : List zpZ), v2)] : List ybC))).bind fun v22 => match v22 with
 | .inl v23 => (some v23)
 | .inr v24 => ((iter (fun x => ziW o x.1 x.2.1 x.2.2) ((0 : Int), v24)).bind fun v40 => match v40 with
 | .inl v41 => (some v41)
 | .inr v42 => ((some true).bind fun v43 => some v43))
noncomputable def zoX (o : Ops) : PC := ⟨[(.h (.sl YWkD2))], [.b], fun x => zcQ o x, false⟩
theorem zyP : PCok Tryz.prog tabs 8 (zoX o) := yjE (o := o) (η := [(2000016, .join [] [0, 6, 8] [(none, ⟨[(4, (.fs 0)), (5, (.fs 1)), (7, (.ptr 2 0))], [.fam 25 [FSh.blk 75 [.mpr 1, .h (.i .i64)], .mp (.i .i64) zxX], .fam 29 [FSh.blk 38 [.h (.sl zxX), .h (.i .i64)]], .blk 50 [hI, hI, hI, hI, hS, hI, hI, hI, hS, hS, hS, (.h (.sl .s)), hI, hI, hB, hB, (.h (.sl .s)), hI, hS, hS]]⟩)]),
 (200006, .loop [] ⟨[(4, (.fs 0)), (5, (.fs 1)), (6, hI)], [.fam 25 [FSh.blk 75 [.mpr 1, .h (.i .i64)], .mp (.i .i64) zxX], .fam 29 [FSh.blk 38 [.h (.sl zxX), .h (.i .i64)]]]⟩ [0] [(some 1000000, ⟨[(2, hB)], []⟩), (some 0, ⟨[(4, (.fs 0)), (5, (.fs 1))], [.fam 25 [FSh.blk 75 [.mpr 1, .h (.i .i64)], .mp (.i .i64) zxX], .fam 29 [FSh.blk 38 [.h (.sl zxX), .h (.i .i64)]]]⟩)]),
 (200020, .loop [] ⟨[(4, (.fs 0)), (5, (.fs 1)), (11, hI)], [.fam 25 [FSh.blk 75 [.mpr 1, .h (.i .i64)], .mp (.i .i64) zxX], .fam 29 [FSh.blk 38 [.h (.sl zxX), .h (.i .i64)]]]⟩ [] [(some 1000000, ⟨[(2, hB)], []⟩), (some 2, ⟨[], []⟩)]),
 (4000016, .sch [(.pu, 0, []), (.pu, 1, []), (.pu, 2, []), (.pu, 3, []), (.pu, 4, []), (.pu, 5, []), (.pu, 6, []), (.pu, 7, []), (.pu, 8, []), (.mn, 9, [0, 1]), (.pu, 10, [])]),
 (4000022, .sch [(.pu, 0, []), (.pu, 1, []), (.pu, 2, []), (.pu, 3, []), (.pu, 5, [0]), (.pu, 6, [0]), (.pu, 7, [0]), (.pu, 8, [0]), (.pu, 9, [0]), (.pu, 10, [0]), (.pu, 11, [0]), (.mn, 4, [0]), (.mn, 12, []), (.pu, 13, []), (.pu, 14, []), (.pu, 15, []), (.pu, 16, []), (.pu, 17, []), (.pu, 18, []), (.pu, 20, [0]), (.pu, 21, [0]), (.pu, 22, [0]), (.pu, 23, [0]), (.mn, 19, [0]), (.mn, 24, [1]), (.mn, 25, []), (.pu, 26, []), (.pu, 27, [])])]) (Γ := ⟨[(23, (zlS o)), (14, (zjN o)), (12, (zkC o)), (13, yjI)], [(27, (zoY o)), (18, (znT o)), (28, (znC o)), (29, (zhW o)), (21, (zlF o)), (15, (zeY o)), (16, (zjR o)), (30, (zhY o))], false, [(25, [FSh.blk 75 [.mpr 1, .h (.i .i64)], .mp (.i .i64) zxX]), (29, [FSh.blk 38 [.h (.sl zxX), .h (.i .i64)]])]⟩) (ctok ⟨zrS, ⟨zpX, ⟨zqA, ⟨ywL, trivial⟩⟩⟩⟩ ⟨zrM, ⟨ztG, ⟨zsX, ⟨zoK, ⟨zrG, ⟨ziI, ⟨znZ, ⟨zoJ, trivial⟩⟩⟩⟩⟩⟩⟩⟩) Tryz.func8
end
theorem yxC {n : Nat} (h : n < 256) : i8 ((n : Nat) : Int) = UInt8.ofNat n := by unfold i8; congr 1; omega
theorem yqQ {m : Nat} (h : ¬ m < 10) : Lib.decDigits m = Lib.decDigits (m / 10) ++ [UInt8.ofNat (48 + m % 10)] := by rw [yeJ, if_neg h]
theorem ydA (u : Nat) (hu : u < 9223372036854775808) : zaF zaB (u : Int) = some (Lib.decDigits u) := by
 unfold zaF
 have h19 := znP 19 u (by decide) (by omega)
 have hI : T (iter (fun x => zjV zaB x.1 x.2) ((u : Int), ([] : Bs))) fun r => ∃ d : Nat, d < 10 ∧ r.1 = (d : Int) ∧ UInt8.ofNat (48 + d) :: r.2 = Lib.decDigits u := by
  refine T.iter (fun x => ∃ m : Nat, x.1 = (m : Int) ∧ m < 9223372036854775808 ∧ Lib.decDigits m ++ x.2 = Lib.decDigits u) (fun x => (Lib.decDigits x.1.toNat).length) _ (fun x hx => ?_) ⟨u, rfl, hu, by simp⟩ (by simp only [Int.toNat_natCast]; omega)
  obtain ⟨v, s⟩ := x
  obtain ⟨m, e, hm, hd⟩ := hx
  simp only at e hd
  subst e
  unfold zjV
  by_cases h9 : (m : Int) > 9
  ·have hmod : w64 ((48 : Int) + Int.tmod (m : Int) 10) = ((48 + m % 10 : Nat) : Int) := by
    have : Int.tmod (m : Int) 10 = ((m % 10 : Nat) : Int) := by rw [Int.tmod_eq_emod_of_nonneg (by omega)]; omega
    rw [this, ziU (by omega) (by omega)]; omega
   have hdiv : w64 (Int.tdiv (m : Int) 10) = ((m / 10 : Nat) : Int) := by
    have : Int.tdiv (m : Int) 10 = ((m / 10 : Nat) : Int) := by rw [Int.tdiv_eq_ediv_of_nonneg (by omega)]; omega
    rw [this, ziU (by omega) (by omega)]
   have hsl : s.length ≤ 19 := by
    have := congrArg List.length hd
    rw [List.length_append] at this; omega
   have hst := yqQ (m := m) (by omega)
   rw [zcF h9, decide_eq_true (show (0 : Int) < 10 by decide), zoV rfl, zaA, hmod, hdiv, zgM (by simp; omega), zaA, show ((10 : Int) != 0) = true from rfl, zoV rfl, zaA, yxC (by omega)]
   refine T.ok ⟨⟨m / 10, rfl, by omega, ?_⟩, ?_⟩
   ·simp only []
    rw [hst, List.append_assoc] at hd
    exact hd
   ·simp only [Int.toNat_natCast]
    rw [hst, List.length_append]; simp
  ·rw [zcO h9]
   refine T.ok ⟨m, by omega, rfl, ?_⟩
   rw [yeJ, if_pos (by omega)] at hd
   exact hd
 obtain ⟨r, h1, d, h2, h3, h4⟩ := hI
 rw [h1, zaA, h3, ziU (by omega) (by omega), show (48 : Int) + (d : Int) = ((48 + d : Nat) : Int) by omega, yxC (by omega)]
 have : r.2.length ≤ 19 := by
  have := congrArg List.length h4
  rw [List.length_cons] at this; omega
 rw [zgM (by simp; omega), zaA]
 exact congrArg some h4
theorem zzA {x : Int} (h0 : 0 ≤ x) (h : x < 9223372036854775808) : zaF zaB x = some (decI x) := by
 obtain ⟨k, rfl⟩ : ∃ k : Nat, x = k := ⟨x.toNat, by omega⟩
 exact ydA k (by omega)
theorem yjN (l : List L8) (hl : (zgC l).length ≤ 1048576) (hn : l.length ≤ 1048576) : zdO zaB l = some (zgC l) := by
 unfold zdO
 have hI : iter (fun x => zfA zaB l x.1 x.2) ((0 : Int), ([] : Bs)) = some (zgC l) := by
  refine zpB (fun k => ((k : Int), zgC (l.take k))) l.length (by omega) _ (fun k hk => ?_) ?_
  ·have hsp : zgC l = zgC (l.take k) ++ (Lib.decDigits l[k].length ++ 58 :: (l[k] ++ zgC (l.drop (k + 1)))) := by
    conv => lhs; rw [← List.take_append_drop k l, ztL]
    rw [List.drop_eq_getElem_cons hk]; rfl
   have hlen := congrArg List.length hsp
   simp only [List.length_append, List.length_cons] at hlen
   unfold zfA
   rw [zcF (show (k : Int) < (l.length : Int) by omega), zbP rfl hk, zaA, zaA, ydA _ (by omega), zaA, zgM (by simp; omega), zaA, zgM (by simp; omega), zaA, zgM (by simp; omega), zaA, zbK (by omega), List.take_succ_eq_append_getElem hk, ztL]
   simp only [zgC, List.append_assoc, List.append_nil, List.singleton_append, List.cons_append, List.nil_append]
  ·unfold zfA
   rw [zcO (by omega), List.take_length]
 rw [hI, zaA]
theorem ylC (b : Bool) : zfV zaB b = some (yiV b) := by cases b <;> rfl
theorem yjJ : ∀ c : Nat, Lib.repeatL [48] (c + 1) = (48 : UInt8) :: Lib.repeatL [48] c := fun _ => rfl
theorem ywJ (c : Nat) (s : L8) : Lib.repeatL [48] c ++ (48 : UInt8) :: s = Lib.repeatL [48] (c + 1) ++ s := by
 induction c with
 | zero => rfl
 | succ c ih => rw [yjJ c, List.cons_append, ih, yjJ (c + 1), List.cons_append]
theorem xfC {γ : Type} {body : L8 × γ → Option ((L8 × γ) ⊕ (L8 × γ))} (hb : ∀ s g, body (s, g) = bif decide ((s.length : Int) < (8 : Int)) then (Option.bind (app ([48] : L8) s) fun v => some (.inl (v, g))) else some (.inr (s, g))) {s : L8} (hs : s.length ≤ 8) (g : γ) : iter body (s, g) = some (Lib.repeatL [48] (8 - s.length) ++ s, g) := by
 refine T.eq (T.iter (fun x => x.2 = g ∧ x.1.length ≤ 8 ∧ Lib.repeatL [48] (8 - x.1.length) ++ x.1 = Lib.repeatL [48] (8 - s.length) ++ s) (fun x => 8 - x.1.length) _ (fun x hx => ?_) ⟨rfl, hs, rfl⟩ (by simp only []; omega))
 obtain ⟨v, g'⟩ := x
 obtain ⟨e, h1, h2⟩ := hx
 simp only at e h1 h2
 subst e
 rw [hb]
 by_cases h8 : (v.length : Int) < 8
 ·rw [zcF h8, zgM (by simp; omega), zaA]
  refine T.ok ⟨⟨rfl, by simp; omega, ?_⟩, by simp; omega⟩
  rw [← h2]
  show Lib.repeatL [48] (8 - (v.length + 1)) ++ (48 : UInt8) :: v = _
  rw [ywJ, show 8 - (v.length + 1) + 1 = 8 - v.length by omega]
 ·rw [zcO h8]
  refine T.ok ?_
  rw [← h2, show 8 - v.length = 0 by omega]; rfl
theorem yvG {nx : Int} {es : Es} (h : Ok nx es) : zcK zaB (ds es) nx = some (ds es, nx, yqY nx es) := by
 have hnx := h.next
 have hlen := h.len
 have hd := zrN nx (by omega)
 have hf1 : (zgC [decI nx]).length ≤ 1048576 := by
  have := znP 15 (decI nx).length (by decide) (by omega)
  simp only [zgC, List.append_nil, List.length_append, List.length_cons]
  omega
 unfold zcK
 rw [zzA (by omega) (by omega), zaA, yjN _ hf1 (by simp), zaA]
 have hI : iter (fun x => zbX zaB x.1 x.2.1 x.2.2.1 x.2.2.2) ((0 : Int), ds es, nx, ([([102, 111, 114, 101, 115, 116], zgC [decI nx])] : List (L8 × L8))) = some (ds es, nx, yqY nx es) := by
  refine zpB (fun k => ((k : Int), ds es, nx, ([102, 111, 114, 101, 115, 116], zgC [decI nx]) :: (es.take k).map rowE)) es.length (by omega) _ (fun k hk => ?_) ?_
  ·have hm := h.may _ (List.getElem_mem hk)
   have hid := h.ids _ (List.getElem_mem hk)
   have hpar := h.par _ (List.getElem_mem hk)
   have hl := ztU hm
   have hn := ydW hm
   have hp0 : 0 ≤ es[k].2.2.2.1 := hpar.1
   have hp1 : es[k].2.2.2.1 < es[k].1 := hpar.2
   have ht := ycG hm (by omega)
   have htc := zvU hm
   have he : 0 ≤ es[k].2.2.2.2.2.2.2.2.2.1 ∧ es[k].2.2.2.2.2.2.2.2.2.1 ≤ 1099511627776 := hn.2.2.1
   have hv : 0 ≤ es[k].2.2.2.2.2.2.2.2.2.2.2.2.2.1 ∧ es[k].2.2.2.2.2.2.2.2.2.2.2.2.2.1 ≤ 3 := hn.2.2.2
   have hsc : es[k].2.2.2.2.2.2.2.1.length ≤ 16 := hl.1
   have hac : es[k].2.2.2.2.2.2.2.2.2.2.2.2.1.length ≤ 4 := hl.2.1
   have h8 := dec8 (i := es[k].1) (by omega) (by omega)
   have hte : (([decI es[k].2.2.1, decI es[k].2.2.2.1, es[k].2.2.2.2.1, es[k].2.2.2.2.2.1, es[k].2.2.2.2.2.2.1, Lib.decDigits es[k].2.2.2.2.2.2.2.1.length] ++ es[k].2.2.2.2.2.2.2.1 ++ [decI es[k].2.2.2.2.2.2.2.2.1, decI es[k].2.2.2.2.2.2.2.2.2.1, yiV es[k].2.2.2.2.2.2.2.2.2.2.1, yiV es[k].2.2.2.2.2.2.2.2.2.2.2.1, Lib.decDigits es[k].2.2.2.2.2.2.2.2.2.2.2.2.1.length]) ++ es[k].2.2.2.2.2.2.2.2.2.2.2.2.1 ++ [decI es[k].2.2.2.2.2.2.2.2.2.2.2.2.2.1, es[k].2.2.2.2.2.2.2.2.2.2.2.2.2.2.1, es[k].2.2.2.2.2.2.2.2.2.2.2.2.2.2.2] : List L8) = zqR es[k].2 := by
    simp only [zqR, List.flatten_cons, List.flatten_nil, List.append_nil, List.append_assoc, List.cons_append, List.nil_append]
   unfold zbX
   simp only []
   rw [zdQ, zcF (show (k : Int) < (es.length : Int) by omega), zbP (i := k) rfl (by rw [zdQ]; exact hk), zaA, zyD, nd_id h hk]
   rw [zzA (by omega) (by omega), zaA, zzA hp0 (by omega), zaA, ydA _ (by omega), zaA, zgM (by simp; omega), zaA, zzA (by omega) (by omega), zaA, zzA he.1 (by omega), zaA, ylC, zaA, ylC, zaA, ydA _ (by omega), zaA, zgM (by simp; omega), zaA, zgM (by simp; omega), zaA, zzA hv.1 (by omega), zaA, zgM (by simp; omega), zaA, zzA (by omega) (by omega), zaA, hte]
   rw [xfC (body := fun x => zhV zaB x.1 x.2.1 x.2.2.1 x.2.2.2.1 x.2.2.2.2) (fun s g => rfl) h8, zaA]
   have hrl : (Lib.repeatL [48] (8 - (decI es[k].1).length)).length = 8 - (decI es[k].1).length := by rw [Lib.repeatL_length]; simp
   simp only []
   rw [zgM (by simp only [List.length_append, List.length_cons, List.length_nil]; omega), zaA, yjN _ (by omega) (by omega), zaA, zgM (by simp; omega), zaA, zbK (by omega), List.take_succ_eq_append_getElem hk, List.map_append, List.cons_append]
   simp only [List.map_cons, List.map_nil, rowE, padE, List.append_assoc]
  ·unfold zbX
   simp only []
   rw [zdQ, zcO (by omega), List.take_of_length_le (Nat.le_refl _)]
   rfl
 rw [show iter _ _ = _ from hI, zaA]
theorem xbU (n : Int) {m : Nat} (h0 : 0 < m) (hm : m ≤ 1073741824) : T (zeX zaB n (m : Int)) fun r => 0 ≤ r ∧ r < (m : Int) := by
 unfold zeX
 rw [decide_eq_true (show (0 : Int) < (m : Int) by omega), zoV rfl, zaA]
 have h1 := Int.tmod_lt_of_pos n (show (0 : Int) < (m : Int) by omega)
 have h2 := Int.lt_tmod_of_pos n (show (0 : Int) < (m : Int) by omega)
 refine T.dif (fun h3 => T.ok ?_) fun h3 => T.ok ⟨by omega, h1⟩
 rw [ziU (by omega) (by omega)]
 omega
theorem yoO {α : Type} {l : List α} {k : Nat} (x : α) (h : k < l.length) : setL l (k : Int) x = some (l.set k x) := by
 unfold setL
 rw [decide_eq_true (show (0 : Int) ≤ (k : Int) by omega), decide_eq_true (show (k : Int) < (l.length : Int) by omega)]
 simp
theorem ztN {α : Type} {l : List α} {k : Nat} {x : α} (h : k < l.length) (e : x = l[k]) : setL l (k : Int) x = some l := by
 rw [yoO x h, e, List.set_getElem_self]
abbrev FS : Type := List (Int × Es)
def dd (l : FS) : List (List Nd × Int) := l.map fun p => (ds p.2, p.1)
theorem ycI (l : FS) : (dd l).length = l.length := List.length_map ..
theorem yuS {l : FS} {k : Nat} (hk : k < (dd l).length) : (dd l)[k] = (ds (l[k]'(by rw [← ycI]; exact hk)).2, (l[k]'(by rw [← ycI]; exact hk)).1) := List.getElem_map ..
theorem ck {α : Type} {k m : Nat} (h : k < m) {f : Unit → Option α} : (chk (decide ((0 : Int) ≤ (k : Int)) && decide ((k : Int) < (m : Int)))).bind f = f () := by
 rw [decide_eq_true (show (0 : Int) ≤ (k : Int) by omega), decide_eq_true (show (k : Int) < (m : Int) by omega), Bool.and_self, zoV rfl, zaA]
theorem yuT {l : FS} {j : Nat} (hj : j < l.length) (hl : l.length ≤ 1048577) (hok : ∀ p ∈ l, Ok p.1 p.2) (o : OpT) :
  T (zeJ zaB l (dd l) o (j : Int)) fun r => ∃ l' : FS, r = (l', dd l', o) ∧ (∀ p ∈ l', Ok p.1 p.2) ∧ l.length ≤ l'.length ∧ l'.length ≤ l.length + 1 := by
 unfold zeJ
 have hj2 : j < (dd l).length := by rw [ycI]; exact hj
 refine T.bif (fun _ => ?_) fun _ => T.ok ⟨l, rfl, hok, Nat.le_refl _, by omega⟩
 rw [ck hj, ck hj, zbP rfl hj, zaA, show zjI zaB l[j].1 l[j].2 = some (l[j].1, l[j].2, l[j].1, l[j].2) from rfl, zaA, ztN hj rfl, zaA, zgM (by rw [List.length_singleton]; omega), zaA]
 rw [ck hj2, ck hj2, zbP rfl hj2, zaA, show zeH zaB (dd l)[j].1 (dd l)[j].2 = some ((dd l)[j].1, (dd l)[j].2, (dd l)[j].1, (dd l)[j].2) from rfl, zaA, ztN hj2 rfl, zaA, zgM (by rw [List.length_singleton, ycI]; omega), zaA]
 refine T.ok ⟨l ++ [l[j]], ?_, fun p hp => ?_, by simp, by simp⟩
 ·rw [yuS]
  unfold dd
  rw [List.map_append]
  rfl
 ·rcases List.mem_append.1 hp with hp | hp
  ·exact hok p hp
  ·rw [List.mem_singleton.1 hp]; exact hok _ (List.getElem_mem hj)
theorem yfA (script : List OpT) (hl : script.length ≤ 1048576) (ho : ∀ o ∈ script, NdOk o.2.2.2.2.2) : zcQ zaB script = some true := by
 unfold zcQ
 refine T.eq ?_
 rw [show zjG zaB = some ((1 : Int), ([] : Es)) from rfl, zaA, show zkH zaB = some (1 : Int) from rfl, zaA]
 refine T.bind (Q := fun r => ∃ l : FS, r = .inr (l, dd l) ∧ (∀ p ∈ l, Ok p.1 p.2) ∧ l.length ≤ 1048577) (T.iter (fun x => 0 ≤ x.1 ∧ x.1 ≤ (script.length : Int) ∧ x.2.2 = dd x.2.1 ∧ (∀ p ∈ x.2.1, Ok p.1 p.2) ∧ 0 < x.2.1.length ∧ (x.2.1.length : Int) ≤ x.1 + 1) (fun x => script.length - x.1.toNat) _ (fun x hx => ?_) ⟨Int.le_refl _, by simp, rfl, fun p hp => ?_, by simp, by simp⟩ (by simp; omega)) fun r hr => ?_
 ·obtain ⟨i, l, d⟩ := x
  obtain ⟨h8, h9, e, hok, hpos, hle⟩ := hx
  simp only at h8 h9 e hok hpos hle
  subst e
  obtain ⟨k, rfl⟩ : ∃ k : Nat, i = k := ⟨i.toNat, by omega⟩
  unfold ziT
  simp only []
  refine T.dif (fun h2 => ?_) fun h2 => T.ok ⟨l, rfl, hok, by omega⟩
  have hk : k < script.length := by omega
  rw [zbP rfl hk, zaA]
  refine (xbU _ hpos (by omega)).bind fun r hr => ?_
  obtain ⟨j, rfl⟩ : ∃ j : Nat, r = j := ⟨r.toNat, by omega⟩
  have hj : j < l.length := by omega
  refine (yuT hj (by omega) hok _).bind fun r hr2 => ?_
  obtain ⟨l', rfl, hok', h3, h4⟩ := hr2
  have hj1 : j < l'.length := by omega
  have hj2 : j < (dd l').length := by rw [ycI]; exact hj1
  simp only []
  rw [ck hj1, ck hj1, ck hj2, ck hj2, zbP rfl hj1, zaA, zbP rfl hj2, zaA, yuS]
  simp only []
  have hoj := hok' _ (List.getElem_mem hj1)
  rw [xdE hoj _ (ho _ (List.getElem_mem hk)), zaA, yoO _ hj2, zaA, yoO _ hj1, zaA]
  simp only [Bool.not_true, cond_false]
  refine T.ok ⟨⟨?_, ?_, ?_, fun p hp => ?_, ?_, ?_⟩, ?_⟩
  ·simp only []; rw [zbK (by omega)]; omega
  ·simp only []; rw [zbK (by omega)]; omega
  ·simp only []
   unfold dd
   rw [List.map_set]
  ·rcases List.mem_or_eq_of_mem_set hp with hp | rfl
   ·exact hok' p hp
   ·exact hoj.step _
  ·simp only [List.length_set]; omega
  ·simp only [List.length_set]; rw [zbK (by omega)]; omega
  ·simp only []; rw [zbK (by omega)]; omega
 ·rw [List.mem_singleton.1 hp]; exact xfJ
 ·obtain ⟨l, rfl, hok, hlen⟩ := hr
  simp only []
  refine T.bind (Q := fun r => r = .inr ()) (T.iter (fun x => 0 ≤ x.1 ∧ x.1 ≤ (l.length : Int) ∧ x.2 = (l, dd l)) (fun x => l.length - x.1.toNat) _ (fun x hx => ?_) ⟨Int.le_refl _, by simp, rfl⟩ (by simp; omega)) fun r hr => by subst hr; exact T.ok rfl
  obtain ⟨i, v⟩ := x
  obtain ⟨h8, h9, e⟩ := hx
  simp only at h8 h9 e
  subst e
  obtain ⟨k, rfl⟩ : ∃ k : Nat, i = k := ⟨i.toNat, by omega⟩
  unfold ziW
  simp only []
  refine T.dif (fun h2 => ?_) fun h2 => T.ok rfl
  have hk : k < l.length := by omega
  have hk2 : k < (dd l).length := by rw [ycI]; exact hk
  have hoj := hok _ (List.getElem_mem hk)
  have hll := hoj.len
  rw [ck hk, ck hk, ck hk2, ck hk2, zbP rfl hk2, zaA, zbP rfl hk, zaA, ydC hoj, zaA, ztN hk rfl, zaA, yuS]
  simp only []
  rw [show l[k].2.map (·.2) = ds l[k].2 from rfl, yiX (by rw [zdQ]; omega) (fun n hn => by
   obtain ⟨p, hp, rfl⟩ := List.mem_map.1 hn
   exact hoj.lst hp), zaA]
  simp only [Bool.not_true, cond_false]
  rw [ck hk, ck hk, ck hk2, ck hk2, zbP rfl hk, zaA, rows_ok hoj, zaA, ztN hk rfl, zaA, zaA]
  simp only []
  rw [yvG hoj, zaA, ztN hk2 (by rw [yuS]), zaA, ylV _ (by unfold yqY; simp; omega), zaA]
  simp only [Bool.not_true, cond_false]
  refine T.ok ⟨⟨?_, ?_, rfl⟩, ?_⟩
  ·simp only []; rw [zbK (by omega)]; omega
  ·simp only []; rw [zbK (by omega)]; omega
  ·simp only []; rw [zbK (by omega)]; omega
theorem yoN (script : List xdL) (hk : dsz (.sl (.pr (.i .i64) (.pr (.i .i64) (.pr (.i .i64) (.pr (.i .i64) (.pr .s (.pr (.i .i64) (.pr (.i .i64) (.pr (.i .i64) (.pr .s (.pr .s (.pr .s (.pr (.sl .s) (.pr (.i .i64) (.pr (.i .i64) (.pr .b (.pr .b (.pr (.sl .s) (.pr (.i .i64) (.pr .s .s)))))))))))))))))))) script ≤ 1048576) : zcQ zaB script = some true := by
 have hk : dsz (.sl ydF) script ≤ 1048576 := hk
 have h := ops_of (l := script) hk
 exact yfA script h.1 h.2
end Go.Proofs.YtebbcofojchkpaaGreatDoor.Am
namespace Go.Proofs.YtebbcofojchkpaaGreatDoor
open Go Go.RowKit
section
open Go Go.RowKit Go.ChangeShapes Go.WideShapes Go.ChangeAt
attribute [local irreducible] Value.okWide
theorem yzY {W : World} (h : W.ShapedOpen Tryz.prog) (hL : laidMet Tryz.prog Rows.forestDoesUptoRow.laid W) : ∃ G : List (Nat × Obj), Am.zmE G ∧ Am.GS G (zpF W) := by
 obtain ⟨m, hm⟩ := Tryz.laysM219.s1_3 W h
 have hm : W.cell? ⟨0, 0, none⟩ = some (.int .i64 m) := hm
 have h0 : ∃ c E fz, W.heap[0]? = some (.cells c E fz) ∧ c[0]? = some (.int .i64 m) := by
  unfold World.cell? at hm
  split at hm
  ·rename_i c E fz hb
   simp only [Option.isSome_none, if_neg (show ¬ (false = true) by decide)] at hm
   exact ⟨c, E, fz, hb, hm⟩
  ·cases hm
 obtain ⟨c, E, fz, h1, h2⟩ := h0
 have hT := Lib.tabIs_of_head (P := Tryz.prog) (k := .u64) (zs := Lib.pow10Tab) (g := 3) (t := 218) (e := 167) (n := 20) (by kernel_rfl) (by kernel_rfl) (by kernel_rfl) (by kernel_rfl) (by kernel_rfl) (by kernel_rfl) (show laidMet Tryz.prog (("internal/strconv.uint64pow10", Lib.tabData .u64 Lib.pow10Tab) :: _) W from hL.tail.tail)
 have h3 : ∃ T f, W.heap[3]? = some (.cells ypP.toArray T f) := by
  unfold Lib.TabIs World.var? at hT
  rw [show Tryz.prog.globalNamed "internal/strconv.uint64pow10" = some 3 by kernel_rfl, Option.bind_some] at hT
  split at hT
  ·rename_i cs T f hb
   cases hT
   exact ⟨T, f, hb⟩
  ·cases hT
 obtain ⟨T, f, h4⟩ := h3
 refine ⟨[(0, .cells c E fz), (3, .cells ypP.toArray T f)], ⟨fun S hS => ⟨⟨c, E, fz, m, hS _ (List.mem_cons_self ..), h2⟩, T, f, hS _ (List.mem_cons_of_mem _ (List.mem_cons_self ..))⟩⟩, fun p hp => ?_⟩
 rcases List.mem_cons.1 hp with rfl | hp
 ·exact h1
 ·rcases List.mem_cons.1 hp with rfl | hp
  ·exact h4
  ·cases hp
theorem zvL (H : Type) (enc : TypeId × Value → H) (W : World) (base : Nat) (args : Array Value) (ds gs : List (DataW H)) (before : List MemPlace)
  (hval : ∀ (j : Nat) t v, Tryz.f8.params[j]? = some t → args[j]? = some v → Value.okWide Tryz.prog W .any base t v)
  (hW : DataW.Whole enc Tryz.prog Tryz.f8.params.toList Rows.forestDoesSpec.vars false W args.toList ds gs before) (hk : Rows.uptoSmall H (ds ++ gs) = true) (hsh : W.ShapedOpen Tryz.prog) (hL : laidMet Tryz.prog Rows.forestDoesUptoRow.laid W) :
  Calls Tryz.prog 8 args W fun e W' => ∃ v, e = .returned v ∧ Rows.forestDoesSpec.post enc Tryz.prog Tryz.f8 false true false false W args v W' := by
 have hW' := hW
 obtain ⟨p, q, hA0, hV, rfl, _, _⟩ := hW
 have hA : DataW.TrodAll enc Tryz.prog W 0 (fun _ => true) true Tryz.f8.params.toList args.toList ds p := hA0
 rw [Tryz.params8] at hA hval
 obtain ⟨v0, vs0, d0, ds0, p0, q0, hargs, rfl, rfl, t0, r0⟩ := trodAll_cons hA
 obtain ⟨rfl, rfl, rfl⟩ := trodAll_nil r0
 obtain rfl : args = #[v0] := by cases args; simp_all
 obtain ⟨rfl, rfl⟩ := trodVars_none hV
 obtain ⟨x0, e0, b0⟩ := Am.argD_ok (t := (.sl (.pr (.i .i64) (.pr (.i .i64) (.pr (.i .i64) (.pr (.i .i64) (.pr .s (.pr (.i .i64) (.pr (.i .i64) (.pr (.i .i64) (.pr .s (.pr .s (.pr .s (.pr (.sl .s) (.pr (.i .i64) (.pr (.i .i64) (.pr .b (.pr .b (.pr (.sl .s) (.pr (.i .i64) (.pr .s .s))))))))))))))))))))) (show Am.argOk Tryz.prog 41 (.sl (.pr (.i .i64) (.pr (.i .i64) (.pr (.i .i64) (.pr (.i .i64) (.pr .s (.pr (.i .i64) (.pr (.i .i64) (.pr (.i .i64) (.pr .s (.pr .s (.pr .s (.pr (.sl .s) (.pr (.i .i64) (.pr (.i .i64) (.pr .b (.pr .b (.pr (.sl .s) (.pr (.i .i64) (.pr .s .s)))))))))))))))))))) = true by kernel_rfl) (hval 0 41 v0 rfl rfl) t0
 simp only [List.cons_append, List.nil_append, List.append_nil, Rows.uptoSmall, decide_eq_true_eq, Rows.uptoBulkAll] at hk
 obtain ⟨G, hG, hGS⟩ := yzY hsh hL
 refine ((Am.zyP (tabs := G) (o := Am.zaB)).ok (zpF W) W [v0] (x0) true hGS (ykZ W) (.cons (Am.rep1_vr e0) .nil) (Am.yoN x0 (by omega))).mono fun e W' ⟨hx, v, he, hr, _⟩ => ?_
 have hr : [v] = [Value.bool true] := hr
 rw [(List.cons.inj hr).1] at he
 subst he
 refine ⟨_, rfl, ywV (B := 4) (n := 1) (by kernel_rfl) rfl (by kernel_rfl) (by kernel_rfl) (by kernel_rfl) (by kernel_rfl) (fun ds hds => ?_) hW' hx⟩
 match ds, hds with
 | [x0], _ => exact ⟨rfl, rfl, rfl⟩
theorem ywY : ownKnob Tryz.prog.godebug = none := by kernel_rfl
def ycJ : DataW Unit → LV
 | .lit (.int k n) => [.int k n]
 | .agg l => go l
 | _ => []
where go : List (DataW Unit) → LV
 | [] => []
 | d :: l => ycJ d ++ go l
def zrU (l : LV) : Obj → Obj
 | .cells _ t frozen => .cells l.toArray t frozen
 | o => o
noncomputable def yaW (os : Os) : World := { World.holding Tryz.prog os ⟨#[], #[], []⟩ with heap := (((((((((World.holding Tryz.prog os ⟨#[], #[], []⟩).heap).modify 6 (zrU (ycJ Rows.laid_math_bits_deBruijn32tab))).modify 7 (zrU (ycJ Rows.laid_math_bits_deBruijn64tab))).modify 3 (zrU (ycJ Rows.laid_internal_strconv_uint64pow10))).modify 5 (zrU (ycJ Rows.laid_unicode_utf8_acceptRanges))).modify 2 (zrU [.iface 227 (.pointer (some ⟨(World.holding Tryz.prog os ⟨#[], #[], []⟩).heap.size + 0, 0, none⟩))])).modify 1 (zrU [.iface 227 (.pointer (some ⟨(World.holding Tryz.prog os ⟨#[], #[], []⟩).heap.size + 1, 0, none⟩))])).modify 4 (zrU (ycJ Go.Pinned.utf8First))) ++ #[.cells #[.string ⟨#[118, 97, 108, 117, 101, 32, 111, 117, 116, 32, 111, 102, 32, 114, 97, 110, 103, 101]⟩] 229, .cells #[.string ⟨#[105, 110, 118, 97, 108, 105, 100, 32, 115, 121, 110, 116, 97, 120]⟩] 229] }
theorem zvT (os : Os) : laidMet Tryz.prog Rows.forestDoesUptoRow.laid ((yaW os).forCall (fun _ _ => 0) ⟨#[], #[.slice none 0 0], []⟩).memory :=
 laidMet_of_run' 8 (by kernel_rfl) (by kernel_rfl)
theorem zyG (os : Os) {H : Type} (enc : TypeId × Value → H) : ∃ places, DataW.whole enc Tryz.prog ((yaW os).forCall (fun _ _ => 0) ⟨#[], #[.slice none 0 0], []⟩).memory Tryz.f8.params.toList Rows.forestDoesSpec.vars false (#[.slice none 0 0] : Array Value).toList 8 = some ([.nil], [], places) :=
 ⟨[], by kernel_rfl⟩
set_option maxRecDepth 100000 in
theorem zwT (os : Os) (started : os.Started) (H : Type) (enc : TypeId × Value → H) (F : Stop.Interp) :
  ReturnsInHanded {} Tryz.checked os 8 .any ((Rows.OpenSpec.upto Rows.forestDoesSpec).preRow enc Tryz.prog Tryz.f8 Rows.forestDoesUptoRow.domain false Rows.forestDoesUptoRow.laid) (((Rows.OpenSpec.upto Rows.forestDoesSpec).at F).post enc Tryz.prog Tryz.f8 false true false false) := by
 obtain ⟨places, hx⟩ := zyG os enc
 refine returnsInHanded_of_row (C := Tryz.checked) (s := Rows.OpenSpec.upto Rows.forestDoesSpec) ywY started (by kernel_rfl) Tryz.func8
  (witness_row_at (enc := enc) (C := Tryz.checked) false (yaW os) #[.slice none 0 0] rfl (by kernel_rfl) (by kernel_rfl) (by kernel_rfl)
   (OpenSpec.preRow_of_cond 8 hx (by kernel_rfl) (fun k hk => by cases hk; kernel_rfl) (by kernel_rfl) (zvT os))) ?_
 intro W base args ds gs before hval hW _ hcond _ hL hsh _
 exact zvL H enc W base args ds gs before hval hW (hcond _ rfl) hsh hL
theorem ybI : Rows.ForestDoesUptoSaid :=
 OpenClaim.holds_of_cond 8 Tryz.f8 rfl rfl rfl rfl rfl rfl rfl ⟨rfl, rfl, rfl, rfl, rfl⟩ rfl rfl rfl rfl rfl (by kernel_rfl) Tryz.func8 (by kernel_rfl)
  (of_decide_eq_true (by kernel_rfl)) (by unfold Func.isWrapper; first | (rw [if_pos (by decide +kernel)]; kernel_rfl) | (rw [if_neg (by decide +kernel)]; exact ⟨rfl, rfl⟩))
  (fun os started H enc _ F => by rw [OpenClaim.pre_eq_preRow]; exact zwT os started H enc F)
theorem zxW (f : FuncId) (fn : Func) (hf : Tryz.pinned.checked.prog.funcNamed "seneschal/seneschallaw13.ForestDoes" = some f) (hfn : Tryz.pinned.checked.prog.funcs[f]? = some fn) :
  true = Tryz.pinned.checked.prog.looks [] ∧ ∀ (j : Nat) t, fn.params[j]? = some t → Tryz.pinned.checked.prog.wantsStandIn t = false := by
 obtain rfl : f = 8 := osi ((show Tryz.prog.funcNamed "seneschal/seneschallaw13.ForestDoes" = some 8 by kernel_rfl).symm.trans hf) |>.symm
 obtain rfl : fn = Tryz.f8 := (osi (Tryz.func8.symm.trans hfn)).symm
 refine ⟨by kernel_rfl, fun j t ht => ?_⟩
 rw [Tryz.params8] at ht
 have hm : t ∈ [41] := by simpa using Array.mem_of_getElem? ht
 have hall : ([41].all fun u => !Tryz.prog.wantsStandIn u) = true := by kernel_rfl
 exact (show Tryz.prog.wantsStandIn t = false by simpa using List.all_eq_true.1 hall t hm)
theorem forestDoes_said : Rows.ForestDoesUptoCardSaid :=
 Claim7.holds_tied_plain_at .later [] _ _ _ _ ybI (fun _ h => by cases h) (by kernel_rfl) (fun _ h => by cases h) forestDoesUpto_row_tie rfl ⟨rfl, rfl⟩ (by kernel_rfl) rfl zxW (by kernel_rfl)
end
end Go.Proofs.YtebbcofojchkpaaGreatDoor
