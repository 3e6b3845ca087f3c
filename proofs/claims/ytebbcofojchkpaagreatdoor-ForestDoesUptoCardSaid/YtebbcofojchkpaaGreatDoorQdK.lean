/- Forests: what is pruned: plain laws. Forests: what is planted: plain laws. Calls on forests whose answers the document fixes: plain law, and that the code does so. What some functions compute, over plain values, and that they do. Forests: what is planted by a script: plain laws. Forests: what is told, spent, lifted, noted: plain laws. Forests: all of a principal's nodes killed: plain laws. The document's forest answers: what may be, where a number stands, paths: plain laws. The document's forest answers, whatever is called: plain laws. Conditions: as each theorem says. -/
import Derived.KernelRfl
import Derived.Test.YtebbcofojchkpaaGreatDoorQdJ
namespace Go.Proofs.YtebbcofojchkpaaGreatDoor.Am
open Go Go.RowKit
section
variable {γ : Type}
theorem yjR (j : Int) (v : γ) (k : Int) : ∀ (m : List (Int × γ)), mhas keqI (mins kltI m j v) k = (keqI j k || mhas keqI m k)
 | [] => rfl
 | (k', v') :: m => by
  unfold mins
  cases kltI k' j with
  | true =>
   simp only [cond_true, mhas, yjR j v k m]
   cases keqI k' k <;> cases keqI j k <;> rfl
  | false => rfl
theorem yuH (m : List (Int × γ)) (j : Int) (v : γ) (k : Int) : mhas keqI (mset keqI kltI m j v) k = (keqI j k || mhas keqI m k) := by
 unfold mset
 cases hj : mhas keqI m j with
 | true =>
  simp only [cond_true]
  rw [yoB (zzH m j v)]
  cases hk : keqI j k with
  | true => rw [← zcP.1 hk, hj]; rfl
  | false => rfl
 | false => exact yjR j v k m
theorem ygP : ∀ {l m : List (Int × Unit)}, zmA l → zmA m → (∀ k, mhas keqI l k = mhas keqI m k) → l = m
 | [], [], _, _, _ => rfl
 | [], (k, u) :: m, _, _, h => by
  have := h k
  simp only [mhas, zcP.2, Bool.true_or] at this
  cases this
 | (k, u) :: l, [], _, _, h => by
  have := h k
  simp only [mhas, zcP.2, Bool.true_or] at this
  cases this
 | (k, ()) :: l, (j, ()) :: m, hl, hm, h => by
  have cl := List.pairwise_cons.1 hl
  have cm := List.pairwise_cons.1 hm
  have e : k = j := by
   have h1 := h k
   have h2 := h j
   simp only [mhas, zcP.2, Bool.true_or] at h1 h2
   have h1 := h1.symm
   rw [Bool.or_eq_true, zcP, ziV] at h1 h2
   rcases h1 with h1 | ⟨_, h1⟩
   ·exact h1.symm
   rcases h2 with h2 | ⟨_, h2⟩
   ·exact h2
   have a := cl.1 _ h2
   have b := cm.1 _ h1
   simp only at a b
   omega
  subst e
  congr 1
  refine ygP cl.2 cm.2 fun i => ?_
  have hi := h i
  simp only [mhas] at hi
  by_cases e : k = i
  ·subst e
   have n1 : mhas keqI l k = false := by
    cases hb : mhas keqI l k with
    | false => rfl
    | true =>
     obtain ⟨v, hv⟩ := ziV.1 hb
     have := cl.1 _ hv
     simp only at this
     omega
   have n2 : mhas keqI m k = false := by
    cases hb : mhas keqI m k with
    | false => rfl
    | true =>
     obtain ⟨v, hv⟩ := ziV.1 hb
     have := cm.1 _ hv
     simp only at this
     omega
   rw [n1, n2]
  ·rw [ylK e] at hi
   exact hi
theorem zzG : ∀ {es : List (Int × γ)}, zmA es → ∀ (k : Int), mdel keqI es k = es.filter fun p => !keqI p.1 k
 | [], _, _ => rfl
 | (k', v) :: m, h, k => by
  have hc := List.pairwise_cons.1 h
  unfold mdel
  cases hk : keqI k' k with
  | true =>
   rw [List.filter_cons_of_neg (by simp [hk])]
   simp only [cond_true]
   refine (List.filter_eq_self.2 fun p hp => ?_).symm
   have := hc.1 p hp
   have e := zcP.1 hk
   simp only at this
   rw [ylK (by omega)]
   rfl
  | false =>
   rw [List.filter_cons_of_pos (by simp [hk])]
   simp only [cond_false, zzG hc.2 k]
end
theorem ynF {α : Type} {l : List α} {p q : α → Bool} (h : ∀ x ∈ l, p x = q x) : l.any p = l.any q := by
 induction l with
 | nil => rfl
 | cons x l ih => rw [List.any_cons, List.any_cons, h x List.mem_cons_self, ih fun y hy => h y (List.mem_cons_of_mem _ hy)]
def zxK (m : List (Int × Unit)) (l : List Int) : List (Int × Unit) := l.foldl (fun m j => mset keqI kltI m j ()) m
theorem ybT (k : Int) : ∀ (l : List Int) (m : List (Int × Unit)), mhas keqI (zxK m l) k = (mhas keqI m k || l.contains k)
 | [], m => by simp [zxK]
 | j :: l, m => by
  show mhas keqI (zxK (mset keqI kltI m j ()) l) k = _
  rw [ybT k l, yuH]
  have : (j :: l).contains k = (keqI j k || l.contains k) := by
   rw [List.contains_cons]
   congr 1
   unfold keqI
   rw [Bool.eq_iff_iff, beq_iff_eq, decide_eq_true_iff]
   exact eq_comm
  rw [this]
  cases keqI j k <;> cases mhas keqI m k <;> rfl
theorem zxQ : ∀ (l : List Int) {m : List (Int × Unit)}, zmA m → zmA (zxK m l)
 | [], _, h => h
 | j :: l, m, h => zxQ l (m := mset keqI kltI m j ()) (ymC h)
theorem ytD {es : Es} : ∀ (f : Nat) (i k : Int), k ∈ pth es f i → mhas keqI es k = true
 | 0, _, _, h => by cases h
 | f + 1, i, k, h => by
  rw [xcU] at h
  cases hm : mget keqI es i with
  | none => rw [hm] at h; cases h
  | some n =>
   rw [hm] at h
   rcases List.mem_cons.1 h with rfl | h
   ·exact yhJ hm
   ·exact ytD f _ k h
def zlV (es : Es) (now k : Int) : Bool := es.any fun p => zuS es p.1 now && (zmN es p.1).contains k
def zbU (es : Es) (now : Int) : Es := es.filter fun p => zlV es now p.1
theorem yoG {es : Es} (h : zmA es) (nd : List (Int × Unit)) : zjY zaB es nd = some (es.filter fun p => mhas keqI nd p.1, nd) := by
 unfold zjY
 suffices hA : rngA (fun x => zqE zaB x.1 x.2.1 x.2.2) (es, nd, List.map Prod.fst es) = some (es.filter fun p => mhas keqI nd p.1, nd) by
  rw [hA, zaA]
 refine zvX (fun x => ∃ left : List Int, x = (es.filter fun p => left.contains p.1 || mhas keqI nd p.1, nd, left)) (fun x => x.1) (fun x => x.2.2) (hf := fun x => rfl) ?_ ?_ ?_
 ·rintro _ ⟨left, rfl⟩ hn
  have e : (es.filter fun p => left.contains p.1 || mhas keqI nd p.1) = es.filter fun p => mhas keqI nd p.1 := List.filter_congr fun p hp => by
   cases hc : left.contains p.1 with
   | false => rfl
   | true =>
    have h0 := hn p (List.mem_filter.2 ⟨hp, by simp only [hc]; rfl⟩)
    exact absurd (List.contains_iff_mem.1 hc) h0
  show some (Sum.inr _) = _
  simp only [e]
 ·rintro _ p ⟨left, rfl⟩ hp hl
  simp only [] at hp hl
  have hr : zmA (es.filter fun p => left.contains p.1 || mhas keqI nd p.1) := h.sublist List.filter_sublist
  refine .inl ?_
  simp only []
  rw [zfO hr (k := p.1) (v := p.2) hp, zaA]
  unfold zhN
  simp only [zaA]
  have hD : ∀ j, (rngD keqI left p.1).contains j = (left.contains j && !keqI j p.1) := fun j => by
   rw [Bool.eq_iff_iff, Bool.and_eq_true, List.contains_iff_mem, zwG, List.contains_iff_mem, Bool.not_eq_true', ← Bool.not_eq_true, zcP]
  cases hh : mhas keqI nd p.1 with
  | true =>
   have e : (es.filter fun q => (rngD keqI left p.1).contains q.1 || mhas keqI nd q.1) = es.filter fun q => left.contains q.1 || mhas keqI nd q.1 := List.filter_congr fun q _ => by
    rw [hD]
    cases hk : keqI q.1 p.1 with
    | false => rw [Bool.not_false, Bool.and_true]
    | true => rw [zcP.1 hk, hh, Bool.or_true, Bool.or_true]
   exact ⟨_, rfl, ⟨rngD keqI left p.1, by rw [e]⟩, rfl⟩
  | false =>
   have e : mdel keqI (es.filter fun p => left.contains p.1 || mhas keqI nd p.1) p.1 = es.filter fun q => (rngD keqI left p.1).contains q.1 || mhas keqI nd q.1 := by
    rw [zzG hr, List.filter_filter]
    refine List.filter_congr fun q _ => ?_
    rw [hD]
    cases hk : keqI q.1 p.1 with
    | false => simp
    | true => rw [zcP.1 hk, hh]; simp
   exact ⟨_, rfl, ⟨rngD keqI left p.1, by rw [e]⟩, rfl⟩
 ·refine ⟨List.map Prod.fst es, ?_⟩
  have e : (es.filter fun p => (List.map Prod.fst es).contains p.1 || mhas keqI nd p.1) = es := List.filter_eq_self.2 fun p hp => by
   have : (List.map Prod.fst es).contains p.1 = true := List.contains_iff_mem.2 (List.mem_map.2 ⟨p, hp, rfl⟩)
   rw [this]; rfl
  rw [e]
theorem zyI {nx nx' : Int} {es : Es} (h : Ok nx es) (now : Int) : zbJ zaB now nx' es = some ((es.length : Int) - ((zbU es now).length : Int), nx', zbU es now) := by
 have hlen := h.len
 have hle : (zbU es now).length ≤ es.length := List.length_filter_le _ _
 have hcan : ∀ k, mhas keqI ((zbU es now).map fun p => (p.1, ())) k = zlV es now k := fun k => by
  rw [Bool.eq_iff_iff, ziV]
  unfold zbU
  constructor
  ·rintro ⟨_, hv⟩
   obtain ⟨p, hp, e⟩ := List.mem_map.1 hv
   obtain ⟨hp, hq⟩ := List.mem_filter.1 hp
   cases e
   exact hq
  ·intro hk
   have hk' := hk
   unfold zlV at hk
   obtain ⟨p, hp, hq⟩ := List.any_eq_true.1 hk
   rw [Bool.and_eq_true, List.contains_iff_mem] at hq
   obtain ⟨n, hn⟩ := ziV.1 (ytD _ _ _ hq.2)
   exact ⟨(), List.mem_map.2 ⟨(k, n), List.mem_filter.2 ⟨hn, hk'⟩, rfl⟩⟩
 have hcr : zmA ((zbU es now).map fun p => (p.1, ())) := by
  have h1 : zmA (zbU es now) := h.rises.sublist List.filter_sublist
  unfold zmA
  rw [List.pairwise_map]
  exact h1
 unfold zbJ
 suffices hA : rngA (fun x => znD zaB now x.1 x.2.1 x.2.2.1 x.2.2.2) (nx', es, List.map Prod.fst es, ([] : List (Int × Unit))) = some (nx', es, (zbU es now).map fun p => (p.1, ())) by
  rw [hA, zaA, yoG h.rises, zaA]
  have e : (es.filter fun p => mhas keqI ((zbU es now).map fun p => (p.1, ())) p.1) = zbU es now := by
   show _ = es.filter _
   refine List.filter_congr fun p _ => ?_
   rw [hcan]
  simp only [e]
  rw [ziU (by omega) (by omega)]
 refine zvX (fun x => ∃ (left : List Int) (nd : List (Int × Unit)), x = (nx', es, left, nd) ∧ zmA nd ∧ ∀ k, mhas keqI nd k = es.any fun p => !left.contains p.1 && (zuS es p.1 now && (zmN es p.1).contains k)) (fun x => x.2.1) (fun x => x.2.2.1) (hf := fun x => rfl) ?_ ?_ ?_
 ·rintro _ ⟨left, nd, rfl, hr, hk⟩ hn
  simp only [] at hn
  have e : nd = (zbU es now).map fun p => (p.1, ()) := ygP hr hcr fun k => by
   rw [hk, hcan]
   unfold zlV
   refine ynF fun p hp => ?_
   have : left.contains p.1 = false := by
    cases hc : left.contains p.1 with
    | false => rfl
    | true => exact absurd (List.contains_iff_mem.1 hc) (hn p hp)
   rw [this]; rfl
  rw [e]
 ·rintro _ p ⟨left, nd, rfl, hr, hk⟩ hp hl
  simp only [] at hp hl
  refine .inl ?_
  simp only []
  rw [zfO h.rises (k := p.1) (v := p.2) hp, zaA, yiW h, zaA]
  have hD : ∀ j, (rngD keqI left p.1).contains j = (left.contains j && !keqI j p.1) := fun j => by
   rw [Bool.eq_iff_iff, Bool.and_eq_true, List.contains_iff_mem, zwG, List.contains_iff_mem, Bool.not_eq_true', ← Bool.not_eq_true, zcP]
  have hc : left.contains p.1 = true := List.contains_iff_mem.2 hl
  have hsplit : ∀ k, (es.any fun q => !(rngD keqI left p.1).contains q.1 && (zuS es q.1 now && (zmN es q.1).contains k)) = ((es.any fun q => !left.contains q.1 && (zuS es q.1 now && (zmN es q.1).contains k)) || (zuS es p.1 now && (zmN es p.1).contains k)) := fun k => by
   rw [Bool.eq_iff_iff, Bool.or_eq_true, List.any_eq_true, List.any_eq_true]
   constructor
   ·rintro ⟨q, hq, h2⟩
    rw [hD] at h2
    by_cases e : q.1 = p.1
    ·right
     rw [e] at h2
     exact (Bool.and_eq_true _ _ ▸ h2).2
    ·left
     refine ⟨q, hq, ?_⟩
     rw [ylK e] at h2
     simpa using h2
   ·rintro (⟨q, hq, h2⟩ | h2)
    ·refine ⟨q, hq, ?_⟩
     rw [hD]
     cases hb : left.contains q.1 with
     | true => rw [hb] at h2; cases h2
     | false => rw [hb] at h2; exact h2
    ·refine ⟨p, hp, ?_⟩
     rw [hD, zcP.2 rfl, h2]
     simp
  cases hv : zuS es p.1 now with
  | false =>
   refine ⟨_, rfl, ⟨rngD keqI left p.1, nd, rfl, hr, fun k => ?_⟩, rfl⟩
   rw [hsplit, hk, hv]
   simp
  | true =>
   simp only [Bool.not_true, cond_false]
   rw [yhU h, zaA]
   have hpl := zqW h p.1
   have hI : iter (fun x => zeU zaB (zmN es p.1, nx', es) x.1 x.2.1 x.2.2.1 x.2.2.2.1 x.2.2.2.2) ((0 : Int), nx', es, rngD keqI left p.1, nd) = some (nx', es, rngD keqI left p.1, zxK nd (zmN es p.1)) := by
    refine zpB (fun k => ((k : Int), nx', es, rngD keqI left p.1, zxK nd ((zmN es p.1).take k))) (zmN es p.1).length (by omega) _ (fun k hk2 => ?_) ?_
    ·unfold zeU
     simp only []
     rw [zcF (by omega), zbP rfl hk2, zaA, ziU (by omega) (by omega), List.take_succ_eq_append_getElem hk2]
     unfold zxK
     rw [List.foldl_append]
     rfl
    ·unfold zeU
     simp only []
     rw [zcO (by omega), List.take_of_length_le (Nat.le_refl _)]
   rw [show iter _ ((0 : Int), nx', es, rngD keqI left p.1, nd) = _ from hI, zaA]
   refine ⟨_, rfl, ⟨rngD keqI left p.1, zxK nd (zmN es p.1), rfl, zxQ _ hr, fun k => ?_⟩, rfl⟩
   rw [ybT, hsplit, hk, hv, Bool.true_and]
 ·refine ⟨List.map Prod.fst es, [], rfl, List.Pairwise.nil, fun k => ?_⟩
  refine Eq.symm ?_
  show _ = false
  rw [List.any_eq_false]
  intro p hp
  have : (List.map Prod.fst es).contains p.1 = true := List.contains_iff_mem.2 (List.mem_map.2 ⟨p, hp, rfl⟩)
  rw [this]
  simp
theorem Ok.filter {nx : Int} {es : Es} (h : Ok nx es) (q : Int × Nd → Bool) : Ok nx (es.filter q) where
 rises := h.rises.sublist List.filter_sublist
 ids p hp := h.ids p (List.mem_filter.1 hp).1
 par p hp := h.par p (List.mem_filter.1 hp).1
 may p hp := h.may p (List.mem_filter.1 hp).1
 uniq p hp q hq := h.uniq p (List.mem_filter.1 hp).1 q (List.mem_filter.1 hq).1
 next := h.next
 len := Nat.le_trans (List.length_filter_le _ _) h.len
theorem Ok.pruned {nx : Int} {es : Es} (h : Ok nx es) (now : Int) : Ok nx (zbU es now) := h.filter _
abbrev sNew (i : Int) (n : Nd) : Nd := (i, n.2.1, n.2.2.1, n.2.2.2.1, n.2.2.2.2.1, n.2.2.2.2.2.1, n.2.2.2.2.2.2.1, n.2.2.2.2.2.2.2.1, n.2.2.2.2.2.2.2.2.1, false, false, n.2.2.2.2.2.2.2.2.2.2.2.1, n.2.2.2.2.2.2.2.2.2.2.2.2.1, n.2.2.2.2.2.2.2.2.2.2.2.2.2.1, n.2.2.2.2.2.2.2.2.2.2.2.2.2.2)
def zyE (es : Es) (par : Int) : Bool := decide (par > 0) && (!mhas keqI es par || yaB es par)
def zkZ (n : Nd) (now nx : Int) (es : Es) : Int × Int × Int × Es :=
 bif !mayB n then (0, 131, nx, es) else
 bif (zpU es (nsec n)).isSome then (0, 132, nx, es) else
 bif zyE es (npar n) then (0, 133, nx, es) else
 bif decide ((zbU es now).length ≥ 256) || decide (nx ≥ 99999999) then (0, 130, nx, zbU es now) else
 (nx, 0, nx + 1, zbU es now ++ [(nx, sNew nx n)])
theorem Ok.plant {nx : Int} {es : Es} (h : Ok nx es) (n : Nd) (now : Int) : Ok (zkZ n now nx es).2.2.1 (zkZ n now nx es).2.2.2 := by
 unfold zkZ
 cases hm : mayB n with
 | false => exact h
 | true =>
  simp only [Bool.not_true, cond_false]
  cases hf : (zpU es (nsec n)).isSome with
  | true => exact h
  | false =>
   simp only [cond_false]
   cases ho : zyE es (npar n) with
   | true => exact h
   | false =>
    simp only [cond_false]
    cases hg : decide ((zbU es now).length ≥ 256) || decide (nx ≥ 99999999) with
    | true => exact h.pruned now
    | false =>
     simp only [cond_false]
     rw [Bool.or_eq_false_iff, decide_eq_false_iff_not, decide_eq_false_iff_not] at hg
     have hP := h.pruned now
     have hnx := h.next
     have hlow : ∀ p ∈ zbU es now, p.1 < nx := fun p hp => (hP.ids p hp).2.2
     have hpar : 0 ≤ npar n ∧ npar n < nx := by
      have h0 := (ztU hm).2.2.2.2.2
      refine ⟨h0, ?_⟩
      unfold zyE at ho
      by_cases hp : npar n > 0
      ·rw [decide_eq_true hp, Bool.true_and, Bool.or_eq_false_iff, Bool.not_eq_false'] at ho
       obtain ⟨v, hv⟩ := ziV.1 ho.1
       exact (h.ids _ hv).2.2
      ·omega
     have hno : ∀ p ∈ es, nsec p.2 ≠ nsec n := fun p hp e => by
      unfold zpU at hf
      rw [Option.isSome_map, Option.isSome_eq_false_iff, Option.isNone_iff_eq_none, List.find?_eq_none] at hf
      exact hf p hp (beq_iff_eq.2 e)
     have hno' : ∀ p ∈ zbU es now, nsec p.2 ≠ nsec n := fun p hp => hno p (List.mem_filter.1 hp).1
     have hmem : ∀ p, p ∈ zbU es now ++ [(nx, sNew nx n)] → p ∈ zbU es now ∨ p = (nx, sNew nx n) := fun p hp => by simpa using hp
     exact {
       rises := by
        unfold zmA
        rw [List.pairwise_append]
        refine ⟨hP.rises, List.pairwise_singleton _ _, fun p hp q hq => ?_⟩
        rw [List.mem_singleton] at hq
        subst hq
        exact hlow p hp
       ids := fun p hp => by
        rcases hmem p hp with hp | rfl
        ·have := hP.ids p hp
         exact ⟨this.1, this.2.1, by omega⟩
        ·exact ⟨rfl, hnx.1, by simp only []; omega⟩
       par := fun p hp => by
        rcases hmem p hp with hp | rfl
        ·exact hP.par p hp
        ·exact hpar
       may := fun p hp => by
        rcases hmem p hp with hp | rfl
        ·exact hP.may p hp
        ·exact hm
       uniq := fun p hp q hq e => by
        rcases hmem p hp with hp | rfl <;> rcases hmem q hq with hq | rfl
        ·exact hP.uniq p hp q hq e
        ·exact absurd e (hno' p hp)
        ·exact absurd e.symm (hno' q hq)
        ·rfl
       next := ⟨by omega, by omega⟩
       len := by rw [List.length_append, List.length_singleton]; omega }
theorem zzC {nx : Int} {es : Es} (h : Ok nx es) (now a0 a1 a2 : Int) (a3 a4 a5 : L8) (a6 a7 : Int) (a8 a9 : Bool) (a10 : Int) (a11 a12 : L8) :
  zcB zaB a0 a1 a2 a3 a4 a5 a6 a7 a8 a9 a10 a11 a12 now nx es = some (zkZ (a0, a1, a2, a3, a4, a5, ([] : List L8), a6, a7, a8, a9, ([] : List L8), a10, a11, a12) now nx es) := by
 unfold zcB zkZ
 rw [show zgV zaB _ = some (mayB (a0, a1, a2, a3, a4, a5, ([] : List L8), a6, a7, a8, a9, ([] : List L8), a10, a11, a12)) from yxL (a0, a1, a2, a3, a4, a5, ([] : List L8), a6, a7, a8, a9, ([] : List L8), a10, a11, a12) (Nat.zero_le _), zaA]
 cases hm : mayB (a0, a1, a2, a3, a4, a5, ([] : List L8), a6, a7, a8, a9, ([] : List L8), a10, a11, a12) with
 | false => rfl
 | true =>
  simp only [Bool.not_true, cond_false]
  rw [zwC h, zaA]
  cases hf : zpU es a11 with
  | some q => rfl
  | none =>
   simp only [Option.isSome_none, Option.getD_none, cond_false]
   have hj : ziQ zaB a0 a1 a2 a3 a4 a5 a6 a7 a8 a9 a10 a11 a12 (zN, false, nx, es) = some (bif zyE es a2 then .inl (0, 133, nx, es) else .inr (nx, es, a0, a1, a2, a3, a4, a5, a6, a7, a8, a9, a10, a11, a12)) := by
    unfold ziQ zyE
    simp only []
    by_cases hp : a2 > 0
    ·rw [zcF hp, decide_eq_true hp, yiC h, zaA]
     cases mhas keqI es a2 with
     | false => rfl
     | true =>
      simp only [Bool.not_true, cond_false, Bool.true_and, Bool.false_or]
      cases yaB es a2 <;> rfl
    ·rw [zcO hp, decide_eq_false hp]
     rfl
   rw [hj, zaA]
   cases zyE es a2 with
   | true => rfl
   | false =>
    simp only [cond_false]
    rw [zyI h, zaA]
    unfold zmZ
    simp only []
    by_cases hg : (zbU es now).length ≥ 256
    ·rw [zcF (by omega), decide_eq_true hg]
     rfl
    ·rw [zcO (by omega), decide_eq_false hg]
     by_cases hx : nx ≥ 99999999
     ·rw [zcF hx, decide_eq_true hx]
      rfl
     ·rw [zcO hx, decide_eq_false hx]
      have hnx := h.next
      simp only [zaA, Bool.or_false, cond_false]
      rw [own_ok ⟨Nat.zero_le _, Nat.zero_le _⟩, zaA, ziU (by omega) (by omega)]
      simp only []
      rw [yfS fun p hp => ((h.pruned now).ids p hp).2.2]
theorem yxU : Ok 1 [] := ⟨List.Pairwise.nil, fun _ h => (by cases h), fun _ h => (by cases h), fun _ h => (by cases h), fun _ h => (by cases h), ⟨by decide, by decide⟩, by decide⟩
def fn1 : Nd := (0, 1, 0, [117, 58, 97, 110, 110], [], [], [], 0, 9, false, false, [], 0, [115], [])
def fn2 : Nd := (0, 1, 1, [117, 58, 97, 110, 110], [], [], [], 0, 9, false, false, [], 0, [116], [])
def fe1 : Es := [(1, 1, 1, 0, [117, 58, 97, 110, 110], [], [], [], 0, 9, false, false, [], 0, [115], [])]
def fe2 : Es := [(1, 1, 1, 0, [117, 58, 97, 110, 110], [], [], [], 0, 9, false, false, [], 0, [115], []), (2, 2, 1, 1, [117, 58, 97, 110, 110], [], [], [], 0, 9, false, false, [], 0, [116], [])]
def fe3 : Es := [(1, 1, 1, 0, [117, 58, 97, 110, 110], [], [], [], 0, 9, true, false, [], 0, [115], []), (2, 2, 1, 1, [117, 58, 97, 110, 110], [], [], [], 0, 9, false, false, [], 0, [116], [])]
def ydR : L8 × L8 := ([110, 111, 100, 101, 47, 48, 48, 48, 48, 48, 48, 48, 49], [49, 58, 49, 49, 58, 48, 53, 58, 117, 58, 97, 110, 110, 48, 58, 48, 58, 49, 58, 48, 49, 58, 48, 49, 58, 57, 49, 58, 49, 49, 58, 48, 49, 58, 48, 49, 58, 48, 49, 58, 115, 48, 58])
def ydN : L8 × L8 := ([110, 111, 100, 101, 47, 48, 48, 48, 48, 48, 48, 48, 50], [49, 58, 49, 49, 58, 49, 53, 58, 117, 58, 97, 110, 110, 48, 58, 48, 58, 49, 58, 48, 49, 58, 48, 49, 58, 57, 49, 58, 48, 49, 58, 48, 49, 58, 48, 49, 58, 48, 49, 58, 116, 48, 58])
def ynN : List (L8 × L8) := [([102, 111, 114, 101, 115, 116], [49, 58, 51]), ydR, ydN]
theorem pl1 : zkZ fn1 0 1 [] = (1, 0, 2, fe1) := by kernel_rfl
theorem pl2 : zkZ fn1 0 2 fe1 = (0, 132, 2, fe1) := by kernel_rfl
theorem pl3 : zkZ fn2 0 2 fe1 = (2, 0, 3, fe2) := by kernel_rfl
theorem fok1 : Ok 2 fe1 := by
 have h := yxU.plant fn1 0
 rw [pl1] at h
 exact h
theorem fok2 : Ok 3 fe2 := by
 have h := fok1.plant fn2 0
 rw [pl3] at h
 exact h
theorem fok3 : Ok 3 fe3 := by
 have h := fok2.ch (zpH fun p => p.1 = 1)
 rw [show (chE fe2 fun p => if p.1 = 1 then zmL p.2 else p.2) = fe3 by kernel_rfl] at h
 exact h
theorem fok0 : Ok 3 [] := by
 have h := fok3.filter fun _ => false
 exact h
theorem fok4 : Ok 3 [(1, 1, 1, 0, [117, 58, 97, 110, 110], [], [], [], 0, 9, true, false, [], 0, [115], [])] := by
 have h := fok3.filter fun p => keqI p.1 1
 rw [show (fe3.filter fun p => keqI p.1 1) = [(1, 1, 1, 0, [117, 58, 97, 110, 110], [], [], [], 0, 9, true, false, [], 0, [115], [])] by kernel_rfl] at h
 exact h
theorem frd1 : zpC zaB ydR = some ((1, 1, 0, [117, 58, 97, 110, 110], [], [], [], 0, 9, true, false, [], 0, [115], []), true) := by kernel_rfl
theorem frd2 : zpC zaB ydN = some ((2, 1, 1, [117, 58, 97, 110, 110], [], [], [], 0, 9, false, false, [], 0, [116], []), true) := by kernel_rfl
theorem fst1 : zhZ zaB [ydR, ydN] 0 0 3 [] = some (.inl (1, 1, 3, [(1, 1, 1, 0, [117, 58, 97, 110, 110], [], [], [], 0, 9, true, false, [], 0, [115], [])])) := by
 unfold zhZ
 rw [show idx [ydR, ydN] 0 = some ydR from rfl, zaA, frd1, zaA]
 simp only []
 rw [zwC fok0, zaA]
 kernel_rfl
theorem fst2 : zhZ zaB [ydR, ydN] 1 1 3 [(1, 1, 1, 0, [117, 58, 97, 110, 110], [], [], [], 0, 9, true, false, [], 0, [115], [])] = some (.inl (2, 2, 3, fe3)) := by
 unfold zhZ
 rw [show idx [ydR, ydN] 1 = some ydN from rfl, zaA, frd2, zaA]
 simp only []
 rw [zwC fok4, zaA]
 kernel_rfl
theorem fload : zoZ zaB ynN = some (.inr (0, 3, fe3)) := by
 unfold zoZ
 rw [show zvG zaB ynN = some (.inr ()) by kernel_rfl, zaA]
 simp only []
 rw [show idx ynN 0 = some ([102, 111, 114, 101, 115, 116], [49, 58, 51]) from rfl, zaA]
 simp only []
 rw [show znM zaB [49, 58, 51] = some ([[51]], true) by kernel_rfl, zaA, show zvB zaB ([[51]], true) = some (.inr ()) by kernel_rfl, zaA]
 simp only []
 rw [show zjG zaB = some (1, []) from rfl, zaA, show zvE zaB ([[51]], true) (1, []) = some (.inr (3, [])) by kernel_rfl, zaA]
 simp only []
 rw [show subL ynN 1 = some [ydR, ydN] from rfl, zaA]
 have hI : iter (fun x => zhZ zaB [ydR, ydN] x.1 x.2.1 x.2.2.1 x.2.2.2) ((0 : Int), (0 : Int), (3 : Int), ([] : Es)) = some (.inr (3, fe3)) := by
  show zqS _ (1099511627773 + 1 + 1 + 1) _ = _
  rw [zeE fst1, zeE fst2]
  exact zfM rfl
 rw [show iter _ _ = _ from hI, zaA]
theorem yzD : ziM zaB = some true := by
 unfold ziM
 rw [show zjG zaB = some (1, []) from rfl, zaA]
 simp only []
 rw [(zzC yxU 0 0 1 0 [117, 58, 97, 110, 110] [] [] 0 9 false false 0 [115] []).trans (congrArg some pl1), zaA]
 simp only []
 rw [(zzC fok1 0 0 1 0 [117, 58, 97, 110, 110] [] [] 0 9 false false 0 [115] []).trans (congrArg some pl2), zaA]
 simp only []
 rw [(zzC fok1 0 0 1 1 [117, 58, 97, 110, 110] [] [] 0 9 false false 0 [116] []).trans (congrArg some pl3), zaA]
 rw [show zlH zaB (1, 0, 2, fe1) (0, 132, 2, fe1) (2, 0, 3, fe2) = some (.inr (3, fe3)) by kernel_rfl, zaA]
 simp only []
 rw [show zcT zaB 3 fe3 = some (ynN, 3, fe3) by kernel_rfl, zaA]
 simp only []
 rw [fload, zaA]
 simp only []
 rw [ydC fok3, zaA]
 simp only []
 rw [zyI fok3, zaA]
 kernel_rfl
def yjI : PC := ⟨[], [.b], fun _ => some true, false⟩
theorem ywL {G : List (Nat × Obj)} [zmE G] : PCok Tryz.prog G 13 yjI := by
 have h := zsE (tabs := G) (o := zaB)
 unfold zlE at h
 rw [yzD] at h
 exact h
def τWkM : TE := [(3, ⟨.int .i64, 1, [.v (.i .i64) (show Int from 0)], (.i .i64), 8⟩),
 (4, ⟨.b, 1, [.v .b (show Bool from false)], .b, 1⟩),
 (9, ⟨.s, 1, [.v .s (show Bs from [])], .s, 16⟩),
 (25, ⟨.pt 75, 1, [.nilp], .un, 8⟩),
 (35, ⟨.sl 47, 1, [.nils], (.sl (.pr (.i .i64) (.pr (.i .i64) (.pr (.i .i64) (.pr .s (.pr .s (.pr .s (.pr (.sl .s) (.pr (.i .i64) (.pr (.i .i64) (.pr .b (.pr .b (.pr (.sl .s) (.pr (.i .i64) (.pr .s .s))))))))))))))), 24⟩),
 (38, ⟨.st [(35, 0), (3, 1)], 2, [.nils, .v (.i .i64) (show Int from 0)], (.pr (.sl (.pr (.i .i64) (.pr (.i .i64) (.pr (.i .i64) (.pr .s (.pr .s (.pr .s (.pr (.sl .s) (.pr (.i .i64) (.pr (.i .i64) (.pr .b (.pr .b (.pr (.sl .s) (.pr (.i .i64) (.pr .s .s))))))))))))))) (.i .i64)), 32⟩),
 (41, ⟨.sl 50, 1, [.nils], (.sl (.pr (.i .i64) (.pr (.i .i64) (.pr (.i .i64) (.pr (.i .i64) (.pr .s (.pr (.i .i64) (.pr (.i .i64) (.pr (.i .i64) (.pr .s (.pr .s (.pr .s (.pr (.sl .s) (.pr (.i .i64) (.pr (.i .i64) (.pr .b (.pr .b (.pr (.sl .s) (.pr (.i .i64) (.pr .s .s)))))))))))))))))))), 24⟩),
 (44, ⟨.sl 3, 1, [.nils], (.sl (.i .i64)), 24⟩),
 (45, ⟨.sl 9, 1, [.nils], (.sl .s), 24⟩),
 (47, ⟨.st [(3, 0), (3, 1), (3, 2), (9, 3), (9, 4), (9, 5), (45, 6), (3, 7), (3, 8), (4, 9), (4, 10), (45, 11), (3, 12), (9, 13), (9, 14)], 15, [.v (.i .i64) (show Int from 0), .v (.i .i64) (show Int from 0), .v (.i .i64) (show Int from 0), .v .s (show Bs from []), .v .s (show Bs from []), .v .s (show Bs from []), .nils, .v (.i .i64) (show Int from 0), .v (.i .i64) (show Int from 0), .v .b (show Bool from false), .v .b (show Bool from false), .nils, .v (.i .i64) (show Int from 0), .v .s (show Bs from []), .v .s (show Bs from [])], (.pr (.i .i64) (.pr (.i .i64) (.pr (.i .i64) (.pr .s (.pr .s (.pr .s (.pr (.sl .s) (.pr (.i .i64) (.pr (.i .i64) (.pr .b (.pr .b (.pr (.sl .s) (.pr (.i .i64) (.pr .s .s)))))))))))))), 184⟩),
 (50, ⟨.st [(3, 0), (3, 1), (3, 2), (3, 3), (9, 4), (47, 5)], 20, [.v (.i .i64) (show Int from 0), .v (.i .i64) (show Int from 0), .v (.i .i64) (show Int from 0), .v (.i .i64) (show Int from 0), .v .s (show Bs from []), .v (.i .i64) (show Int from 0), .v (.i .i64) (show Int from 0), .v (.i .i64) (show Int from 0), .v .s (show Bs from []), .v .s (show Bs from []), .v .s (show Bs from []), .nils, .v (.i .i64) (show Int from 0), .v (.i .i64) (show Int from 0), .v .b (show Bool from false), .v .b (show Bool from false), .nils, .v (.i .i64) (show Int from 0), .v .s (show Bs from []), .v .s (show Bs from [])], (.pr (.i .i64) (.pr (.i .i64) (.pr (.i .i64) (.pr (.i .i64) (.pr .s (.pr (.i .i64) (.pr (.i .i64) (.pr (.i .i64) (.pr .s (.pr .s (.pr .s (.pr (.sl .s) (.pr (.i .i64) (.pr (.i .i64) (.pr .b (.pr .b (.pr (.sl .s) (.pr (.i .i64) (.pr .s .s))))))))))))))))))), 232⟩),
 (57, ⟨.sl 4, 1, [.nils], (.sl .b), 24⟩),
 (73, ⟨.map 3 81, 1, [.nilm], (.mp (.i .i64) (.pr (.i .i64) (.pr (.i .i64) (.pr (.i .i64) (.pr .s (.pr .s (.pr .s (.pr (.sl .s) (.pr (.i .i64) (.pr (.i .i64) (.pr .b (.pr .b (.pr (.sl .s) (.pr (.i .i64) (.pr .s .s))))))))))))))), 8⟩),
 (75, ⟨.st [(73, 0), (3, 1)], 2, [.nilm, .v (.i .i64) (show Int from 0)], (.pr (.mp (.i .i64) (.pr (.i .i64) (.pr (.i .i64) (.pr (.i .i64) (.pr .s (.pr .s (.pr .s (.pr (.sl .s) (.pr (.i .i64) (.pr (.i .i64) (.pr .b (.pr .b (.pr (.sl .s) (.pr (.i .i64) (.pr .s .s))))))))))))))) (.i .i64)), 16⟩),
 (81, ⟨.st [(47, 0)], 15, [.v (.i .i64) (show Int from 0), .v (.i .i64) (show Int from 0), .v (.i .i64) (show Int from 0), .v .s (show Bs from []), .v .s (show Bs from []), .v .s (show Bs from []), .nils, .v (.i .i64) (show Int from 0), .v (.i .i64) (show Int from 0), .v .b (show Bool from false), .v .b (show Bool from false), .nils, .v (.i .i64) (show Int from 0), .v .s (show Bs from []), .v .s (show Bs from [])], (.pr (.i .i64) (.pr (.i .i64) (.pr (.i .i64) (.pr .s (.pr .s (.pr .s (.pr (.sl .s) (.pr (.i .i64) (.pr (.i .i64) (.pr .b (.pr .b (.pr (.sl .s) (.pr (.i .i64) (.pr .s .s)))))))))))))), 184⟩)]
theorem τ_okWkM : TEok Tryz.prog τWkM := ygU (by kernel_rfl) (by kernel_rfl)
theorem ynX : Tryz.prog.follows .mixedOrders = true := by kernel_rfl
theorem zfF {G : List (Nat × Obj)} {o : Ops} [zmE G] [zkJ G o] {Γ : CT} {η : HT} {f : FuncId} {fn : Func} {c : SC} (hΓ : ∀ B, GB G B → CTok Tryz.prog Γ B) (hf : Tryz.prog.funcs[f]? = some fn) (i : (fn.name == "runtime.NumGoroutine") = false := by kernel_rfl) (j : fn.body.isNone = false := by kernel_rfl) (l : Nat.ble c.I.sl.length fn.ntmps = true := by kernel_rfl) (r : Nat.beq fn.results.toList.length c.nr = true := by kernel_rfl) (e : fnS τWkM Γ η fn c.I c.outs = c.p := by kernel_rfl) : SCok Tryz.prog G f c := witO (G := G) (o := o) <| ymU ynX τ_okWkM hΓ hf (isFn hf i j) l r e
theorem ztH {G : List (Nat × Obj)} {o : Ops} [zmE G] [zkJ G o] {Γ : CT} {η : HT} {f : FuncId} {fn : Func} {c : PC} (hΓ : ∀ B, GB G B → CTok Tryz.prog Γ B) (hf : Tryz.prog.funcs[f]? = some fn) (i : (fn.name == "runtime.NumGoroutine") = false := by kernel_rfl) (j : fn.body.isNone = false := by kernel_rfl) (l : Nat.ble c.ash.length fn.ntmps = true := by kernel_rfl) (r : c.cl = false := by kernel_rfl) (e : fnP τWkM Γ η fn c.ash c.rts = c.p := by kernel_rfl) : PCok Tryz.prog G f c := witO (G := G) (o := o) <| ymK ynX τ_okWkM hΓ hf (isFn hf i j) l r e
abbrev zaK : Type := Int × Int × Int × Bs × Bs × Bs × (List Bs) × Int × Int × Bool × Bool × (List Bs) × Int × Bs × Bs
abbrev zoD : Ty := .pr (.i .i64) (.pr (.i .i64) (.pr (.i .i64) (.pr .s (.pr .s (.pr .s (.pr (.sl .s) (.pr (.i .i64) (.pr (.i .i64) (.pr .b (.pr .b (.pr (.sl .s) (.pr (.i .i64) (.pr .s .s)))))))))))))
abbrev zeA : Type := Int × zaK
abbrev znF : Type := (List zaK) × Int
abbrev xdL : Type := Int × Int × Int × Int × Bs × zaK
abbrev ydF : Ty := .pr (.i .i64) (.pr (.i .i64) (.pr (.i .i64) (.pr (.i .i64) (.pr .s zoD))))
abbrev zwR : OSh := .blk 47 [hI, hI, hI, hS, hS, hS, (.h (.sl .s)), hI, hI, hB, hB, (.h (.sl .s)), hI, hS, hS]
abbrev ymG : OSh := .blk 81 [hI, hI, hI, hS, hS, hS, (.h (.sl .s)), hI, hI, hB, hB, (.h (.sl .s)), hI, hS, hS]
abbrev xbQ : OSh := .blk 47 [hI, hI, hI, hS, hS, hS, (.own 4), hI, hI, hB, hB, (.own 5), hI, hS, hS]
abbrev QWkM3 : OSh := .blk 47 [hI, hI, hI, hS, hS, hS, .nils, hI, hI, hB, hB, .nils, hI, hS, hS]
abbrev zbY : OSh := .blk 38 [(.h (.sl zoD)), hI]
abbrev ymS : OSh := .mp false (.i .i64) zoD
abbrev zoN : OSh := .mp true (.i .i64) zoD
abbrev ylW : OSh := .blk 75 [(.mpr 3), hI]
abbrev yzZ : OSh := .blk 38 [(.own 1), hI]
abbrev xdR : OSh := .blk 38 [(.own 2), hI]
abbrev zpO : OSh := .blk 75 [(.mpr 1), hI]
abbrev zvC : OSh := .blk 75 [(.mpr 2), hI]
abbrev xfS : OSh := .blk 38 [.nils, hI]
section
variable {tabs : List (Nat × Obj)} [zmE tabs] {o : Ops} [zkJ tabs o]
def zkH (o : Ops) : Option (Int) :=
 some (1 : Int)
def znT (o : Ops) : SC := ⟨⟨[], []⟩, 1, [(none, ⟨[(0, (.ptr 0 0))], [xfS]⟩)], fun _ => zkH o⟩
theorem ztG : SCok Tryz.prog tabs 18 (znT o) := zfF (o := o) (η := []) (Γ := ⟨[], [], false, []⟩) (ctok trivial trivial) Tryz.func18
def yfE : SC := ⟨⟨[(0, (.own 0))], [.osl .s 9]⟩, 1, [(none, ⟨[(0, (.own 1))], [.osl .s 9, .osl .s 9]⟩)], fun (xs : List Bs) => (app [] xs).bind fun r => some (xs, r)⟩
theorem ypT : SCok Tryz.prog tabs 98 yfE := wit (G := tabs) <| yqL rfl ylF
def ykJ : PC := ⟨[.h (.sl .s)], [(.sl .s)], fun xs => some xs, true⟩
theorem ywO : PCok Tryz.prog tabs 81 ykJ := wit (G := tabs) <| ydH ynX τ_okWkM Tryz.func81 (isFn Tryz.func81) rfl (by kernel_rfl) (fun _ => by kernel_rfl)
def ztX (o : Ops) (v0 : Int) (v1 : Int) (v2 : Int) (v3 : Bs) (v4 : Bs) (v5 : Bs) (v6 : Int) (v7 : Int) (v8 : Bool) (v9 : Bool) (v10 : Int) (v11 : Bs) (v12 : Bs) (v13 : List Bs) (v14 : List Bs) : Option ((Int × Int × Int × Bs × Bs × Bs × (List Bs) × Int × Int × Bool × Bool × (List Bs) × Int × Bs × Bs × (List Bs) × List Bs)) :=
 ((fun (xs : List Bs) => (app ([] : List Bs) xs).bind fun r => some (xs, r)) v13).bind fun v15 => ((fun (xs : List Bs) => (app ([] : List Bs) xs).bind fun r => some (xs, r)) v14).bind fun v16 => some (v0, v1, v2, v3, v4, v5, v15.2, v6, v7, v8, v9, v16.2, v10, v11, v12, v15.1, v16.1)
def zwP (o : Ops) : SC := ⟨⟨[(0, (.ag [hI, hI, hI, hS, hS, hS, (.own 0), hI, hI, hB, hB, (.own 1), hI, hS, hS]))], [.osl .s 9, .osl .s 9]⟩, 1, [(none, ⟨[(0, (.ag [hI, hI, hI, hS, hS, hS, (.hc .s), hI, hI, hB, hB, (.hc .s), hI, hS, hS]))], [.osl .s 9, .osl .s 9]⟩)], fun x => ztX o x.1 x.2.1 x.2.2.1 x.2.2.2.1 x.2.2.2.2.1 x.2.2.2.2.2.1 x.2.2.2.2.2.2.1 x.2.2.2.2.2.2.2.1 x.2.2.2.2.2.2.2.2.1 x.2.2.2.2.2.2.2.2.2.1 x.2.2.2.2.2.2.2.2.2.2.1 x.2.2.2.2.2.2.2.2.2.2.2.1 x.2.2.2.2.2.2.2.2.2.2.2.2.1 x.2.2.2.2.2.2.2.2.2.2.2.2.2.1 x.2.2.2.2.2.2.2.2.2.2.2.2.2.2⟩
theorem ycT : SCok Tryz.prog tabs 44 (zwP o) := zfF (o := o) (η := [(4000001, .sch [(.pu, 0, []), (.pu, 1, []), (.pu, 4, [0, 5]), (.pu, 5, [0, 5]), (.mn, 2, [0]), (.mn, 3, [5]), (.pu, 8, [1, 7]), (.mn, 6, [1]), (.mn, 7, [7]), (.mn, 9, [2]), (.pu, 10, []), (.mn, 11, [2])])]) (Γ := ⟨[(81, ykJ)], [(98, yfE)], false, []⟩) (ctok ⟨ywO, trivial⟩ ⟨ypT, trivial⟩) Tryz.func44
noncomputable def zeL (o : Ops) (v0 : Int) (v1 : Int) (v2 : Int) (v3 : Bs) (v4 : Bs) (v5 : Bs) (v6 : Int) (v7 : Int) (v8 : Bool) (v9 : Bool) (v10 : Int) (v11 : Bs) (v12 : Bs) (v15 : List Bs) (v16 : List Bs) (v19 : (zaK × Bool × Int × List zeA)) : Option ((Int × Int × Int × (List Bs) × (List Bs) × List zeA) ⊕ (Int × (List Bs) × (List Bs) × (List zeA) × Int × Int × Int × Bs × Bs × Bs × Int × Int × Bool × Bool × Int × Bs × Bs)) :=
 let v20 : zaK := zjA keqI v19.2.2.2 v2 ((0 : Int), (0 : Int), (0 : Int), ([] : Bs), ([] : Bs), ([] : Bs), ([] : List Bs), (0 : Int), (0 : Int), false, false, ([] : List Bs), (0 : Int), ([] : Bs), ([] : Bs))
 bif decide (v2 > 0) then (bif (!(mhas keqI v19.2.2.2 v2)) then some (.inl ((0 : Int), (133 : Int), v19.2.2.1, v15, v16, v19.2.2.2)) else ((zcR o v2 v19.2.2.1 v19.2.2.2).bind fun v21 => bif v21.1 then some (.inl ((0 : Int), (133 : Int), v21.2.1, v15, v16, v21.2.2)) else some (.inr (v21.2.1, v15, v16, v21.2.2, v0, v1, v2, v3, v4, v5, v6, v7, v8, v9, v10, v11, v12)))) else some (.inr (v19.2.2.1, v15, v16, v19.2.2.2, v0, v1, v2, v3, v4, v5, v6, v7, v8, v9, v10, v11, v12))
noncomputable def zlP (o : Ops) (v24 : Int × (List Bs) × (List Bs) × (List zeA) × Int × Int × Int × Bs × Bs × Bs × Int × Int × Bool × Bool × Int × Bs × Bs) (v25 : (Int × Int × List zeA)) : Option ((Int × Int × Int × (List Bs) × (List Bs) × List zeA) ⊕ (Int × (List Bs) × (List Bs) × (List zeA) × Int × Int × Int × Bs × Bs × Bs × Int × Int × Bool × Bool × Int × Bs × Bs)) :=
 bif decide ((v25.2.2.length : Int) ≥ 256) then some (.inl ((0 : Int), (130 : Int), v25.2.1, v24.2.1, v24.2.2.1, v25.2.2)) else (bif decide (v25.2.1 ≥ 99999999) then some (.inl ((0 : Int), (130 : Int), v25.2.1, v24.2.1, v24.2.2.1, v25.2.2)) else some (.inr (v25.2.1, v24.2.1, v24.2.2.1, v25.2.2, v24.2.2.2.2)))
noncomputable def zdE (o : Ops) (v0 : Int) (v1 : Int) (v2 : Int) (v3 : Bs) (v4 : Bs) (v5 : Bs) (v6 : Int) (v7 : Int) (v8 : Bool) (v9 : Bool) (v10 : Int) (v11 : Bs) (v12 : Bs) (v13 : Int) (v14 : Int) (v15 : List Bs) (v16 : List Bs) (v17 : List zeA) : Option ((Int × Int × Int × (List Bs) × (List Bs) × List zeA)) :=
 (zgV o (v0, v1, v2, v3, v4, v5, v15, v6, v7, v8, v9, v16, v10, v11, v12)).bind fun v18 => bif (!v18) then some ((0 : Int), (131 : Int), v14, v15, v16, v17) else ((zbO o v11 v14 v17).bind fun v19 => bif v19.2.1 then some ((0 : Int), (132 : Int), v19.2.2.1, v15, v16, v19.2.2.2) else ((zeL o v0 v1 v2 v3 v4 v5 v6 v7 v8 v9 v10 v11 v12 v15 v16 v19).bind fun v22 => match v22 with
 | .inl v23 => some v23
 | .inr v24 => ((zbJ o v13 v24.1 v24.2.2.2.1).bind fun v25 => (zlP o v24 v25).bind fun v26 => match v26 with
 | .inl v27 => some v27
 | .inr v28 => ((ztX o v28.2.2.2.2.1 v28.2.2.2.2.2.1 v28.2.2.2.2.2.2.1 v28.2.2.2.2.2.2.2.1 v28.2.2.2.2.2.2.2.2.1 v28.2.2.2.2.2.2.2.2.2.1 v28.2.2.2.2.2.2.2.2.2.2.1 v28.2.2.2.2.2.2.2.2.2.2.2.1 v28.2.2.2.2.2.2.2.2.2.2.2.2.1 v28.2.2.2.2.2.2.2.2.2.2.2.2.2.1 v28.2.2.2.2.2.2.2.2.2.2.2.2.2.2.1 v28.2.2.2.2.2.2.2.2.2.2.2.2.2.2.2.1 v28.2.2.2.2.2.2.2.2.2.2.2.2.2.2.2.2 v28.2.1 v28.2.2.1).bind fun v29 => let v30 : List zeA := mset keqI kltI v28.2.2.2.1 v28.1 (v28.1, v29.2.1, v29.2.2.1, v29.2.2.2.1, v29.2.2.2.2.1, v29.2.2.2.2.2.1, v29.2.2.2.2.2.2.1, v29.2.2.2.2.2.2.2.1, v29.2.2.2.2.2.2.2.2.1, false, false, v29.2.2.2.2.2.2.2.2.2.2.2.1, v29.2.2.2.2.2.2.2.2.2.2.2.2.1, v29.2.2.2.2.2.2.2.2.2.2.2.2.2.1, v29.2.2.2.2.2.2.2.2.2.2.2.2.2.2.1)
 some (v28.1, (0 : Int), w64 (v28.1 + 1), v29.2.2.2.2.2.2.2.2.2.2.2.2.2.2.2.1, v29.2.2.2.2.2.2.2.2.2.2.2.2.2.2.2.2, v30)))))
noncomputable def zmF (o : Ops) : SC := ⟨⟨[(0, (.ptr 0 0)), (1, (.ag [hI, hI, hI, hS, hS, hS, (.own 1), hI, hI, hB, hB, (.own 2), hI, hS, hS])), (2, hI)], [ylW, .osl .s 9, .osl .s 9, zoN]⟩, 2, [(none, ⟨[(0, hI), (1, hI)], [ylW, .osl .s 9, .osl .s 9, ymS]⟩)], fun x => zdE o x.1 x.2.1 x.2.2.1 x.2.2.2.1 x.2.2.2.2.1 x.2.2.2.2.2.1 x.2.2.2.2.2.2.1 x.2.2.2.2.2.2.2.1 x.2.2.2.2.2.2.2.2.1 x.2.2.2.2.2.2.2.2.2.1 x.2.2.2.2.2.2.2.2.2.2.1 x.2.2.2.2.2.2.2.2.2.2.2.1 x.2.2.2.2.2.2.2.2.2.2.2.2.1 x.2.2.2.2.2.2.2.2.2.2.2.2.2.1 x.2.2.2.2.2.2.2.2.2.2.2.2.2.2.1 x.2.2.2.2.2.2.2.2.2.2.2.2.2.2.2.1 x.2.2.2.2.2.2.2.2.2.2.2.2.2.2.2.2.1 x.2.2.2.2.2.2.2.2.2.2.2.2.2.2.2.2.2⟩
theorem zrI : SCok Tryz.prog tabs 20 (zmF o) := zfF (o := o) (η := [(2000009, .join [] [2] [(some 1000000, ⟨[(6, hI), (7, hI)], [ylW, .osl .s 9, .osl .s 9, zoN]⟩), (none, ⟨[(0, (.ptr 0 0)), (4, (.ptr 4 0))], [ylW, .osl .s 9, .osl .s 9, zoN, .blk 47 [hI, hI, hI, hS, hS, hS, (.own 1), hI, hI, hB, hB, (.own 2), hI, hS, hS]]⟩)]),
 (2000012, .join [] [] [(some 1000000, ⟨[(6, hI), (7, hI)], [ylW, .osl .s 9, .osl .s 9, zoN]⟩), (none, ⟨[(0, (.ptr 0 0)), (4, (.ptr 4 0))], [ylW, .osl .s 9, .osl .s 9, zoN, .blk 47 [hI, hI, hI, hS, hS, hS, (.own 1), hI, hI, hB, hB, (.own 2), hI, hS, hS]]⟩)]),
 (4000006, .sch [(.pu, 0, []), (.pu, 1, []), (.pu, 2, []), (.pu, 3, []), (.pu, 4, []), (.pu, 5, []), (.pu, 6, []), (.pu, 7, []), (.pu, 8, []), (.pu, 9, [7]), (.mn, 10, []), (.mn, 11, [7]), (.pu, 12, [])]),
 (4000014, .sch [(.pu, 0, []), (.pu, 1, []), (.pu, 2, []), (.pu, 3, []), (.pu, 4, []), (.pu, 5, []), (.pu, 6, []), (.pu, 7, []), (.mn, 8, [0, 1, 2, 3, 4, 5, 6])])]) (Γ := ⟨[(53, (zpA o))], [(36, (zdV o)), (54, (zfQ o)), (31, (zdB o)), (44, (zwP o))], false, []⟩) (ctok ⟨zrK, trivial⟩ ⟨zfR, ⟨zjT, ⟨zeT, ⟨ycT, trivial⟩⟩⟩⟩) Tryz.func20
def zaZ (o : Ops) (v0 : UInt8) : Option (Bool) :=
 bif decide ((v0.toNat : Int) ≥ ((97 : UInt8).toNat : Int)) then (bif decide ((v0.toNat : Int) ≤ ((122 : UInt8).toNat : Int)) then (some true) else (bif decide ((v0.toNat : Int) ≥ ((48 : UInt8).toNat : Int)) then (bif decide ((v0.toNat : Int) ≤ ((57 : UInt8).toNat : Int)) then (some true) else (bif ((v0.toNat : Int) == ((46 : UInt8).toNat : Int)) then (some true) else (bif ((v0.toNat : Int) == ((95 : UInt8).toNat : Int)) then (some true) else (some ((v0.toNat : Int) == ((45 : UInt8).toNat : Int)))))) else (bif ((v0.toNat : Int) == ((46 : UInt8).toNat : Int)) then (some true) else (bif ((v0.toNat : Int) == ((95 : UInt8).toNat : Int)) then (some true) else (some ((v0.toNat : Int) == ((45 : UInt8).toNat : Int))))))) else (bif decide ((v0.toNat : Int) ≥ ((48 : UInt8).toNat : Int)) then (bif decide ((v0.toNat : Int) ≤ ((57 : UInt8).toNat : Int)) then (some true) else (bif ((v0.toNat : Int) == ((46 : UInt8).toNat : Int)) then (some true) else (bif ((v0.toNat : Int) == ((95 : UInt8).toNat : Int)) then (some true) else (some ((v0.toNat : Int) == ((45 : UInt8).toNat : Int)))))) else (bif ((v0.toNat : Int) == ((46 : UInt8).toNat : Int)) then (some true) else (bif ((v0.toNat : Int) == ((95 : UInt8).toNat : Int)) then (some true) else (some ((v0.toNat : Int) == ((45 : UInt8).toNat : Int))))))
def zgJ (o : Ops) : PC := ⟨[(.h (.i .u8))], [.b], fun x => zaZ o x, false⟩
theorem zkW : PCok Tryz.prog tabs 167 (zgJ o) := ztH (o := o) (η := []) (Γ := ⟨[], [], false, []⟩) (ctok trivial trivial) Tryz.func167
def ziO (o : Ops) (v0 : Bs) (v1 : Int) : Option (Int ⊕ (Bool ⊕ Unit)) :=
 bif decide (v1 < (v0.length : Int)) then ((idx v0 v1).bind fun v2 => (zaZ o v2).bind fun v3 => bif (!v3) then some (.inr (.inl false)) else some (.inl (w64 (v1 + 1)))) else some (.inr (.inr ()))
def zcE (o : Ops) (v0 : Bs) : Option (Bool) :=
 (iter (ziO o v0) (0 : Int)).bind fun v4 => match v4 with
 | .inl v5 => (some v5)
 | .inr v6 => (bif decide ((v0.length : Int) ≥ 1) then (some (decide ((v0.length : Int) ≤ 24))) else (some false))
def ziN (o : Ops) : PC := ⟨[hS], [.b], fun x => zcE o x, false⟩
theorem zmX : PCok Tryz.prog tabs 140 (ziN o) := ztH (o := o) (η := [(200002, .loop [] ⟨[(3, hI)], []⟩ [0] [(some 1000000, ⟨[(2, hB)], []⟩), (some 0, ⟨[], []⟩)])]) (Γ := ⟨[(167, (zgJ o))], [], false, []⟩) (ctok ⟨zkW, trivial⟩ trivial) Tryz.func140
def zbM (o : Ops) (v0 : Bs) : Option (Bool) :=
 bif decide ((v0.length : Int) > 2) then ((subH v0 (2 : Int)).bind fun v1 => bif (v1 == ([117, 58] : Bs)) then ((subL v0 (2 : Int)).bind fun v2 => (zcE o v2).bind fun v3 => some v3) else ((subH v0 (2 : Int)).bind fun v4 => bif (v4 == ([99, 58] : Bs)) then ((subL v0 (2 : Int)).bind fun v5 => (zcE o v5).bind fun v6 => some v6) else (some false))) else (some false)
def zjF (o : Ops) : PC := ⟨[hS], [.b], fun x => zbM o x, false⟩
theorem zpQ : PCok Tryz.prog tabs 139 (zjF o) := ztH (o := o) (η := []) (Γ := ⟨[(140, (ziN o))], [], false, []⟩) (ctok ⟨zmX, trivial⟩ trivial) Tryz.func139
def ziP (o : Ops) (v0 : Bs) (v1 : Int) : Option (Int ⊕ (Bool ⊕ Unit)) :=
 bif decide (v1 < (v0.length : Int)) then ((idx v0 v1).bind fun v2 => bif decide ((v2.toNat : Int) < ((33 : UInt8).toNat : Int)) then some (.inr (.inl false)) else ((idx v0 v1).bind fun v3 => bif decide ((v3.toNat : Int) > ((126 : UInt8).toNat : Int)) then some (.inr (.inl false)) else some (.inl (w64 (v1 + 1))))) else some (.inr (.inr ()))
def zcG (o : Ops) (v0 : Bs) : Option (Bool) :=
 (iter (ziP o v0) (0 : Int)).bind fun v4 => match v4 with
 | .inl v5 => (some v5)
 | .inr v6 => (bif decide ((v0.length : Int) ≥ 1) then (some (decide ((v0.length : Int) ≤ 128))) else (some false))
def ziF (o : Ops) : PC := ⟨[hS], [.b], fun x => zcG o x, false⟩
theorem znB : PCok Tryz.prog tabs 141 (ziF o) := ztH (o := o) (η := [(200002, .loop [] ⟨[(3, hI)], []⟩ [0] [(some 1000000, ⟨[(2, hB)], []⟩), (some 0, ⟨[], []⟩)])]) (Γ := ⟨[], [], false, []⟩) (ctok trivial trivial) Tryz.func141
def zhL (o : Ops) (v0 : Bs) (v1 : Int) : Option (Int ⊕ (Bool ⊕ Unit)) :=
 bif decide (v1 < (v0.length : Int)) then ((idx v0 v1).bind fun v2 => (zaZ o v2).bind fun v3 => bif (!v3) then ((idx v0 v1).bind fun v4 => bif ((v4.toNat : Int) != ((58 : UInt8).toNat : Int)) then some (.inr (.inl false)) else some (.inl (w64 (v1 + 1)))) else some (.inl (w64 (v1 + 1)))) else some (.inr (.inr ()))
def zdC (o : Ops) (v0 : Bs) : Option (Bool) :=
 (iter (zhL o v0) (0 : Int)).bind fun v5 => match v5 with
 | .inl v6 => (some v6)
 | .inr v7 => (bif decide ((v0.length : Int) ≥ 1) then (some (decide ((v0.length : Int) ≤ 32))) else (some false))
def zlL (o : Ops) : PC := ⟨[hS], [.b], fun x => zdC o x, false⟩
theorem zrX : PCok Tryz.prog tabs 168 (zlL o) := ztH (o := o) (η := [(200002, .loop [] ⟨[(3, hI)], []⟩ [0] [(some 1000000, ⟨[(2, hB)], []⟩), (some 0, ⟨[], []⟩)])]) (Γ := ⟨[(167, (zgJ o))], [], false, []⟩) (ctok ⟨zkW, trivial⟩ trivial) Tryz.func168
def zcN (o : Ops) (v0 : List Bs) (v2 : Int) (v3 : Int) : Option (Int ⊕ (Bool ⊕ Unit)) :=
 bif decide (v3 < (v0.length : Int)) then (bif (v2 == 0) then ((idx v0 v3).bind fun v4 => (zcG o v4).bind fun v5 => bif (!v5) then some (.inr (.inl false)) else (bif (v2 == 1) then ((idx v0 v3).bind fun v6 => (zdC o v6).bind fun v7 => bif (!v7) then some (.inr (.inl false)) else (bif decide (v3 > 0) then ((idx v0 v3).bind fun v8 => (idx v0 (w64 (v3 - 1))).bind fun v9 => bif (Op.bytesLess v8 v9 || v8 == v9) then some (.inr (.inl false)) else some (.inl (w64 (v3 + 1)))) else some (.inl (w64 (v3 + 1))))) else (bif decide (v3 > 0) then ((idx v0 v3).bind fun v10 => (idx v0 (w64 (v3 - 1))).bind fun v11 => bif (Op.bytesLess v10 v11 || v10 == v11) then some (.inr (.inl false)) else some (.inl (w64 (v3 + 1)))) else some (.inl (w64 (v3 + 1)))))) else (bif (v2 == 1) then ((idx v0 v3).bind fun v12 => (zdC o v12).bind fun v13 => bif (!v13) then some (.inr (.inl false)) else (bif decide (v3 > 0) then ((idx v0 v3).bind fun v14 => (idx v0 (w64 (v3 - 1))).bind fun v15 => bif (Op.bytesLess v14 v15 || v14 == v15) then some (.inr (.inl false)) else some (.inl (w64 (v3 + 1)))) else some (.inl (w64 (v3 + 1))))) else (bif decide (v3 > 0) then ((idx v0 v3).bind fun v16 => (idx v0 (w64 (v3 - 1))).bind fun v17 => bif (Op.bytesLess v16 v17 || v16 == v17) then some (.inr (.inl false)) else some (.inl (w64 (v3 + 1)))) else some (.inl (w64 (v3 + 1)))))) else some (.inr (.inr ()))
def zeW (o : Ops) (v0 : List Bs) (v1 : Int) (v2 : Int) : Option (Bool) :=
 (iter (zcN o v0 v2) (0 : Int)).bind fun v18 => match v18 with
 | .inl v19 => (some v19)
 | .inr v20 => (some (decide ((v0.length : Int) ≤ v1)))
def zlN (o : Ops) : PC := ⟨[(.h (.sl .s)), hI, hI], [.b], fun x => zeW o x.1 x.2.1 x.2.2, false⟩
theorem zrQ : PCok Tryz.prog tabs 142 (zlN o) := ztH (o := o) (η := [(200002, .loop [] ⟨[(7, hI)], []⟩ [0, 1, 2] [(some 1000000, ⟨[(6, hB)], []⟩), (some 0, ⟨[], []⟩)]),
 (4000004, .sch [(.pu, 0, []), (.pu, 1, []), (.pu, 2, []), (.pu, 3, []), (.pu, 4, []), (.pu, 5, []), (.pu, 6, []), (.mn, 7, []), (.pu, 8, []), (.pu, 9, []), (.pu, 10, []), (.pu, 11, []), (.pu, 12, []), (.pu, 13, []), (.pu, 14, []), (.pu, 15, []), (.pu, 16, []), (.pu, 17, []), (.mn, 18, []), (.pu, 19, []), (.pu, 20, []), (.pu, 21, []), (.pu, 22, []), (.pu, 23, []), (.pu, 24, []), (.pu, 25, []), (.pu, 26, []), (.pu, 27, []), (.pu, 28, []), (.pu, 29, []), (.pu, 30, []), (.pu, 31, []), (.pu, 32, []), (.pu, 33, []), (.pu, 34, []), (.pu, 35, []), (.pu, 36, []), (.pu, 37, [])])]) (Γ := ⟨[(141, (ziF o)), (168, (zlL o))], [], false, []⟩) (ctok ⟨znB, ⟨zrX, trivial⟩⟩ trivial) Tryz.func142
def zjW (o : Ops) (v0 : zaK) : Option (Bool ⊕ zaK) :=
 bif decide (v0.2.1 < 1) then some (.inl false) else (bif decide (v0.2.1 > 5) then some (.inl false) else (bif decide (v0.2.2.1 < 0) then some (.inl false) else ((zbM o v0.2.2.2.1).bind fun v1 => bif (!v1) then some (.inl false) else (bif (v0.2.2.2.2.1 != ([] : Bs)) then ((zcE o v0.2.2.2.2.1).bind fun v2 => bif (!v2) then some (.inl false) else (bif (v0.2.2.2.2.2.1 != ([] : Bs)) then ((zcG o v0.2.2.2.2.2.1).bind fun v3 => bif (!v3) then some (.inl false) else some (.inr v0)) else some (.inr v0))) else (bif (v0.2.2.2.2.2.1 != ([] : Bs)) then ((zcG o v0.2.2.2.2.2.1).bind fun v4 => bif (!v4) then some (.inl false) else some (.inr v0)) else some (.inr v0))))))
def zdU (o : Ops) (v8 : Int) (v9 : Int) (v10 : Int) (v11 : Int) (v12 : Bs) (v13 : Bs) (v14 : Bs) (v15 : List Bs) (v16 : Int) (v17 : Int) (v18 : Bool) (v19 : Bool) (v20 : List Bs) (v21 : Int) (v22 : Bs) (v23 : Bs) : Option (zeA ⊕ (Bool ⊕ zaK)) :=
 bif decide (v8 < (v20.length : Int)) then ((idx v20 v8).bind fun v24 => (zbM o v24).bind fun v25 => bif (!v25) then some (.inr (.inl false)) else some (.inl (w64 (v8 + 1), v9, v10, v11, v12, v13, v14, v15, v16, v17, v18, v19, v20, v21, v22, v23))) else some (.inr (.inr (v9, v10, v11, v12, v13, v14, v15, v16, v17, v18, v19, v20, v21, v22, v23)))
def zjO (o : Ops) (v28 : zaK) : Option ((Bool × zaK)) :=
 bif decide (v28.2.2.2.2.2.2.2.1 ≥ 0) then (bif decide (v28.2.2.2.2.2.2.2.1 ≤ 1099511627776) then (bif decide (v28.2.2.2.2.2.2.2.2.1 ≥ 0) then some (decide (v28.2.2.2.2.2.2.2.2.1 ≤ 1099511627776), v28) else some (false, v28)) else some (false, v28)) else some (false, v28)
def zgI (o : Ops) (v0 : zaK) : Option (Bool) :=
 (zjW o v0).bind fun v5 => match v5 with
 | .inl v6 => (some v6)
 | .inr v7 => ((iter (fun x => zdU o x.1 x.2.1 x.2.2.1 x.2.2.2.1 x.2.2.2.2.1 x.2.2.2.2.2.1 x.2.2.2.2.2.2.1 x.2.2.2.2.2.2.2.1 x.2.2.2.2.2.2.2.2.1 x.2.2.2.2.2.2.2.2.2.1 x.2.2.2.2.2.2.2.2.2.2.1 x.2.2.2.2.2.2.2.2.2.2.2.1 x.2.2.2.2.2.2.2.2.2.2.2.2.1 x.2.2.2.2.2.2.2.2.2.2.2.2.2.1 x.2.2.2.2.2.2.2.2.2.2.2.2.2.2.1 x.2.2.2.2.2.2.2.2.2.2.2.2.2.2.2) ((0 : Int), v7)).bind fun v26 => match v26 with
 | .inl v27 => (some v27)
 | .inr v28 => ((zjO o v28).bind fun v29 => bif v29.1 then ((zeW o v29.2.2.2.2.2.2.2.1 (16 : Int) (1 : Int)).bind fun v30 => bif v30 then (let v31 : Bool := decide ((v29.2.2.2.2.2.2.2.2.2.2.2.2.1.length : Int) ≤ 4)
 bif v31 then (bif decide (v29.2.2.2.2.2.2.2.2.2.2.2.2.2.1 ≥ 0) then (bif decide (v29.2.2.2.2.2.2.2.2.2.2.2.2.2.1 ≤ 3) then (let v32 : Bool := decide ((v29.2.2.2.2.2.2.2.2.2.2.2.2.2.2.1.length : Int) ≥ 1)
 bif v32 then (let v33 : Bool := decide ((v29.2.2.2.2.2.2.2.2.2.2.2.2.2.2.1.length : Int) ≤ 64)
 bif v33 then (let v34 : Bool := decide ((v29.2.2.2.2.2.2.2.2.2.2.2.2.2.2.2.length : Int) ≤ 256)
 some v34) else (some false)) else (some false)) else (some false)) else (some false)) else (some false)) else (some false)) else (some false)))
def zoF (o : Ops) : PC := ⟨[(.h zoD)], [.b], fun x => zgI o x, false⟩
theorem zuD : PCok Tryz.prog tabs 93 (zoF o) := ztH (o := o) (η := [(2000003, .join [] [] [(some 1000000, ⟨[(2, hB)], []⟩), (none, ⟨[(1, (.ptr 0 0))], [zwR]⟩)]),
 (200004, .loop [] ⟨[(1, (.ptr 0 0)), (3, hI)], [zwR]⟩ [] [(some 1000000, ⟨[(2, hB)], []⟩), (some 0, ⟨[(1, (.ptr 0 0))], [zwR]⟩)]),
 (2000009, .join [] [] [(none, ⟨[(1, (.ptr 0 0)), (4, hB)], [zwR]⟩)])]) (Γ := ⟨[(139, (zjF o)), (140, (ziN o)), (141, (ziF o)), (142, (zlN o))], [], false, []⟩) (ctok ⟨zpQ, ⟨zmX, ⟨znB, ⟨zrQ, trivial⟩⟩⟩⟩ trivial) Tryz.func93
def zhO (o : Ops) (v0 : Int) (v1 : Int) (v2 : List zeA) : Option ((zaK × Bool × Int × List zeA)) :=
 let v3 : zaK := zjA keqI v2 v0 ((0 : Int), (0 : Int), (0 : Int), ([] : Bs), ([] : Bs), ([] : Bs), ([] : List Bs), (0 : Int), (0 : Int), false, false, ([] : List Bs), (0 : Int), ([] : Bs), ([] : Bs))
 (zgY o v3).bind fun v4 => some (v4, mhas keqI v2 v0, v1, v2)
def zoU (o : Ops) : SC := ⟨⟨[(0, (.ptr 0 0)), (1, hI)], [zpO, zoN]⟩, 2, [(none, ⟨[(0, (.h zoD)), (1, hB)], [zpO, zoN]⟩)], fun x => zhO o x.1 x.2.1 x.2.2⟩
theorem zuY : SCok Tryz.prog tabs 52 (zoU o) := zfF (o := o) (η := []) (Γ := ⟨[(44, (zkA o))], [], false, []⟩) (ctok ⟨zlT, trivial⟩ trivial) Tryz.func52
def ziG (o : Ops) (v0 : List Bs) (v1 : List Bs) (v2 : Int) : Option (Int ⊕ (Bool ⊕ Unit)) :=
 bif decide (v2 < (v0.length : Int)) then ((idx v0 v2).bind fun v3 => (idx v1 v2).bind fun v4 => bif (v3 != v4) then some (.inr (.inl false)) else some (.inl (w64 (v2 + 1)))) else some (.inr (.inr ()))
def zdT (o : Ops) (v0 : List Bs) (v1 : List Bs) : Option (Bool) :=
 bif ((v0.length : Int) != (v1.length : Int)) then (some false) else ((iter (ziG o v0 v1) (0 : Int)).bind fun v5 => match v5 with
 | .inl v6 => (some v6)
 | .inr v7 => (some true))
def zmT (o : Ops) : PC := ⟨[(.h (.sl .s)), (.h (.sl .s))], [.b], fun x => zdT o x.1 x.2, false⟩
theorem zsW : PCok Tryz.prog tabs 94 (zmT o) := ztH (o := o) (η := [(200004, .loop [] ⟨[(5, hI)], []⟩ [0, 1] [(some 1000000, ⟨[(4, hB)], []⟩), (some 0, ⟨[], []⟩)]),
 (4000006, .sch [(.pu, 0, []), (.pu, 1, []), (.pu, 2, []), (.pu, 3, []), (.pu, 4, []), (.pu, 5, []), (.pu, 6, []), (.pu, 7, []), (.pu, 8, [])])]) (Γ := ⟨[], [], false, []⟩) (ctok trivial trivial) Tryz.func94
def ziH (o : Ops) (v0 : zaK) (v1 : zaK) : Option (Bool ⊕ (Int × Int × Int × Bs × Bs × Bs × (List Bs) × Int × Int × Bool × Bool × (List Bs) × Int × Bs × Bs × zaK)) :=
 (zdT o v0.2.2.2.2.2.2.1 v1.2.2.2.2.2.2.1).bind fun v2 => bif (!v2) then some (.inl false) else ((zdT o v0.2.2.2.2.2.2.2.2.2.2.2.1 v1.2.2.2.2.2.2.2.2.2.2.2.1).bind fun v3 => bif (!v3) then some (.inl false) else some (.inr (v0.1, v0.2.1, v0.2.2.1, v0.2.2.2.1, v0.2.2.2.2.1, v0.2.2.2.2.2.1, v0.2.2.2.2.2.2.1, v0.2.2.2.2.2.2.2.1, v0.2.2.2.2.2.2.2.2.1, v0.2.2.2.2.2.2.2.2.2.1, v0.2.2.2.2.2.2.2.2.2.2.1, v0.2.2.2.2.2.2.2.2.2.2.2.1, v0.2.2.2.2.2.2.2.2.2.2.2.2.1, v0.2.2.2.2.2.2.2.2.2.2.2.2.2.1, v0.2.2.2.2.2.2.2.2.2.2.2.2.2.2, v1)))
def zcD (o : Ops) (v0 : zaK) (v1 : zaK) : Option (Bool) :=
 (ziH o v0 v1).bind fun v4 => match v4 with
 | .inl v5 => (some v5)
 | .inr v6 => (bif (v6.1 == v6.2.2.2.2.2.2.2.2.2.2.2.2.2.2.2.1) then (bif (v6.2.1 == v6.2.2.2.2.2.2.2.2.2.2.2.2.2.2.2.2.1) then (bif (v6.2.2.1 == v6.2.2.2.2.2.2.2.2.2.2.2.2.2.2.2.2.2.1) then (bif (v6.2.2.2.1 == v6.2.2.2.2.2.2.2.2.2.2.2.2.2.2.2.2.2.2.1) then (bif (v6.2.2.2.2.1 == v6.2.2.2.2.2.2.2.2.2.2.2.2.2.2.2.2.2.2.2.1) then (let v7 : Bool := (v6.2.2.2.2.2.1 == v6.2.2.2.2.2.2.2.2.2.2.2.2.2.2.2.2.2.2.2.2.1)
 bif v7 then (let v8 : Bool := (v6.2.2.2.2.2.2.2.1 == v6.2.2.2.2.2.2.2.2.2.2.2.2.2.2.2.2.2.2.2.2.2.2.1)
 bif v8 then (let v9 : Bool := (v6.2.2.2.2.2.2.2.2.1 == v6.2.2.2.2.2.2.2.2.2.2.2.2.2.2.2.2.2.2.2.2.2.2.2.1)
 bif v9 then (let v10 : Bool := (v6.2.2.2.2.2.2.2.2.2.1 == v6.2.2.2.2.2.2.2.2.2.2.2.2.2.2.2.2.2.2.2.2.2.2.2.2.1)
 bif v10 then (let v11 : Bool := (v6.2.2.2.2.2.2.2.2.2.2.1 == v6.2.2.2.2.2.2.2.2.2.2.2.2.2.2.2.2.2.2.2.2.2.2.2.2.2.1)
 bif v11 then (let v12 : Bool := (v6.2.2.2.2.2.2.2.2.2.2.2.2.1 == v6.2.2.2.2.2.2.2.2.2.2.2.2.2.2.2.2.2.2.2.2.2.2.2.2.2.2.2.1)
 bif v12 then (let v13 : Bool := (v6.2.2.2.2.2.2.2.2.2.2.2.2.2.1 == v6.2.2.2.2.2.2.2.2.2.2.2.2.2.2.2.2.2.2.2.2.2.2.2.2.2.2.2.2.1)
 bif v13 then (let v14 : Bool := (v6.2.2.2.2.2.2.2.2.2.2.2.2.2.2.1 == v6.2.2.2.2.2.2.2.2.2.2.2.2.2.2.2.2.2.2.2.2.2.2.2.2.2.2.2.2.2)
 some v14) else (some false)) else (some false)) else (some false)) else (some false)) else (some false)) else (some false)) else (some false)) else (some false)) else (some false)) else (some false)) else (some false)) else (some false))
def ziC (o : Ops) : PC := ⟨[(.h zoD), (.h zoD)], [.b], fun x => zcD o x.1 x.2, false⟩
theorem zmR : PCok Tryz.prog tabs 41 (ziC o) := ztH (o := o) (η := [(2000003, .join [] [] [(some 1000000, ⟨[(4, hB)], []⟩), (none, ⟨[(2, (.ptr 0 0)), (3, (.ptr 1 0))], [zwR, zwR]⟩)])]) (Γ := ⟨[(94, (zmT o))], [], false, []⟩) (ctok ⟨zsW, trivial⟩ trivial) Tryz.func41
def zkN (o : Ops) (v0 : List Int) (v1 : List Int) (v2 : Int) : Option (Int ⊕ (Bool ⊕ Unit)) :=
 bif decide (v2 < (v0.length : Int)) then ((idx v0 v2).bind fun v3 => (idx v1 v2).bind fun v4 => bif (v3 != v4) then some (.inr (.inl false)) else some (.inl (w64 (v2 + 1)))) else some (.inr (.inr ()))
def zeB (o : Ops) (v0 : List Int) (v1 : List Int) : Option (Bool) :=
 bif ((v0.length : Int) != (v1.length : Int)) then (some false) else ((iter (zkN o v0 v1) (0 : Int)).bind fun v5 => match v5 with
 | .inl v6 => (some v6)
 | .inr v7 => (some true))
def zkK (o : Ops) : PC := ⟨[(.h (.sl (.i .i64))), (.h (.sl (.i .i64)))], [.b], fun x => zeB o x.1 x.2, false⟩
theorem zqN : PCok Tryz.prog tabs 58 (zkK o) := ztH (o := o) (η := [(200004, .loop [] ⟨[(5, hI)], []⟩ [0, 1] [(some 1000000, ⟨[(4, hB)], []⟩), (some 0, ⟨[], []⟩)]),
 (4000006, .sch [(.pu, 0, []), (.pu, 1, []), (.pu, 2, []), (.pu, 3, []), (.pu, 4, []), (.pu, 5, []), (.pu, 6, []), (.pu, 7, []), (.pu, 8, [])])]) (Γ := ⟨[], [], false, []⟩) (ctok trivial trivial) Tryz.func58
def zhS (o : Ops) (v0 : Int) (v1 : Int) (v2 : Int) (v3 : Bs) (v4 : Bs) (v5 : Bs) (v6 : List Bs) (v7 : Int) (v8 : Int) (v9 : Bool) (v10 : Bool) (v11 : List Bs) (v12 : Int) (v13 : Bs) (v14 : Bs) : Option (zaK) :=
 some (v0, v1, v2, v3, v4, v5, v6, v7, v8, v9, true, v11, v12, v13, v14)
def zkU (o : Ops) : SC := ⟨⟨[(0, (.ptr 0 0))], [ymG]⟩, 0, [(none, ⟨[], [ymG]⟩)], fun x => zhS o x.1 x.2.1 x.2.2.1 x.2.2.2.1 x.2.2.2.2.1 x.2.2.2.2.2.1 x.2.2.2.2.2.2.1 x.2.2.2.2.2.2.2.1 x.2.2.2.2.2.2.2.2.1 x.2.2.2.2.2.2.2.2.2.1 x.2.2.2.2.2.2.2.2.2.2.1 x.2.2.2.2.2.2.2.2.2.2.2.1 x.2.2.2.2.2.2.2.2.2.2.2.2.1 x.2.2.2.2.2.2.2.2.2.2.2.2.2.1 x.2.2.2.2.2.2.2.2.2.2.2.2.2.2⟩
theorem zrB : SCok Tryz.prog tabs 118 (zkU o) := zfF (o := o) (η := []) (Γ := ⟨[], [], false, []⟩) (ctok trivial trivial) Tryz.func118
def zjX (o : Ops) (v0 : Int) (v1 : Int) (v2 : List zeA) : Option ((Int × List zeA)) :=
 let v3 : zaK := zjA keqI v2 v0 ((0 : Int), (0 : Int), (0 : Int), ([] : Bs), ([] : Bs), ([] : Bs), ([] : List Bs), (0 : Int), (0 : Int), false, false, ([] : List Bs), (0 : Int), ([] : Bs), ([] : Bs))
 (zhS o v3.1 v3.2.1 v3.2.2.1 v3.2.2.2.1 v3.2.2.2.2.1 v3.2.2.2.2.2.1 v3.2.2.2.2.2.2.1 v3.2.2.2.2.2.2.2.1 v3.2.2.2.2.2.2.2.2.1 v3.2.2.2.2.2.2.2.2.2.1 v3.2.2.2.2.2.2.2.2.2.2.1 v3.2.2.2.2.2.2.2.2.2.2.2.1 v3.2.2.2.2.2.2.2.2.2.2.2.2.1 v3.2.2.2.2.2.2.2.2.2.2.2.2.2.1 v3.2.2.2.2.2.2.2.2.2.2.2.2.2.2).bind fun v4 => (chk (mhas keqI v2 v0)).bind fun _ => let v5 : List zeA := mrep keqI v2 v0 v4
 some (v1, v5)
def znA (o : Ops) : SC := ⟨⟨[(0, (.ptr 0 0)), (1, hI), (2, (.fn 118 [] []))], [zpO, zoN]⟩, 0, [(none, ⟨[], [zpO, zoN]⟩)], fun x => zjX o x.1 x.2.1 x.2.2⟩
theorem zsQ : SCok Tryz.prog tabs 117 (znA o) := zfF (o := o) (η := [(4000002, .sch [(.pu, 0, []), (.pu, 1, []), (.pu, 2, []), (.pu, 3, []), (.pu, 4, []), (.pu, 5, []), (.mn, 6, [0, 1, 2, 3])])]) (Γ := ⟨[], [(118, (zkU o))], true, []⟩) (ctok trivial ⟨zrB, trivial⟩) Tryz.func117
def zfI (o : Ops) (v0 : Int) (v1 : Int) (v2 : Int) (v3 : List zeA) : Option ((Int × Int × List zeA)) :=
 let v4 : zaK := zjA keqI v3 v0 ((0 : Int), (0 : Int), (0 : Int), ([] : Bs), ([] : Bs), ([] : Bs), ([] : List Bs), (0 : Int), (0 : Int), false, false, ([] : List Bs), (0 : Int), ([] : Bs), ([] : Bs))
 bif (!(mhas keqI v3 v0)) then some ((131 : Int), v2, v3) else (bif v4.2.2.2.2.2.2.2.2.2.2.1 then ((zcS o v0 v2 v3).bind fun v5 => some ((134 : Int), v5)) else ((zaW o v0 v1 v2 v3).bind fun v6 => bif (!v6.1) then some ((133 : Int), v6.2) else ((zjX o v0 v6.2.1 v6.2.2).bind fun v7 => some ((0 : Int), v7))))
def zmQ (o : Ops) : SC := ⟨⟨[(0, (.ptr 0 0)), (1, hI), (2, hI)], [zpO, zoN]⟩, 1, [(none, ⟨[(0, hI)], [zpO, zoN]⟩)], fun x => zfI o x.1 x.2.1 x.2.2.1 x.2.2.2⟩
theorem ztA : SCok Tryz.prog tabs 60 (zmQ o) := zfF (o := o) (η := []) (Γ := ⟨[], [(70, (zfW o)), (22, (zdS o)), (117, (znA o))], false, []⟩) (ctok trivial ⟨zjC, ⟨zfT, ⟨zsQ, trivial⟩⟩⟩) Tryz.func60
noncomputable def zhQ (o : Ops) (v0 : Bs) (v3 : Bs × Bool) (v5 : Int) (v6 : List zeA) (v7 : List Int) (v8 : zeA) (v9 : zaK) : Option ((Bool × Int × (List zeA) × List Int)) :=
 bif (!v9.2.2.2.2.2.2.2.2.2.1) then (bif (v9.2.2.2.1 == v0) then some (true, v5, v6, rngD keqI v7 v8.1) else (bif v3.2 then (bif (v3.1 != ([] : Bs)) then some ((v9.2.2.2.2.1 == v3.1), v5, v6, rngD keqI v7 v8.1) else some (false, v5, v6, rngD keqI v7 v8.1)) else some (false, v5, v6, rngD keqI v7 v8.1))) else some (false, v5, v6, rngD keqI v7 v8.1)
noncomputable def zlX (o : Ops) (v0 : Bs) (v3 : Bs × Bool) (v4 : Int) (v5 : Int) (v6 : List zeA) (v7 : List Int) : List (Option ((Int × Int × (List zeA) × List Int) ⊕ ((Int × Int × List zeA)))) :=
 rngL (rngC keqI v6 v7) (some (.inr (v4, v5, v6))) fun v8 => (mget keqI v6 v8.1).bind fun v9 => (zhQ o v0 v3 v5 v6 v7 v8 v9).bind fun v10 => bif v10.1 then ((zcS o v8.1 v10.2.1 v10.2.2.1).bind fun v11 => some (.inl (w64 (v4 + 1), v11.1, v11.2, v10.2.2.2))) else some (.inl (v4, v10.2))
noncomputable def zfD (o : Ops) (v0 : Bs) (v1 : Int) (v2 : List zeA) : Option ((Int × Int × List zeA)) :=
 (zeQ o v0 ([99, 58] : Bs)).bind fun v3 => (rngA (fun x => zlX o v0 v3 x.1 x.2.1 x.2.2.1 x.2.2.2) ((0 : Int), v1, v2, List.map Prod.fst v2)).bind fun v12 => some v12
noncomputable def zmH (o : Ops) : SC := ⟨⟨[(0, (.ptr 0 0)), (1, hS)], [zpO, zoN]⟩, 1, [(none, ⟨[(0, hI)], [zpO, zoN]⟩)], fun x => zfD o x.1 x.2.1 x.2.2⟩
theorem zrF : SCok Tryz.prog tabs 26 (zmH o) := zfF (o := o) (η := [(2300007, .join [] [1, 5, 6, 7, 8] [(none, ⟨[(0, (.ptr 0 0)), (19, (.ptr 2 0)), (49, hB)], [zpO, zoN, .it 1 true (.i .i64)]⟩)]),
 (200004, .rng [] ⟨[(0, (.ptr 0 0)), (7, hI), (19, (.ptr 2 0))], [zpO, zoN, .it 1 true (.i .i64)]⟩ [1, 4, 5, 6] [(some 0, ⟨[(7, hI)], [zpO, zoN]⟩)])]) (Γ := ⟨[(72, (zkD o))], [(70, (zfW o))], false, []⟩) (ctok ⟨zoP, trivial⟩ ⟨zjC, trivial⟩) Tryz.func26
def ziE (o : Ops) (v0 : Int) (v1 : Int) (v2 : Int) (v3 : Bs) (v4 : Bs) (v5 : Bs) (v6 : List Bs) (v7 : Int) (v8 : Int) (v9 : Bool) (v10 : Bool) (v11 : List Bs) (v12 : Int) (v13 : Bs) (v14 : Bs) (v15 : Int) : Option ((Int × Int × Int × Bs × Bs × Bs × (List Bs) × Int × Int × Bool × Bool × (List Bs) × Int × Bs × Bs × Int)) :=
 some (v0, v1, v2, v3, v4, v5, v6, v7, v8, v9, v10, v11, (bif decide (v12 ≤ v15) then v15 else v12), v13, v14, v15)
def zmC (o : Ops) : SC := ⟨⟨[(0, (.ptr 0 0)), (1, (.ptr 1 0))], [ymG, .blk 3 [hI]]⟩, 0, [(none, ⟨[], [ymG, .blk 3 [hI]]⟩)], fun x => ziE o x.1 x.2.1 x.2.2.1 x.2.2.2.1 x.2.2.2.2.1 x.2.2.2.2.2.1 x.2.2.2.2.2.2.1 x.2.2.2.2.2.2.2.1 x.2.2.2.2.2.2.2.2.1 x.2.2.2.2.2.2.2.2.2.1 x.2.2.2.2.2.2.2.2.2.2.1 x.2.2.2.2.2.2.2.2.2.2.2.1 x.2.2.2.2.2.2.2.2.2.2.2.2.1 x.2.2.2.2.2.2.2.2.2.2.2.2.2.1 x.2.2.2.2.2.2.2.2.2.2.2.2.2.2.1 x.2.2.2.2.2.2.2.2.2.2.2.2.2.2.2⟩
theorem zsC : SCok Tryz.prog tabs 120 (zmC o) := zfF (o := o) (η := [(4000000, .sch [(.pu, 0, []), (.pu, 1, []), (.pu, 2, []), (.pu, 3, []), (.pu, 4, []), (.pu, 5, []), (.pu, 6, []), (.pu, 7, []), (.pu, 8, []), (.pu, 9, []), (.pu, 10, []), (.mn, 11, [0])])]) (Γ := ⟨[], [], false, []⟩) (ctok trivial trivial) Tryz.func120
def zjP (o : Ops) (v0 : Int) (v1 : Int) (v2 : Int) (v3 : List zeA) : Option ((Int × Int × List zeA)) :=
 let v4 : zaK := zjA keqI v3 v0 ((0 : Int), (0 : Int), (0 : Int), ([] : Bs), ([] : Bs), ([] : Bs), ([] : List Bs), (0 : Int), (0 : Int), false, false, ([] : List Bs), (0 : Int), ([] : Bs), ([] : Bs))
 (ziE o v4.1 v4.2.1 v4.2.2.1 v4.2.2.2.1 v4.2.2.2.2.1 v4.2.2.2.2.2.1 v4.2.2.2.2.2.2.1 v4.2.2.2.2.2.2.2.1 v4.2.2.2.2.2.2.2.2.1 v4.2.2.2.2.2.2.2.2.2.1 v4.2.2.2.2.2.2.2.2.2.2.1 v4.2.2.2.2.2.2.2.2.2.2.2.1 v4.2.2.2.2.2.2.2.2.2.2.2.2.1 v4.2.2.2.2.2.2.2.2.2.2.2.2.2.1 v4.2.2.2.2.2.2.2.2.2.2.2.2.2.2 v2).bind fun v5 => (chk (mhas keqI v3 v0)).bind fun _ => let v6 : List zeA := mrep keqI v3 v0 (v5.1, v5.2.1, v5.2.2.1, v5.2.2.2.1, v5.2.2.2.2.1, v5.2.2.2.2.2.1, v5.2.2.2.2.2.2.1, v5.2.2.2.2.2.2.2.1, v5.2.2.2.2.2.2.2.2.1, v5.2.2.2.2.2.2.2.2.2.1, v5.2.2.2.2.2.2.2.2.2.2.1, v5.2.2.2.2.2.2.2.2.2.2.2.1, v5.2.2.2.2.2.2.2.2.2.2.2.2.1, v5.2.2.2.2.2.2.2.2.2.2.2.2.2.1, v5.2.2.2.2.2.2.2.2.2.2.2.2.2.2.1)
 some (v1, v5.2.2.2.2.2.2.2.2.2.2.2.2.2.2.2, v6)
def zmY (o : Ops) : SC := ⟨⟨[(0, (.ptr 0 0)), (1, hI), (2, (.fn 120 [] [(.ptr 1 0)]))], [zvC, .blk 3 [hI], zoN]⟩, 0, [(none, ⟨[], [zvC, .blk 3 [hI], zoN]⟩)], fun x => zjP o x.1 x.2.1 x.2.2.1 x.2.2.2⟩
theorem zsZ : SCok Tryz.prog tabs 117 (zmY o) := zfF (o := o) (η := [(4000002, .sch [(.pu, 0, []), (.pu, 1, []), (.pu, 2, []), (.pu, 3, []), (.pu, 4, []), (.pu, 5, []), (.mn, 6, [0, 1, 2, 3, 4])])]) (Γ := ⟨[], [(120, (zmC o))], true, []⟩) (ctok trivial ⟨zsC, trivial⟩) Tryz.func117
def zgG (o : Ops) (v0 : Int) (v1 : Int) (v2 : Int) (v3 : List zeA) : Option ((Int × Int × List zeA)) :=
 let v4 : zaK := zjA keqI v3 v0 ((0 : Int), (0 : Int), (0 : Int), ([] : Bs), ([] : Bs), ([] : Bs), ([] : List Bs), (0 : Int), (0 : Int), false, false, ([] : List Bs), (0 : Int), ([] : Bs), ([] : Bs))
 bif (!(mhas keqI v3 v0)) then some ((131 : Int), v2, v3) else (bif (v4.2.1 != 1) then some ((131 : Int), v2, v3) else ((zaP o v1 (1 : Int) (3 : Int)).bind fun v5 => bif (!v5) then some ((131 : Int), v2, v3) else ((zjP o v0 v2 v1 v3).bind fun v6 => some ((0 : Int), v6.1, v6.2.2))))
def znW (o : Ops) : SC := ⟨⟨[(0, (.ptr 0 0)), (1, hI), (2, hI)], [zpO, zoN]⟩, 1, [(none, ⟨[(0, hI)], [zpO, zoN]⟩)], fun x => zgG o x.1 x.2.1 x.2.2.1 x.2.2.2⟩
theorem ztI : SCok Tryz.prog tabs 64 (znW o) := zfF (o := o) (η := []) (Γ := ⟨[(34, (zqJ o))], [(117, (zmY o))], false, []⟩) (ctok ⟨ztM, trivial⟩ ⟨zsZ, trivial⟩) Tryz.func64
def ziL (o : Ops) (v0 : Int) (v1 : Int) (v2 : Int) (v3 : Bs) (v4 : Bs) (v5 : Bs) (v6 : List Bs) (v7 : Int) (v8 : Int) (v9 : Bool) (v10 : Bool) (v11 : List Bs) (v12 : Int) (v13 : Bs) (v14 : Bs) (v15 : Bs) : Option ((Int × Int × Int × Bs × Bs × Bs × (List Bs) × Int × Int × Bool × Bool × (List Bs) × Int × Bs × Bs × Bs)) :=
 some (v0, v1, v2, v3, v4, v5, v6, v7, v8, v9, v10, v11, v12, v13, v15, v15)
def zlW (o : Ops) : SC := ⟨⟨[(0, (.ptr 0 0)), (1, (.ptr 1 0))], [ymG, .blk 9 [hS]]⟩, 0, [(none, ⟨[], [ymG, .blk 9 [hS]]⟩)], fun x => ziL o x.1 x.2.1 x.2.2.1 x.2.2.2.1 x.2.2.2.2.1 x.2.2.2.2.2.1 x.2.2.2.2.2.2.1 x.2.2.2.2.2.2.2.1 x.2.2.2.2.2.2.2.2.1 x.2.2.2.2.2.2.2.2.2.1 x.2.2.2.2.2.2.2.2.2.2.1 x.2.2.2.2.2.2.2.2.2.2.2.1 x.2.2.2.2.2.2.2.2.2.2.2.2.1 x.2.2.2.2.2.2.2.2.2.2.2.2.2.1 x.2.2.2.2.2.2.2.2.2.2.2.2.2.2.1 x.2.2.2.2.2.2.2.2.2.2.2.2.2.2.2⟩
theorem zrH : SCok Tryz.prog tabs 121 (zlW o) := zfF (o := o) (η := []) (Γ := ⟨[], [], false, []⟩) (ctok trivial trivial) Tryz.func121
def zjU (o : Ops) (v0 : Int) (v1 : Int) (v2 : Bs) (v3 : List zeA) : Option ((Int × Bs × List zeA)) :=
 let v4 : zaK := zjA keqI v3 v0 ((0 : Int), (0 : Int), (0 : Int), ([] : Bs), ([] : Bs), ([] : Bs), ([] : List Bs), (0 : Int), (0 : Int), false, false, ([] : List Bs), (0 : Int), ([] : Bs), ([] : Bs))
 (ziL o v4.1 v4.2.1 v4.2.2.1 v4.2.2.2.1 v4.2.2.2.2.1 v4.2.2.2.2.2.1 v4.2.2.2.2.2.2.1 v4.2.2.2.2.2.2.2.1 v4.2.2.2.2.2.2.2.2.1 v4.2.2.2.2.2.2.2.2.2.1 v4.2.2.2.2.2.2.2.2.2.2.1 v4.2.2.2.2.2.2.2.2.2.2.2.1 v4.2.2.2.2.2.2.2.2.2.2.2.2.1 v4.2.2.2.2.2.2.2.2.2.2.2.2.2.1 v4.2.2.2.2.2.2.2.2.2.2.2.2.2.2 v2).bind fun v5 => (chk (mhas keqI v3 v0)).bind fun _ => let v6 : List zeA := mrep keqI v3 v0 (v5.1, v5.2.1, v5.2.2.1, v5.2.2.2.1, v5.2.2.2.2.1, v5.2.2.2.2.2.1, v5.2.2.2.2.2.2.1, v5.2.2.2.2.2.2.2.1, v5.2.2.2.2.2.2.2.2.1, v5.2.2.2.2.2.2.2.2.2.1, v5.2.2.2.2.2.2.2.2.2.2.1, v5.2.2.2.2.2.2.2.2.2.2.2.1, v5.2.2.2.2.2.2.2.2.2.2.2.2.1, v5.2.2.2.2.2.2.2.2.2.2.2.2.2.1, v5.2.2.2.2.2.2.2.2.2.2.2.2.2.2.1)
 some (v1, v5.2.2.2.2.2.2.2.2.2.2.2.2.2.2.2, v6)
def zmW (o : Ops) : SC := ⟨⟨[(0, (.ptr 0 0)), (1, hI), (2, (.fn 121 [] [(.ptr 1 0)]))], [zvC, .blk 9 [hS], zoN]⟩, 0, [(none, ⟨[], [zvC, .blk 9 [hS], zoN]⟩)], fun x => zjU o x.1 x.2.1 x.2.2.1 x.2.2.2⟩
theorem zsU : SCok Tryz.prog tabs 117 (zmW o) := zfF (o := o) (η := [(4000002, .sch [(.pu, 0, []), (.pu, 1, []), (.pu, 2, []), (.pu, 3, []), (.pu, 4, []), (.pu, 5, []), (.mn, 6, [0, 1, 2, 3, 4])])]) (Γ := ⟨[], [(121, (zlW o))], true, []⟩) (ctok trivial ⟨zrH, trivial⟩) Tryz.func117
def zgF (o : Ops) (v0 : Int) (v1 : Bs) (v2 : Int) (v3 : List zeA) : Option ((Int × Int × List zeA)) :=
 let v4 : zaK := zjA keqI v3 v0 ((0 : Int), (0 : Int), (0 : Int), ([] : Bs), ([] : Bs), ([] : Bs), ([] : List Bs), (0 : Int), (0 : Int), false, false, ([] : List Bs), (0 : Int), ([] : Bs), ([] : Bs))
 bif (!(mhas keqI v3 v0)) then some ((131 : Int), v2, v3) else (bif decide ((v1.length : Int) > 256) then some ((131 : Int), v2, v3) else ((zjU o v0 v2 v1 v3).bind fun v5 => some ((0 : Int), v5.1, v5.2.2)))
def znX (o : Ops) : SC := ⟨⟨[(0, (.ptr 0 0)), (1, hI), (2, hS)], [zpO, zoN]⟩, 1, [(none, ⟨[(0, hI)], [zpO, zoN]⟩)], fun x => zgF o x.1 x.2.1 x.2.2.1 x.2.2.2⟩
theorem zuG : SCok Tryz.prog tabs 66 (znX o) := zfF (o := o) (η := []) (Γ := ⟨[], [(117, (zmW o))], false, []⟩) (ctok trivial ⟨zsU, trivial⟩) Tryz.func66
def zhA (o : Ops) (v0 : Bs) (v3 : Int) (v4 : List zaK) (v5 : Int) (v6 : Int) (v7 : Int) (v8 : Int) (v9 : Bs) (v10 : Bs) (v11 : Bs) (v12 : Int) (v13 : Int) (v14 : Bool) (v15 : Bool) (v16 : Int) (v17 : Bs) (v18 : Bs) : Option ((Int × (List zaK) × Int × Int × Int × Int × Bs × Bs × Bs × Int × Int × Bool × Bool × Int × Bs × Bs) ⊕ ((Bool × (List zaK) × zeA) ⊕ ((List zaK) × Int × Int × Int × Int × Bs × Bs × Bs × Int × Int × Bool × Bool × Int × Bs × Bs))) :=
 bif decide (v3 < (v4.length : Int)) then ((idx v4 v3).bind fun v19 => bif (v19.2.2.2.2.2.2.2.2.2.2.2.2.2.1 == v0) then ((idx v4 v3).bind fun v20 => some (.inr (.inl (true, v4, v5, v20)))) else some (.inl (w64 (v3 + 1), v4, v5, v6, v7, v8, v9, v10, v11, v12, v13, v14, v15, v16, v17, v18))) else some (.inr (.inr (v4, v5, v6, v7, v8, v9, v10, v11, v12, v13, v14, v15, v16, v17, v18)))
def zbB (o : Ops) (v0 : Bs) (v1 : List zaK) (v2 : Int) : Option ((zaK × Bool × znF)) :=
 (iter (fun x => zhA o v0 x.1 x.2.1 x.2.2.1 x.2.2.2.1 x.2.2.2.2.1 x.2.2.2.2.2.1 x.2.2.2.2.2.2.1 x.2.2.2.2.2.2.2.1 x.2.2.2.2.2.2.2.2.1 x.2.2.2.2.2.2.2.2.2.1 x.2.2.2.2.2.2.2.2.2.2.1 x.2.2.2.2.2.2.2.2.2.2.2.1 x.2.2.2.2.2.2.2.2.2.2.2.2.1 x.2.2.2.2.2.2.2.2.2.2.2.2.2.1 x.2.2.2.2.2.2.2.2.2.2.2.2.2.2.1 x.2.2.2.2.2.2.2.2.2.2.2.2.2.2.2) ((0 : Int), v1, v2, (0 : Int), (0 : Int), (0 : Int), ([] : Bs), ([] : Bs), ([] : Bs), (0 : Int), (0 : Int), false, false, (0 : Int), ([] : Bs), ([] : Bs))).bind fun v21 => match v21 with
 | .inl v22 => some (v22.2.2.2, v22.1, v22.2.1, v22.2.2.1)
 | .inr v23 => some (((0 : Int), (0 : Int), (0 : Int), ([] : Bs), ([] : Bs), ([] : Bs), ([] : List Bs), (0 : Int), (0 : Int), false, false, ([] : List Bs), (0 : Int), ([] : Bs), ([] : Bs)), false, v23.1, v23.2.1)
def zdY (o : Ops) : SC := ⟨⟨[(0, (.ptr 0 0)), (1, hS)], [zbY]⟩, 2, [(none, ⟨[(0, (.h zoD)), (1, hB)], [zbY]⟩)], fun x => zbB o x.1 x.2.1 x.2.2⟩
theorem zgW : SCok Tryz.prog tabs 40 (zdY o) := zfF (o := o) (η := [(200002, .loop [] ⟨[(0, (.ptr 0 0)), (4, (.ptr 1 0)), (6, hI)], [zbY, QWkM3]⟩ [1] [(some 1000000, ⟨[(4, (.ptr 1 0)), (5, hB)], [zbY, zwR]⟩), (some 0, ⟨[(4, (.ptr 1 0))], [zbY, QWkM3]⟩)])]) (Γ := ⟨[], [], false, []⟩) (ctok trivial trivial) Tryz.func40
def ziS (o : Ops) (v0 : Int) (v3 : Int) (v4 : List zaK) (v5 : Int) : Option ((Int × znF) ⊕ ((Int × znF) ⊕ znF)) :=
 bif decide (v3 < (v4.length : Int)) then ((idx v4 v3).bind fun v6 => bif (v6.1 == v0) then some (.inr (.inl (v3, v4, v5))) else some (.inl (w64 (v3 + 1), v4, v5))) else some (.inr (.inr (v4, v5)))
def zaH (o : Ops) (v0 : Int) (v1 : List zaK) (v2 : Int) : Option ((Int × znF)) :=
 (iter (fun x => ziS o v0 x.1 x.2.1 x.2.2) ((0 : Int), v1, v2)).bind fun v7 => match v7 with
 | .inl v8 => some v8
 | .inr v9 => some ((-1 : Int), v9)
def zbH (o : Ops) : SC := ⟨⟨[(0, (.ptr 0 0)), (1, hI)], [zbY]⟩, 1, [(none, ⟨[(0, hI)], [zbY]⟩)], fun x => zaH o x.1 x.2.1 x.2.2⟩
theorem zcL : SCok Tryz.prog tabs 115 (zbH o) := zfF (o := o) (η := [(200002, .loop [] ⟨[(0, (.ptr 0 0)), (5, hI)], [zbY]⟩ [1] [(some 1000000, ⟨[(4, hI)], [zbY]⟩), (some 0, ⟨[], [zbY]⟩)])]) (Γ := ⟨[], [], false, []⟩) (ctok trivial trivial) Tryz.func115
def zhE (o : Ops) (v4 : Int) (v5 : List zaK) (v6 : Int) (v7 : List Int) : Option ((Int × (List zaK) × Int × List Int) ⊕ (((List zaK) × Int × List Int))) :=
 bif decide (v4 ≥ 0) then ((idx v5 v4).bind fun v8 => (app v7 ([v8.1] : List Int)).bind fun v9 => (idx v5 v4).bind fun v10 => (zaH o v10.2.2.1 v5 v6).bind fun v11 => some (.inl (v11.1, v11.2.1, v11.2.2, v9))) else some (.inr (v5, v6, v7))
def zaS (o : Ops) (v0 : Int) (v1 : List zaK) (v2 : Int) : Option (((List zaK) × Int × List Int)) :=
 (zaH o v0 v1 v2).bind fun v3 => (iter (fun x => zhE o x.1 x.2.1 x.2.2.1 x.2.2.2) (v3.1, v3.2.1, v3.2.2, ([] : List Int))).bind fun v12 => some v12
def zbS (o : Ops) : SC := ⟨⟨[(0, (.ptr 0 0)), (1, hI)], [zbY]⟩, 1, [(none, ⟨[(0, (.own 1))], [zbY, .osl (.i .i64) 3]⟩)], fun x => zaS o x.1 x.2.1 x.2.2⟩
theorem zdX : SCok Tryz.prog tabs 59 (zbS o) := zfF (o := o) (η := [(200003, .loop [] ⟨[(0, (.ptr 0 0)), (5, (.own 1)), (6, hI)], [zbY, .osl (.i .i64) 3]⟩ [4] [(some 0, ⟨[(5, (.own 1))], [zbY, .osl (.i .i64) 3]⟩)])]) (Γ := ⟨[], [(115, (zbH o))], false, []⟩) (ctok trivial ⟨zcL, trivial⟩) Tryz.func59
def zaD (o : Ops) (v0 : Int) (v1 : List zaK) (v2 : Int) : Option ((zaK × Bool × znF)) :=
 (zaH o v0 v1 v2).bind fun v3 => bif decide (v3.1 < 0) then some (((0 : Int), (0 : Int), (0 : Int), ([] : Bs), ([] : Bs), ([] : Bs), ([] : List Bs), (0 : Int), (0 : Int), false, false, ([] : List Bs), (0 : Int), ([] : Bs), ([] : Bs)), false, v3.2) else ((idx v3.2.1 v3.1).bind fun v4 => some (v4, true, v3.2))
def zaJ (o : Ops) : SC := ⟨⟨[(0, (.ptr 0 0)), (1, hI)], [zbY]⟩, 2, [(none, ⟨[(0, (.h zoD)), (1, hB)], [zbY]⟩)], fun x => zaD o x.1 x.2.1 x.2.2⟩
theorem zaM : SCok Tryz.prog tabs 56 (zaJ o) := zfF (o := o) (η := []) (Γ := ⟨[], [(115, (zbH o))], false, []⟩) (ctok trivial ⟨zcL, trivial⟩) Tryz.func56
def zgB (o : Ops) (v4 : Int) (v5 : List zaK) (v6 : Int) (v7 : List Int) : Option ((Int × (List zaK) × Int × List Int) ⊕ ((Bool × znF) ⊕ znF)) :=
 bif decide (v4 < (v7.length : Int)) then ((chk (decide ((0 : Int) ≤ v4) && decide (v4 < (v7.length : Int)))).bind fun _ => (idx v7 v4).bind fun v8 => (zaD o v8 v5 v6).bind fun v9 => bif v9.1.2.2.2.2.2.2.2.2.2.1 then some (.inr (.inl (true, v9.2.2))) else some (.inl (w64 (v4 + 1), v9.2.2.1, v9.2.2.2, v7))) else some (.inr (.inr (v5, v6)))
def zaX (o : Ops) (v0 : Int) (v1 : List zaK) (v2 : Int) : Option ((Bool × znF)) :=
 (zaS o v0 v1 v2).bind fun v3 => (iter (fun x => zgB o x.1 x.2.1 x.2.2.1 x.2.2.2) ((0 : Int), v3)).bind fun v10 => match v10 with
 | .inl v11 => some v11
 | .inr v12 => some (false, v12)
def zcW (o : Ops) : SC := ⟨⟨[(0, (.ptr 0 0)), (1, hI)], [zbY]⟩, 1, [(none, ⟨[(0, hB)], [zbY]⟩)], fun x => zaX o x.1 x.2.1 x.2.2⟩
theorem zgA : SCok Tryz.prog tabs 116 (zcW o) := zfF (o := o) (η := [(200003, .loop [] ⟨[(0, (.ptr 0 0)), (5, (.own 1)), (6, hI)], [zbY, .osl (.i .i64) 3]⟩ [] [(some 1000000, ⟨[(4, hB)], [zbY]⟩), (some 0, ⟨[], [zbY]⟩)])]) (Γ := ⟨[], [(59, (zbS o)), (56, (zaJ o))], false, []⟩) (ctok trivial ⟨zdX, ⟨zaM, trivial⟩⟩) Tryz.func116
def zaQ (o : Ops) (v0 : Int) (v1 : Int) (v2 : List zaK) (v3 : Int) : Option ((Bool × znF)) :=
 (zaD o v0 v2 v3).bind fun v4 => bif v4.2.1 then (bif (!v4.1.2.2.2.2.2.2.2.2.2.2.1) then (bif decide (v4.1.2.2.2.2.2.2.2.2.1 > v1) then ((zaX o v0 v4.2.2.1 v4.2.2.2).bind fun v5 => some ((!v5.1), v5.2)) else some (false, v4.2.2)) else some (false, v4.2.2)) else some (false, v4.2.2)
def zbT (o : Ops) : SC := ⟨⟨[(0, (.ptr 0 0)), (1, hI), (2, hI)], [zbY]⟩, 1, [(none, ⟨[(0, hB)], [zbY]⟩)], fun x => zaQ o x.1 x.2.1 x.2.2.1 x.2.2.2⟩
theorem zdR : SCok Tryz.prog tabs 57 (zbT o) := zfF (o := o) (η := []) (Γ := ⟨[], [(56, (zaJ o)), (116, (zcW o))], false, []⟩) (ctok trivial ⟨zaM, ⟨zgA, trivial⟩⟩) Tryz.func57
def zhD (o : Ops) (v1 : Int) (v5 : Int) (v6 : List zaK) (v7 : Int) (v8 : List Int) : Option ((Int × (List zaK) × Int × List Int) ⊕ ((Bool × znF) ⊕ znF)) :=
 bif decide (v5 < (v8.length : Int)) then ((chk (decide ((0 : Int) ≤ v5) && decide (v5 < (v8.length : Int)))).bind fun _ => (idx v8 v5).bind fun v9 => bif (v9 == v1) then some (.inr (.inl (true, v6, v7))) else some (.inl (w64 (v5 + 1), v6, v7, v8))) else some (.inr (.inr (v6, v7)))
def zbW (o : Ops) (v0 : Int) (v1 : Int) (v2 : List zaK) (v3 : Int) : Option ((Bool × znF)) :=
 (zaS o v0 v2 v3).bind fun v4 => (iter (fun x => zhD o v1 x.1 x.2.1 x.2.2.1 x.2.2.2) ((0 : Int), v4)).bind fun v10 => match v10 with
 | .inl v11 => some v11
 | .inr v12 => some (false, v12)
def zgZ (o : Ops) : SC := ⟨⟨[(0, (.ptr 0 0)), (1, hI), (2, hI)], [zbY]⟩, 1, [(none, ⟨[(0, hB)], [zbY]⟩)], fun x => zbW o x.1 x.2.1 x.2.2.1 x.2.2.2⟩
theorem znS : SCok Tryz.prog tabs 122 (zgZ o) := zfF (o := o) (η := [(200003, .loop [] ⟨[(7, (.own 1)), (8, hI)], [zbY, .osl (.i .i64) 3]⟩ [2] [(some 1000000, ⟨[(6, hB)], [zbY]⟩), (some 0, ⟨[], [zbY]⟩)])]) (Γ := ⟨[], [(59, (zbS o))], false, []⟩) (ctok trivial ⟨zdX, trivial⟩) Tryz.func122
def zgQ (o : Ops) (v7 : Bool) (v8 : Int) (v9 : List zaK) (v10 : Int) (v11 : List zaK) : Option (((List zaK) × Int × List zaK) ⊕ ((List zaK) × Int × List zaK)) :=
 bif decide (v8 < (v9.length : Int)) then (bif (!v7) then some (.inl (v9, v10, v11)) else some (.inr (v9, v10, v11))) else some (.inr (v9, v10, v11))
def zdJ (o : Ops) (v0 : Int) (v3 : Int) (v7 : Bool) (v8 : Int) (v9 : List zaK) (v10 : Int) (v11 : List zaK) : Option ((Bool × Int × (List zaK) × Int × List zaK) ⊕ ((Bool × (List zaK) × Int × List zaK))) :=
 (zgQ o v7 v8 v9 v10 v11).bind fun v12 => match v12 with
 | .inl v13 => ((idx v13.1 v8).bind fun v15 => (zaQ o v15.1 v0 v13.1 v13.2.1).bind fun v16 => bif v16.1 then ((idx v16.2.1 v8).bind fun v17 => (idx v16.2.1 v3).bind fun v18 => (zbW o v17.1 v18.1 v16.2.1 v16.2.2).bind fun v19 => some (.inl (v19.1, w64 (v8 + 1), v19.2.1, v19.2.2, v13.2.2))) else some (.inl (false, w64 (v8 + 1), v16.2.1, v16.2.2, v13.2.2)))
 | .inr v14 => some (.inr (v7, v14))
def zgL (o : Ops) (v0 : Int) (v3 : Int) (v4 : List zaK) (v5 : Int) (v6 : List zaK) : Option ((Int × (List zaK) × Int × List zaK) ⊕ (((List zaK) × Int × List zaK))) :=
 bif decide (v3 < (v4.length : Int)) then ((iter (fun x => zdJ o v0 v3 x.1 x.2.1 x.2.2.1 x.2.2.2.1 x.2.2.2.2) (false, v3, v4, v5, v6)).bind fun v20 => bif v20.1 then ((idx v20.2.1 v3).bind fun v21 => (app v20.2.2.2 ([v21] : List zaK)).bind fun v22 => some (.inl (w64 (v3 + 1), v20.2.1, v20.2.2.1, v22))) else some (.inl (w64 (v3 + 1), v20.2))) else some (.inr (v4, v5, v6))
def zaY (o : Ops) (v0 : Int) (v1 : List zaK) (v2 : Int) : Option ((Int × Int × List zaK)) :=
 (iter (fun x => zgL o v0 x.1 x.2.1 x.2.2.1 x.2.2.2) ((0 : Int), v1, v2, ([] : List zaK))).bind fun v23 => some (w64 ((v23.1.length : Int) - (v23.2.2.length : Int)), v23.2)
def zdK (o : Ops) : SC := ⟨⟨[(0, (.ptr 0 0)), (1, hI)], [zbY]⟩, 1, [(none, ⟨[(0, hI)], [yzZ, .osl zoD 47]⟩)], fun x => zaY o x.1 x.2.1 x.2.2⟩
theorem zgP : SCok Tryz.prog tabs 68 (zdK o) := zfF (o := o) (η := [(2100003, .join [] [1, 6, 7, 8] [(none, ⟨[(0, (.ptr 0 0)), (5, (.own 1))], [zbY, .osl zoD 47]⟩), (some 2, ⟨[(0, (.ptr 0 0)), (5, (.own 1))], [zbY, .osl zoD 47]⟩)]),
 (200007, .loop [] ⟨[(0, (.ptr 0 0)), (5, (.own 1)), (7, hB), (8, hI)], [zbY, .osl zoD 47]⟩ [1, 4, 6] [(some 2, ⟨[(0, (.ptr 0 0)), (5, (.own 1)), (7, hB)], [zbY, .osl zoD 47]⟩)]),
 (200003, .loop [] ⟨[(0, (.ptr 0 0)), (5, (.own 1)), (6, hI)], [zbY, .osl zoD 47]⟩ [1, 4] [(some 0, ⟨[(0, (.ptr 0 0)), (5, (.own 1))], [zbY, .osl zoD 47]⟩)]),
 (4000009, .sch [(.pu, 0, []), (.pu, 1, []), (.pu, 2, []), (.pu, 3, []), (.pu, 4, []), (.pu, 5, []), (.pu, 6, []), (.pu, 7, []), (.pu, 8, []), (.pu, 9, []), (.mn, 10, [0]), (.pu, 11, []), (.pu, 12, []), (.pu, 13, []), (.pu, 14, []), (.pu, 15, []), (.pu, 16, []), (.pu, 17, []), (.pu, 18, []), (.pu, 19, []), (.pu, 20, []), (.pu, 21, []), (.pu, 22, []), (.pu, 23, []), (.pu, 24, []), (.pu, 25, []), (.pu, 26, []), (.pu, 27, []), (.pu, 28, []), (.mn, 29, [0]), (.pu, 30, []), (.pu, 31, [])])]) (Γ := ⟨[], [(57, (zbT o)), (122, (zgZ o))], false, []⟩) (ctok trivial ⟨zdR, ⟨znS, trivial⟩⟩) Tryz.func68
def zdH (o : Ops) (v0 : zaK) (v5 : (zaK × Bool × znF)) : Option ((Int × Int × znF) ⊕ ((List zaK) × zeA)) :=
 bif decide (v0.2.2.1 > 0) then ((zaH o v0.2.2.1 v5.2.2.1 v5.2.2.2).bind fun v6 => bif decide (v6.1 < 0) then some (.inl ((0 : Int), (133 : Int), v6.2)) else ((zaX o v0.2.2.1 v6.2.1 v6.2.2).bind fun v7 => bif v7.1 then some (.inl ((0 : Int), (133 : Int), v7.2)) else some (.inr (v7.2.1, v7.2.2, v0)))) else some (.inr (v5.2.2.1, v5.2.2.2, v0))
def zgU (o : Ops) (v10 : (List zaK) × zeA) (v11 : (Int × Int × List zaK)) : Option ((Int × Int × Int × List zaK) ⊕ (Int × Int × Int × Int × Bs × Bs × Bs × (List Bs) × Int × Int × Bool × Bool × (List Bs) × Int × Bs × Bs × List zaK)) :=
 bif decide ((v11.2.2.length : Int) ≥ 256) then some (.inl ((0 : Int), (130 : Int), v11.2)) else (bif decide (v11.2.1 ≥ 99999999) then some (.inl ((0 : Int), (130 : Int), v11.2)) else some (.inr (v11.2.1, v10.2.2.1, v10.2.2.2.1, v10.2.2.2.2.1, v10.2.2.2.2.2.1, v10.2.2.2.2.2.2.1, v10.2.2.2.2.2.2.2.1, v10.2.2.2.2.2.2.2.2.1, v10.2.2.2.2.2.2.2.2.2.1, v10.2.2.2.2.2.2.2.2.2.2.1, v10.2.2.2.2.2.2.2.2.2.2.2.1, v10.2.2.2.2.2.2.2.2.2.2.2.2.1, v10.2.2.2.2.2.2.2.2.2.2.2.2.2.1, v10.2.2.2.2.2.2.2.2.2.2.2.2.2.2.1, v10.2.2.2.2.2.2.2.2.2.2.2.2.2.2.2.1, v10.2.2.2.2.2.2.2.2.2.2.2.2.2.2.2.2, v11.2.2)))
def zgO (o : Ops) (v14 : Int × Int × Int × Int × Bs × Bs × Bs × (List Bs) × Int × Int × Bool × Bool × (List Bs) × Int × Bs × Bs × List zaK) (v15 : List Bs) : Option ((Int × Int × Int × Int × Bs × Bs × Bs × (List Bs) × Int × Int × Bool × Bool × (List Bs) × Int × Bs × Bs × List zaK)) :=
 (app ([] : List Bs) v14.2.2.2.2.2.2.2.2.2.2.2.2.1).bind fun v16 => some (v14.1, v14.1, v14.2.2.1, v14.2.2.2.1, v14.2.2.2.2.1, v14.2.2.2.2.2.1, v14.2.2.2.2.2.2.1, v15, v14.2.2.2.2.2.2.2.2.1, v14.2.2.2.2.2.2.2.2.2.1, false, false, v16, v14.2.2.2.2.2.2.2.2.2.2.2.2.2)
def zbQ (o : Ops) (v0 : zaK) (v1 : Int) (v2 : List zaK) (v3 : Int) : Option ((Int × Int × znF)) :=
 (zgI o v0).bind fun v4 => bif (!v4) then some ((0 : Int), (131 : Int), v2, v3) else ((zbB o v0.2.2.2.2.2.2.2.2.2.2.2.2.2.1 v2 v3).bind fun v5 => bif v5.2.1 then some ((0 : Int), (132 : Int), v5.2.2) else ((zdH o v0 v5).bind fun v8 => match v8 with
 | .inl v9 => some v9
 | .inr v10 => ((zaY o v1 v10.1 v10.2.1).bind fun v11 => (zgU o v10 v11).bind fun v12 => match v12 with
 | .inl v13 => some (v13.1, v13.2.1, v13.2.2.2, v13.2.2.1)
 | .inr v14 => ((app ([] : List Bs) v14.2.2.2.2.2.2.2.1).bind fun v15 => (zgO o v14 v15).bind fun v17 => (app ([] : List zaK) v17.2.2.2.2.2.2.2.2.2.2.2.2.2.2.2.2).bind fun v18 => (app v18 ([(v17.2.1, v17.2.2.1, v17.2.2.2.1, v17.2.2.2.2.1, v17.2.2.2.2.2.1, v17.2.2.2.2.2.2.1, v17.2.2.2.2.2.2.2.1, v17.2.2.2.2.2.2.2.2.1, v17.2.2.2.2.2.2.2.2.2.1, v17.2.2.2.2.2.2.2.2.2.2.1, v17.2.2.2.2.2.2.2.2.2.2.2.1, v17.2.2.2.2.2.2.2.2.2.2.2.2.1, v17.2.2.2.2.2.2.2.2.2.2.2.2.2.1, v17.2.2.2.2.2.2.2.2.2.2.2.2.2.2.1, v17.2.2.2.2.2.2.2.2.2.2.2.2.2.2.2.1)] : List zaK)).bind fun v19 => some (v17.2.1, (0 : Int), v19, w64 (v17.1 + 1))))))
def zgK (o : Ops) : SC := ⟨⟨[(0, (.ptr 0 0)), (1, (.h zoD)), (2, hI)], [zbY]⟩, 2, [(none, ⟨[(0, hI), (1, hI)], [zbY]⟩)], fun x => zbQ o x.1 x.2.1 x.2.2.1 x.2.2.2⟩
theorem znJ : SCok Tryz.prog tabs 55 (zgK o) := zfF (o := o) (η := [(2000008, .join [] [2] [(some 1000000, ⟨[(6, hI), (7, hI)], [zbY]⟩), (none, ⟨[(0, (.ptr 0 0)), (4, (.ptr 1 0))], [zbY, zwR]⟩)]),
 (2000011, .join [] [] [(some 1000000, ⟨[(6, hI), (7, hI)], [yzZ, .osl zoD 47]⟩), (none, ⟨[(0, (.ptr 0 0)), (4, (.ptr 1 0))], [xdR, zwR, .osl zoD 47]⟩)]),
 (2000016, .join [] [] [(none, ⟨[(0, (.ptr 0 0)), (4, (.ptr 1 0))], [xdR, zwR, .osl zoD 47]⟩)]),
 (4000016, .sch [(.pu, 0, [3]), (.pu, 2, []), (.pu, 3, []), (.pu, 4, []), (.pu, 5, []), (.pu, 7, [3]), (.la, 8, []), (.mn, 1, []), (.mn, 6, [3]), (.rv, 8, []), (.mn, 9, [3]), (.pu, 10, []), (.pu, 11, []), (.mn, 12, [0])])]) (Γ := ⟨[(93, (zoF o))], [(40, (zdY o)), (115, (zbH o)), (116, (zcW o)), (68, (zdK o))], false, []⟩) (ctok ⟨zuD, trivial⟩ ⟨zgW, ⟨zcL, ⟨zgA, ⟨zgP, trivial⟩⟩⟩⟩) Tryz.func55
def zaG (o : Ops) (v0 : zaK) (v1 : List zaK) (v2 : Int) : Option ((Int × List zaK)) :=
 (zaH o v0.1 v1 v2).bind fun v3 => (app ([] : List zaK) v3.2.1).bind fun v4 => (chk (decide ((0 : Int) ≤ v3.1) && decide (v3.1 < (v4.length : Int)))).bind fun _ => (setL v4 v3.1 v0).bind fun v5 => some (v3.2.2, v5)
def zaR (o : Ops) : SC := ⟨⟨[(0, (.ptr 0 0)), (1, (.h zoD))], [zbY]⟩, 0, [(none, ⟨[], [yzZ, .osl zoD 47]⟩)], fun x => zaG o x.1 x.2.1 x.2.2⟩
theorem zbA : SCok Tryz.prog tabs 119 (zaR o) := zfF (o := o) (η := []) (Γ := ⟨[], [(115, (zbH o))], false, []⟩) (ctok trivial ⟨zcL, trivial⟩) Tryz.func119
def zbE (o : Ops) (v0 : Int) (v1 : List zaK) (v2 : Int) : Option ((Int × znF)) :=
 (zaD o v0 v1 v2).bind fun v3 => bif (!v3.2.1) then some ((131 : Int), v3.2.2) else ((zaG o (v3.1.1, v3.1.2.1, v3.1.2.2.1, v3.1.2.2.2.1, v3.1.2.2.2.2.1, v3.1.2.2.2.2.2.1, v3.1.2.2.2.2.2.2.1, v3.1.2.2.2.2.2.2.2.1, v3.1.2.2.2.2.2.2.2.2.1, true, v3.1.2.2.2.2.2.2.2.2.2.2) v3.2.2.1 v3.2.2.2).bind fun v4 => some ((0 : Int), v4.2, v4.1))
def zdZ (o : Ops) : SC := ⟨⟨[(0, (.ptr 0 0)), (1, hI)], [zbY]⟩, 1, [(none, ⟨[(0, hI)], [zbY]⟩)], fun x => zbE o x.1 x.2.1 x.2.2⟩
theorem zhF : SCok Tryz.prog tabs 62 (zdZ o) := zfF (o := o) (η := []) (Γ := ⟨[], [(56, (zaJ o)), (119, (zaR o))], false, []⟩) (ctok trivial ⟨zaM, ⟨zbA, trivial⟩⟩) Tryz.func62
def zbR (o : Ops) (v0 : Int) (v1 : Int) (v2 : List zaK) (v3 : Int) : Option ((Int × znF)) :=
 (zaD o v0 v2 v3).bind fun v4 => bif (!v4.2.1) then some ((131 : Int), v4.2.2) else (bif v4.1.2.2.2.2.2.2.2.2.2.2.1 then ((zbE o v0 v4.2.2.1 v4.2.2.2).bind fun v5 => some ((134 : Int), v5.2)) else ((zaQ o v0 v1 v4.2.2.1 v4.2.2.2).bind fun v6 => bif (!v6.1) then some ((133 : Int), v6.2) else ((zaG o (v4.1.1, v4.1.2.1, v4.1.2.2.1, v4.1.2.2.2.1, v4.1.2.2.2.2.1, v4.1.2.2.2.2.2.1, v4.1.2.2.2.2.2.2.1, v4.1.2.2.2.2.2.2.2.1, v4.1.2.2.2.2.2.2.2.2.1, v4.1.2.2.2.2.2.2.2.2.2.1, true, v4.1.2.2.2.2.2.2.2.2.2.2.2) v6.2.1 v6.2.2).bind fun v7 => some ((0 : Int), v7.2, v7.1))))
def zgT (o : Ops) : SC := ⟨⟨[(0, (.ptr 0 0)), (1, hI), (2, hI)], [zbY]⟩, 1, [(none, ⟨[(0, hI)], [zbY]⟩)], fun x => zbR o x.1 x.2.1 x.2.2.1 x.2.2.2⟩
theorem znE : SCok Tryz.prog tabs 61 (zgT o) := zfF (o := o) (η := []) (Γ := ⟨[], [(56, (zaJ o)), (62, (zdZ o)), (57, (zbT o)), (119, (zaR o))], false, []⟩) (ctok trivial ⟨zaM, ⟨zhF, ⟨zdR, ⟨zbA, trivial⟩⟩⟩⟩) Tryz.func61
def zdG (o : Ops) (v0 : Bs) (v5 : List zaK) (v6 : Int) (v7 : zaK) : Option ((Bool × (List zaK) × zeA)) :=
 bif (v7.2.2.2.2.1 != ([] : Bs)) then ((app ([99, 58] : Bs) v7.2.2.2.2.1).bind fun v8 => some ((v8 == v0), v5, v6, v7)) else some (false, v5, v6, v7)
def zdI (o : Ops) (v0 : Bs) (v9 : Bool × (List zaK) × zeA) : Option ((Bool × (List zaK) × zeA)) :=
 bif (!v9.2.2.2.2.2.2.2.2.2.2.2.2.1) then (bif (v9.2.2.2.2.2.2.1 == v0) then some (true, v9.2) else some v9) else some (false, v9.2)
def zgN (o : Ops) (v0 : Bs) (v3 : Int) (v4 : Int) (v5 : List zaK) (v6 : Int) : Option ((Int × Int × znF) ⊕ ((Int × znF))) :=
 bif decide (v4 < (v5.length : Int)) then ((idx v5 v4).bind fun v7 => (zdG o v0 v5 v6 v7).bind fun v9 => (zdI o v0 v9).bind fun v10 => bif v10.1 then ((zaG o (v10.2.2.2.1, v10.2.2.2.2.1, v10.2.2.2.2.2.1, v10.2.2.2.2.2.2.1, v10.2.2.2.2.2.2.2.1, v10.2.2.2.2.2.2.2.2.1, v10.2.2.2.2.2.2.2.2.2.1, v10.2.2.2.2.2.2.2.2.2.2.1, v10.2.2.2.2.2.2.2.2.2.2.2.1, true, v10.2.2.2.2.2.2.2.2.2.2.2.2.2) v10.2.1 v10.2.2.1).bind fun v11 => some (.inl (w64 (v3 + 1), w64 (v4 + 1), v11.2, v11.1))) else some (.inl (v3, w64 (v4 + 1), v10.2.1, v10.2.2.1))) else some (.inr (v3, v5, v6))
def zbL (o : Ops) (v0 : Bs) (v1 : List zaK) (v2 : Int) : Option ((Int × znF)) :=
 (iter (fun x => zgN o v0 x.1 x.2.1 x.2.2.1 x.2.2.2) ((0 : Int), (0 : Int), v1, v2)).bind fun v12 => some v12
def zfZ (o : Ops) : SC := ⟨⟨[(0, (.ptr 0 0)), (1, hS)], [zbY]⟩, 1, [(none, ⟨[(0, hI)], [zbY]⟩)], fun x => zbL o x.1 x.2.1 x.2.2⟩
theorem zmJ : SCok Tryz.prog tabs 63 (zfZ o) := zfF (o := o) (η := [(2000007, .join [] [1, 5, 6] [(none, ⟨[(0, (.ptr 0 0)), (7, (.ptr 1 0)), (8, hB)], [zbY, zwR]⟩)]),
 (2300008, .join [] [1, 5, 6] [(none, ⟨[(0, (.ptr 0 0)), (7, (.ptr 1 0)), (46, hB)], [zbY, zwR]⟩)]),
 (200003, .loop [] ⟨[(0, (.ptr 0 0)), (5, hI), (6, hI)], [zbY]⟩ [1, 4] [(some 0, ⟨[(5, hI)], [zbY]⟩)])]) (Γ := ⟨[], [(119, (zaR o))], false, []⟩) (ctok trivial ⟨zbA, trivial⟩) Tryz.func63
def zhC (o : Ops) (v1 : Int) (v4 : (zaK × Bool × znF)) : Option ((Int × znF) ⊕ ((List zaK) × zeA)) :=
 bif (!v4.2.1) then some (.inl ((131 : Int), v4.2.2)) else (bif (v4.1.2.1 != 1) then some (.inl ((131 : Int), v4.2.2)) else (bif decide (v1 < 1) then some (.inl ((131 : Int), v4.2.2)) else (bif decide (v1 > 3) then some (.inl ((131 : Int), v4.2.2)) else some (.inr (v4.2.2.1, v4.2.2.2, v4.1)))))
def zbZ (o : Ops) (v0 : Int) (v1 : Int) (v2 : List zaK) (v3 : Int) : Option ((Int × znF)) :=
 (zaD o v0 v2 v3).bind fun v4 => (zhC o v1 v4).bind fun v5 => match v5 with
 | .inl v6 => some v6
 | .inr v7 => (bif decide (v1 > v7.2.2.2.2.2.2.2.2.2.2.2.2.2.2.1) then ((zaG o (v7.2.2.1, v7.2.2.2.1, v7.2.2.2.2.1, v7.2.2.2.2.2.1, v7.2.2.2.2.2.2.1, v7.2.2.2.2.2.2.2.1, v7.2.2.2.2.2.2.2.2.1, v7.2.2.2.2.2.2.2.2.2.1, v7.2.2.2.2.2.2.2.2.2.2.1, v7.2.2.2.2.2.2.2.2.2.2.2.1, v7.2.2.2.2.2.2.2.2.2.2.2.2.1, v7.2.2.2.2.2.2.2.2.2.2.2.2.2.1, v1, v7.2.2.2.2.2.2.2.2.2.2.2.2.2.2.2) v7.1 v7.2.1).bind fun v8 => some ((0 : Int), v8.2, v8.1)) else some ((0 : Int), v7.1, v7.2.1))
def zgX (o : Ops) : SC := ⟨⟨[(0, (.ptr 0 0)), (1, hI), (2, hI)], [zbY]⟩, 1, [(none, ⟨[(0, hI)], [zbY]⟩)], fun x => zbZ o x.1 x.2.1 x.2.2.1 x.2.2.2⟩
theorem znY : SCok Tryz.prog tabs 65 (zgX o) := zfF (o := o) (η := [(2000004, .join [] [2] [(some 1000000, ⟨[(6, hI)], [zbY]⟩), (none, ⟨[(0, (.ptr 0 0)), (7, (.ptr 1 0))], [zbY, zwR]⟩)])]) (Γ := ⟨[], [(56, (zaJ o)), (119, (zaR o))], false, []⟩) (ctok trivial ⟨zaM, ⟨zbA, trivial⟩⟩) Tryz.func65
def zhB (o : Ops) (v1 : Bs) (v4 : (zaK × Bool × znF)) : Option ((Int × znF) ⊕ ((List zaK) × zeA)) :=
 bif (!v4.2.1) then some (.inl ((131 : Int), v4.2.2)) else (bif decide ((v1.length : Int) > 256) then some (.inl ((131 : Int), v4.2.2)) else some (.inr (v4.2.2.1, v4.2.2.2, v4.1)))
def zbV (o : Ops) (v0 : Int) (v1 : Bs) (v2 : List zaK) (v3 : Int) : Option ((Int × znF)) :=
 (zaD o v0 v2 v3).bind fun v4 => (zhB o v1 v4).bind fun v5 => match v5 with
 | .inl v6 => some v6
 | .inr v7 => ((zaG o (v7.2.2.1, v7.2.2.2.1, v7.2.2.2.2.1, v7.2.2.2.2.2.1, v7.2.2.2.2.2.2.1, v7.2.2.2.2.2.2.2.1, v7.2.2.2.2.2.2.2.2.1, v7.2.2.2.2.2.2.2.2.2.1, v7.2.2.2.2.2.2.2.2.2.2.1, v7.2.2.2.2.2.2.2.2.2.2.2.1, v7.2.2.2.2.2.2.2.2.2.2.2.2.1, v7.2.2.2.2.2.2.2.2.2.2.2.2.2.1, v7.2.2.2.2.2.2.2.2.2.2.2.2.2.2.1, v7.2.2.2.2.2.2.2.2.2.2.2.2.2.2.2.1, v1) v7.1 v7.2.1).bind fun v8 => some ((0 : Int), v8.2, v8.1))
def zhG (o : Ops) : SC := ⟨⟨[(0, (.ptr 0 0)), (1, hI), (2, hS)], [zbY]⟩, 1, [(none, ⟨[(0, hI)], [zbY]⟩)], fun x => zbV o x.1 x.2.1 x.2.2.1 x.2.2.2⟩
theorem zoA : SCok Tryz.prog tabs 67 (zhG o) := zfF (o := o) (η := [(2000004, .join [] [2] [(some 1000000, ⟨[(6, hI)], [zbY]⟩), (none, ⟨[(0, (.ptr 0 0)), (7, (.ptr 1 0))], [zbY, zwR]⟩)])]) (Γ := ⟨[], [(56, (zaJ o)), (119, (zaR o))], false, []⟩) (ctok trivial ⟨zaM, ⟨zbA, trivial⟩⟩) Tryz.func67
noncomputable def zhM (o : Ops) (v9 : Int) (v10 : Int) (v11 : List zaK) (v12 : Int) (v13 : List zeA) (v14 : Int) (v15 : Int) (v16 : Int) (v17 : Bs) (v18 : Bs) (v19 : Bs) (v20 : Int) (v21 : Int) (v22 : Bool) (v23 : Bool) (v24 : Int) (v25 : Bs) (v26 : Bs) (v27 : List Bs) (v28 : List Bs) : Option ((Int × Int × (List zaK) × Int × (List zeA) × Int × Int × Int × Bs × Bs × Bs × Int × Int × Bool × Bool × Int × Bs × Bs × (List Bs) × List Bs) ⊕ ((Int × (List zaK) × Int × (List zeA) × Int × Int × Int × Bs × Bs × Bs × Int × Int × Bool × Bool × Int × Bs × Bs × (List Bs) × List Bs))) :=
 bif decide (v9 < (v27.length : Int)) then ((chk (decide ((0 : Int) ≤ v9) && decide (v9 < (v27.length : Int)))).bind fun _ => (setL v27 v9 ([111, 118, 101, 114] : Bs)).bind fun v29 => some (.inl (w64 (v9 + 1), v10, v11, v12, v13, v14, v15, v16, v17, v18, v19, v20, v21, v22, v23, v24, v25, v26, v29, v28))) else some (.inr (v10, v11, v12, v13, v14, v15, v16, v17, v18, v19, v20, v21, v22, v23, v24, v25, v26, v27, v28))
noncomputable def zhI (o : Ops) (v31 : Int) (v32 : Int) (v33 : List zaK) (v34 : Int) (v35 : List zeA) (v36 : Int) (v37 : Int) (v38 : Int) (v39 : Bs) (v40 : Bs) (v41 : Bs) (v42 : Int) (v43 : Int) (v44 : Bool) (v45 : Bool) (v46 : Int) (v47 : Bs) (v48 : Bs) (v49 : List Bs) (v50 : List Bs) : Option ((Int × Int × (List zaK) × Int × (List zeA) × Int × Int × Int × Bs × Bs × Bs × Int × Int × Bool × Bool × Int × Bs × Bs × (List Bs) × List Bs) ⊕ ((Int × (List zaK) × Int × List zeA))) :=
 bif decide (v31 < (v50.length : Int)) then ((chk (decide ((0 : Int) ≤ v31) && decide (v31 < (v50.length : Int)))).bind fun _ => (setL v50 v31 ([111, 118, 101, 114] : Bs)).bind fun v51 => some (.inl (w64 (v31 + 1), v32, v33, v34, v35, v36, v37, v38, v39, v40, v41, v42, v43, v44, v45, v46, v47, v48, v49, v51))) else some (.inr (v32, v33, v34, v35))
noncomputable def zeS (o : Ops) (v0 : xdL) (v1 : Int) (v2 : List zaK) (v3 : Int) (v4 : List zeA) : Option ((Bool × Int × (List zaK) × Int × List zeA)) :=
 bif (v0.2.1 == 0) then ((app ([] : List Bs) v0.2.2.2.2.2.2.2.2.2.2.2.1).bind fun v5 => (app ([] : List Bs) v0.2.2.2.2.2.2.2.2.2.2.2.2.2.2.2.2.1).bind fun v6 => (zdE o v0.2.2.2.2.2.1 v0.2.2.2.2.2.2.1 v0.2.2.2.2.2.2.2.1 v0.2.2.2.2.2.2.2.2.1 v0.2.2.2.2.2.2.2.2.2.1 v0.2.2.2.2.2.2.2.2.2.2.1 v0.2.2.2.2.2.2.2.2.2.2.2.2.1 v0.2.2.2.2.2.2.2.2.2.2.2.2.2.1 v0.2.2.2.2.2.2.2.2.2.2.2.2.2.2.1 v0.2.2.2.2.2.2.2.2.2.2.2.2.2.2.2.1 v0.2.2.2.2.2.2.2.2.2.2.2.2.2.2.2.2.2.1 v0.2.2.2.2.2.2.2.2.2.2.2.2.2.2.2.2.2.2.1 v0.2.2.2.2.2.2.2.2.2.2.2.2.2.2.2.2.2.2.2 v0.2.2.1 v1 v5 v6 v4).bind fun v7 => (zbQ o v0.2.2.2.2.2 v0.2.2.1 v2 v3).bind fun v8 => (iter (fun x => zhM o x.1 x.2.1 x.2.2.1 x.2.2.2.1 x.2.2.2.2.1 x.2.2.2.2.2.1 x.2.2.2.2.2.2.1 x.2.2.2.2.2.2.2.1 x.2.2.2.2.2.2.2.2.1 x.2.2.2.2.2.2.2.2.2.1 x.2.2.2.2.2.2.2.2.2.2.1 x.2.2.2.2.2.2.2.2.2.2.2.1 x.2.2.2.2.2.2.2.2.2.2.2.2.1 x.2.2.2.2.2.2.2.2.2.2.2.2.2.1 x.2.2.2.2.2.2.2.2.2.2.2.2.2.2.1 x.2.2.2.2.2.2.2.2.2.2.2.2.2.2.2.1 x.2.2.2.2.2.2.2.2.2.2.2.2.2.2.2.2.1 x.2.2.2.2.2.2.2.2.2.2.2.2.2.2.2.2.2.1 x.2.2.2.2.2.2.2.2.2.2.2.2.2.2.2.2.2.2.1 x.2.2.2.2.2.2.2.2.2.2.2.2.2.2.2.2.2.2.2) ((0 : Int), v7.2.2.1, v8.2.2.1, v8.2.2.2, v7.2.2.2.2.2, v0.2.2.2.2.2.1, v0.2.2.2.2.2.2.1, v0.2.2.2.2.2.2.2.1, v0.2.2.2.2.2.2.2.2.1, v0.2.2.2.2.2.2.2.2.2.1, v0.2.2.2.2.2.2.2.2.2.2.1, v0.2.2.2.2.2.2.2.2.2.2.2.2.1, v0.2.2.2.2.2.2.2.2.2.2.2.2.2.1, v0.2.2.2.2.2.2.2.2.2.2.2.2.2.2.1, v0.2.2.2.2.2.2.2.2.2.2.2.2.2.2.2.1, v0.2.2.2.2.2.2.2.2.2.2.2.2.2.2.2.2.2.1, v0.2.2.2.2.2.2.2.2.2.2.2.2.2.2.2.2.2.2.1, v0.2.2.2.2.2.2.2.2.2.2.2.2.2.2.2.2.2.2.2, v7.2.2.2.1, v7.2.2.2.2.1)).bind fun v30 => (iter (fun x => zhI o x.1 x.2.1 x.2.2.1 x.2.2.2.1 x.2.2.2.2.1 x.2.2.2.2.2.1 x.2.2.2.2.2.2.1 x.2.2.2.2.2.2.2.1 x.2.2.2.2.2.2.2.2.1 x.2.2.2.2.2.2.2.2.2.1 x.2.2.2.2.2.2.2.2.2.2.1 x.2.2.2.2.2.2.2.2.2.2.2.1 x.2.2.2.2.2.2.2.2.2.2.2.2.1 x.2.2.2.2.2.2.2.2.2.2.2.2.2.1 x.2.2.2.2.2.2.2.2.2.2.2.2.2.2.1 x.2.2.2.2.2.2.2.2.2.2.2.2.2.2.2.1 x.2.2.2.2.2.2.2.2.2.2.2.2.2.2.2.2.1 x.2.2.2.2.2.2.2.2.2.2.2.2.2.2.2.2.2.1 x.2.2.2.2.2.2.2.2.2.2.2.2.2.2.2.2.2.2.1 x.2.2.2.2.2.2.2.2.2.2.2.2.2.2.2.2.2.2.2) ((0 : Int), v30)).bind fun v52 => bif (v7.1 == v8.1) then some ((v7.2.1 == v8.2.1), v52) else some (false, v52)) else (bif (v0.2.1 == 1) then ((zhO o v0.2.2.1 v1 v4).bind fun v53 => (zaD o v0.2.2.1 v2 v3).bind fun v54 => (zbO o v0.2.2.2.2.1 v53.2.2.1 v53.2.2.2).bind fun v55 => (zbB o v0.2.2.2.2.1 v54.2.2.1 v54.2.2.2).bind fun v56 => bif (v53.2.1 == v54.2.1) then (bif (v55.2.1 == v56.2.1) then ((zcD o v53.1 v54.1).bind fun v57 => bif v57 then ((zcD o v55.1 v56.1).bind fun v58 => bif v58 then ((zaW o v0.2.2.1 v0.2.2.2.1 v55.2.2.1 v55.2.2.2).bind fun v59 => (zaQ o v0.2.2.1 v0.2.2.2.1 v56.2.2.1 v56.2.2.2).bind fun v60 => bif (v59.1 == v60.1) then ((zbN o v0.2.2.1 v59.2.1 v59.2.2).bind fun v61 => (zaS o v0.2.2.1 v60.2.1 v60.2.2).bind fun v62 => (zeB o v61.1 v62.2.2).bind fun v63 => some (v63, v61.2.1, v62.1, v62.2.1, v61.2.2)) else some (false, v59.2.1, v60.2.1, v60.2.2, v59.2.2)) else some (false, v55.2.2.1, v56.2.2.1, v56.2.2.2, v55.2.2.2)) else some (false, v55.2.2.1, v56.2.2.1, v56.2.2.2, v55.2.2.2)) else some (false, v55.2.2.1, v56.2.2.1, v56.2.2.2, v55.2.2.2)) else some (false, v55.2.2.1, v56.2.2.1, v56.2.2.2, v55.2.2.2)) else (bif (v0.2.1 == 2) then ((zfI o v0.2.2.1 v0.2.2.2.1 v1 v4).bind fun v64 => (zbR o v0.2.2.1 v0.2.2.2.1 v2 v3).bind fun v65 => some ((v64.1 == v65.1), v64.2.1, v65.2.1, v65.2.2, v64.2.2)) else (bif (v0.2.1 == 3) then ((zeG o v0.2.2.1 v1 v4).bind fun v66 => (zbE o v0.2.2.1 v2 v3).bind fun v67 => some ((v66.1 == v67.1), v66.2.1, v67.2.1, v67.2.2, v66.2.2)) else (bif (v0.2.1 == 4) then ((zfD o v0.2.2.2.2.1 v1 v4).bind fun v68 => (zbL o v0.2.2.2.2.1 v2 v3).bind fun v69 => some ((v68.1 == v69.1), v68.2.1, v69.2.1, v69.2.2, v68.2.2)) else (bif (v0.2.1 == 5) then ((zgG o v0.2.2.1 v0.2.2.2.1 v1 v4).bind fun v70 => (zbZ o v0.2.2.1 v0.2.2.2.1 v2 v3).bind fun v71 => some ((v70.1 == v71.1), v70.2.1, v71.2.1, v71.2.2, v70.2.2)) else (bif (v0.2.1 == 6) then ((zgF o v0.2.2.1 v0.2.2.2.2.1 v1 v4).bind fun v72 => (zbV o v0.2.2.1 v0.2.2.2.2.1 v2 v3).bind fun v73 => some ((v72.1 == v73.1), v72.2.1, v73.2.1, v73.2.2, v72.2.2)) else (bif (v0.2.1 == 7) then ((zbJ o v0.2.2.1 v1 v4).bind fun v74 => (zaY o v0.2.2.1 v2 v3).bind fun v75 => some ((v74.1 == v75.1), v74.2.1, v75.2.2, v75.2.1, v74.2.2)) else some (true, v1, v2, v3, v4))))))))
noncomputable def zlF (o : Ops) : SC := ⟨⟨[(0, (.ptr 0 0)), (1, (.ptr 1 0)), (2, (.h ydF))], [zvC, zbY, zoN]⟩, 1, [(none, ⟨[(0, hB)], [zvC, zbY, ymS]⟩)], fun x => zeS o x.1 x.2.1 x.2.2.1 x.2.2.2.1 x.2.2.2.2⟩
theorem zrG : SCok Tryz.prog tabs 21 (zlF o) := zfF (o := o) (η := [(200009, .loop [] ⟨[(7, (.ptr 3 0)), (12, hI)], [zvC, zbY, ymS, xbQ, .osl .s 9, .osl .s 9]⟩ [6, 8, 9, 10, 11] [(some 1, ⟨[(7, (.ptr 3 0))], [zvC, zbY, ymS, xbQ, .osl .s 9, .osl .s 9]⟩)]),
 (200013, .loop [] ⟨[(7, (.ptr 3 0)), (13, hI)], [zvC, zbY, ymS, xbQ, .osl .s 9, .osl .s 9]⟩ [6, 8, 9, 10, 11] [(some 3, ⟨[], [zvC, zbY, ymS]⟩)]),
 (4000022, .sch [(.pu, 0, []), (.pu, 1, []), (.pu, 2, []), (.pu, 3, []), (.pu, 4, []), (.pu, 5, []), (.pu, 6, []), (.pu, 7, []), (.pu, 8, []), (.pu, 9, []), (.pu, 10, []), (.mn, 11, []), (.pu, 12, []), (.pu, 13, []), (.pu, 14, []), (.pu, 15, []), (.mn, 16, []), (.pu, 17, []), (.pu, 18, []), (.pu, 19, []), (.pu, 20, []), (.pu, 21, []), (.pu, 22, []), (.pu, 23, []), (.pu, 25, [0, 2]), (.pu, 26, [0, 2]), (.pu, 27, [0, 2]), (.pu, 28, [0, 2]), (.pu, 29, [0, 2]), (.mn, 24, [0, 2]), (.mn, 30, [1]), (.pu, 31, []), (.pu, 32, []), (.pu, 33, []), (.pu, 34, []), (.pu, 35, []), (.pu, 36, []), (.pu, 38, [0, 2]), (.pu, 39, [0, 2]), (.pu, 40, [0, 2]), (.mn, 37, [0, 2]), (.mn, 41, [1]), (.mn, 42, []), (.pu, 43, []), (.pu, 44, [])]),
 (4000024, .sch [(.pu, 0, []), (.pu, 1, []), (.pu, 2, []), (.pu, 3, []), (.pu, 4, []), (.pu, 6, [0, 2]), (.pu, 7, [0, 2]), (.pu, 8, [0, 2]), (.pu, 9, [0, 2]), (.pu, 10, [0, 2]), (.mn, 5, [0, 2]), (.mn, 11, [1]), (.pu, 12, []), (.pu, 13, [])]),
 (4000026, .sch [(.pu, 0, []), (.pu, 1, []), (.pu, 2, []), (.pu, 4, [0, 2]), (.pu, 5, [0, 2]), (.pu, 6, [0, 2]), (.mn, 3, [0, 2]), (.mn, 7, [1]), (.pu, 8, []), (.pu, 9, [])]),
 (4000028, .sch [(.pu, 0, []), (.pu, 1, []), (.pu, 2, []), (.pu, 4, [0, 2]), (.pu, 5, [0, 2]), (.pu, 6, [0, 2]), (.mn, 3, [0, 2]), (.mn, 7, [1]), (.pu, 8, []), (.pu, 9, [])]),
 (4000030, .sch [(.pu, 0, []), (.pu, 1, []), (.pu, 2, []), (.pu, 3, []), (.pu, 4, []), (.pu, 6, [0, 2]), (.pu, 7, [0, 2]), (.pu, 8, [0, 2]), (.pu, 9, [0, 2]), (.pu, 10, [0, 2]), (.mn, 5, [0, 2]), (.mn, 11, [1]), (.pu, 12, []), (.pu, 13, [])]),
 (4000032, .sch [(.pu, 0, []), (.pu, 1, []), (.pu, 2, []), (.pu, 3, []), (.pu, 4, []), (.pu, 6, [0, 2]), (.pu, 7, [0, 2]), (.pu, 8, [0, 2]), (.pu, 9, [0, 2]), (.pu, 10, [0, 2]), (.mn, 5, [0, 2]), (.mn, 11, [1]), (.pu, 12, []), (.pu, 13, [])]),
 (4000034, .sch [(.pu, 0, []), (.pu, 1, []), (.pu, 2, []), (.pu, 4, [0, 2]), (.pu, 5, [0, 2]), (.pu, 6, [0, 2]), (.mn, 3, [0, 2]), (.mn, 7, [1]), (.pu, 8, []), (.pu, 9, [])])]) (Γ := ⟨[(41, (ziC o)), (58, (zkK o))], [(20, (zmF o)), (55, (zgK o)), (52, (zoU o)), (56, (zaJ o)), (36, (zdV o)), (40, (zdY o)), (22, (zdS o)), (57, (zbT o)), (25, (zdW o)), (59, (zbS o)), (60, (zmQ o)), (61, (zgT o)), (24, (zjL o)), (62, (zdZ o)), (26, (zmH o)), (63, (zfZ o)), (64, (znW o)), (65, (zgX o)), (66, (znX o)), (67, (zhG o)), (31, (zdB o)), (68, (zdK o))], false, []⟩) (ctok ⟨zmR, ⟨zqN, trivial⟩⟩ ⟨zrI, ⟨znJ, ⟨zuY, ⟨zaM, ⟨zfR, ⟨zgW, ⟨zfT, ⟨zdR, ⟨zfN, ⟨zdX, ⟨ztA, ⟨znE, ⟨zoH, ⟨zhF, ⟨zrF, ⟨zmJ, ⟨ztI, ⟨znY, ⟨zuG, ⟨zoA, ⟨zeT, ⟨zgP, trivial⟩⟩⟩⟩⟩⟩⟩⟩⟩⟩⟩⟩⟩⟩⟩⟩⟩⟩⟩⟩⟩⟩) Tryz.func21
def zeX (o : Ops) (v0 : Int) (v1 : Int) : Option (Int) :=
 (chk (decide ((0 : Int) < v1))).bind fun _ => bif decide ((Int.tmod v0 v1) < 0) then (some (w64 ((Int.tmod v0 v1) + v1))) else (some (Int.tmod v0 v1))
def zlS (o : Ops) : PC := ⟨[hI, hI], [(.i .i64)], fun x => zeX o x.1 x.2, false⟩
theorem zrS : PCok Tryz.prog tabs 23 (zlS o) := ztH (o := o) (η := []) (Γ := ⟨[], [], false, []⟩) (ctok trivial trivial) Tryz.func23
end
theorem yqB {nx : Int} {es : Es} (h : Ok nx es) (n : Nd) (now : Int) (hl : Lst n) :
  zdE zaB n.1 n.2.1 n.2.2.1 n.2.2.2.1 n.2.2.2.2.1 n.2.2.2.2.2.1 n.2.2.2.2.2.2.2.1 n.2.2.2.2.2.2.2.2.1 n.2.2.2.2.2.2.2.2.2.1 n.2.2.2.2.2.2.2.2.2.2.1 n.2.2.2.2.2.2.2.2.2.2.2.2.1 n.2.2.2.2.2.2.2.2.2.2.2.2.2.1 n.2.2.2.2.2.2.2.2.2.2.2.2.2.2 now nx (zdD n) (nact n) es =
  some ((zkZ n now nx es).1, (zkZ n now nx es).2.1, (zkZ n now nx es).2.2.1, zdD n, nact n, (zkZ n now nx es).2.2.2) := by
 unfold zdE zkZ
 rw [show zgV zaB _ = some (mayB n) from yxL n hl.1, zaA]
 cases hm : mayB n with
 | false => rfl
 | true =>
  simp only [Bool.not_true, cond_false]
  rw [zwC h, zaA]
  cases hf : zpU es n.2.2.2.2.2.2.2.2.2.2.2.2.2.1 with
  | some q => rfl
  | none =>
   simp only [Option.isSome_none, Option.getD_none, cond_false]
   have hj : zeL zaB n.1 n.2.1 n.2.2.1 n.2.2.2.1 n.2.2.2.2.1 n.2.2.2.2.2.1 n.2.2.2.2.2.2.2.1 n.2.2.2.2.2.2.2.2.1 n.2.2.2.2.2.2.2.2.2.1 n.2.2.2.2.2.2.2.2.2.2.1 n.2.2.2.2.2.2.2.2.2.2.2.2.1 n.2.2.2.2.2.2.2.2.2.2.2.2.2.1 n.2.2.2.2.2.2.2.2.2.2.2.2.2.2 (zdD n) (nact n) (zN, false, nx, es) = some (bif zyE es (npar n) then .inl (0, 133, nx, zdD n, nact n, es) else .inr (nx, zdD n, nact n, es, n.1, n.2.1, n.2.2.1, n.2.2.2.1, n.2.2.2.2.1, n.2.2.2.2.2.1, n.2.2.2.2.2.2.2.1, n.2.2.2.2.2.2.2.2.1, n.2.2.2.2.2.2.2.2.2.1, n.2.2.2.2.2.2.2.2.2.2.1, n.2.2.2.2.2.2.2.2.2.2.2.2.1, n.2.2.2.2.2.2.2.2.2.2.2.2.2.1, n.2.2.2.2.2.2.2.2.2.2.2.2.2.2)) := by
    unfold zeL zyE
    simp only []
    by_cases hp : npar n > 0
    ·rw [zcF (p := n.2.2.1 > 0) hp, decide_eq_true hp, yiC h, zaA]
     show (bif (!(mhas keqI es (npar n))) then _ else _) = _
     cases mhas keqI es (npar n) with
     | false => rfl
     | true =>
      simp only [Bool.not_true, cond_false, Bool.true_and, Bool.false_or]
      cases yaB es (npar n) <;> rfl
    ·rw [zcO (p := n.2.2.1 > 0) hp, decide_eq_false hp]
     rfl
   rw [show zeL zaB n.1 n.2.1 n.2.2.1 n.2.2.2.1 n.2.2.2.2.1 n.2.2.2.2.2.1 n.2.2.2.2.2.2.2.1 n.2.2.2.2.2.2.2.2.1 n.2.2.2.2.2.2.2.2.2.1 n.2.2.2.2.2.2.2.2.2.2.1 n.2.2.2.2.2.2.2.2.2.2.2.2.1 n.2.2.2.2.2.2.2.2.2.2.2.2.2.1 n.2.2.2.2.2.2.2.2.2.2.2.2.2.2 _ _ _ = _ from hj, zaA]
   cases zyE es (npar n) with
   | true => rfl
   | false =>
    simp only [cond_false]
    rw [zyI h, zaA]
    unfold zlP
    simp only []
    by_cases hg : (zbU es now).length ≥ 256
    ·rw [zcF (by omega), decide_eq_true hg]
     rfl
    ·rw [zcO (by omega), decide_eq_false hg]
     by_cases hx : nx ≥ 99999999
     ·rw [zcF hx, decide_eq_true hx]
      rfl
     ·rw [zcO hx, decide_eq_false hx]
      have hnx := h.next
      have h1 : n.2.2.2.2.2.2.1.length ≤ 1048576 := hl.1
      have h2 : n.2.2.2.2.2.2.2.2.2.2.2.1.length ≤ 1048576 := hl.2
      simp only [zaA, Bool.or_false, cond_false]
      unfold ztX
      simp only []
      rw [znN (zdD n) (Nat.le_trans h1 (by decide)), zaA, znN (nact n) (Nat.le_trans h2 (by decide)), zaA, ziU (by omega) (by omega)]
      simp only [zaA]
      rw [yfS fun p hp => ((h.pruned now).ids p hp).2.2]
theorem yzA {nx nx' : Int} {es : Es} (h : Ok nx es) (id : Int) : zhO zaB id nx' es = some (zjA keqI es id zN, mhas keqI es id, nx', es) := by
 unfold zhO
 simp only []
 rw [own_ok, zaA]
 cases hh : mhas keqI es id with
 | false => rw [ydG hh]; exact ⟨by decide, by decide⟩
 | true =>
  obtain ⟨n, hn, hp⟩ := zgH hh
  rw [zfC hn]
  exact h.lst hp
def zvV (es : Es) (id now : Int) : Int × Es := match mget keqI es id with
 | none => (131, es)
 | some n => bif zxP n then (134, chI es id zmL) else (bif zuS es id now then (0, chI es id ygK) else (133, es))
theorem yuK {nx nx' : Int} {es : Es} (h : Ok nx es) (id now : Int) : zfI zaB id now nx' es = some ((zvV es id now).1, nx', (zvV es id now).2) := by
 unfold zfI zvV
 cases hh : mhas keqI es id with
 | false => rw [zoL hh]; rfl
 | true =>
  obtain ⟨n, hn, hp⟩ := zgH hh
  rw [hn, zfC hn]
  simp only [Bool.not_true, cond_false]
  cases hs : zxP n with
  | true =>
   rw [show n.2.2.2.2.2.2.2.2.2.2.1 = true from hs]
   simp only [cond_true]
   rw [yjB h hh, zaA]
  | false =>
   rw [show n.2.2.2.2.2.2.2.2.2.2.1 = false from hs]
   simp only [cond_false]
   rw [yiW h, zaA]
   cases zuS es id now with
   | false => rfl
   | true =>
    simp only [Bool.not_true, cond_false, cond_true]
    unfold zjX zhS
    simp only [zaA]
    rw [hh, zoV rfl, zaA, zfC hn, zaA, ← zyU h.rises ygK hn]
def ydU (es : Es) (id l : Int) : Int × Es := match mget keqI es id with
 | none => (131, es)
 | some n => bif (n.2.1 != (1 : Int)) then (131, es) else (bif inB l 1 3 then (0, chI es id (sLev l)) else (131, es))
theorem yzT {nx nx' : Int} {es : Es} (h : Ok nx es) (id l : Int) : zgG zaB id l nx' es = some ((ydU es id l).1, nx', (ydU es id l).2) := by
 unfold zgG ydU
 cases hh : mhas keqI es id with
 | false => rw [zoL hh]; rfl
 | true =>
  obtain ⟨n, hn, hp⟩ := zgH hh
  rw [hn, zfC hn]
  simp only [Bool.not_true, cond_false]
  cases (n.2.1 != (1 : Int)) with
  | true => rfl
  | false =>
   simp only [cond_false]
   rw [xeA, zaA]
   unfold inB
   cases (decide (1 ≤ l) && decide (l ≤ 3)) with
   | false => rfl
   | true =>
    simp only [Bool.not_true, cond_false, cond_true]
    unfold zjP ziE
    simp only [zaA]
    rw [hh, zoV rfl, zaA, zfC hn, zaA, ← zyU h.rises (sLev l) hn]
def ydZ (es : Es) (id : Int) (d : L8) : Int × Es := bif mhas keqI es id && !decide ((d.length : Int) > 256) then (0, chI es id (yuU d)) else (131, es)
theorem yzW {nx nx' : Int} {es : Es} (h : Ok nx es) (id : Int) (d : L8) : zgF zaB id d nx' es = some ((ydZ es id d).1, nx', (ydZ es id d).2) := by
 unfold zgF ydZ
 cases hh : mhas keqI es id with
 | false => rfl
 | true =>
  obtain ⟨n, hn, hp⟩ := zgH hh
  simp only [Bool.not_true, cond_false, Bool.true_and]
  cases decide ((d.length : Int) > 256) with
  | true => rfl
  | false =>
   simp only [Bool.not_false, cond_false, cond_true]
   unfold zjU ziL
   simp only [zaA]
   rw [hh, zoV rfl, zaA, zfC hn, zaA, ← zyU h.rises (yuU d) hn]
theorem Ok.spend {nx : Int} {es : Es} (h : Ok nx es) (id now : Int) : Ok nx (zvV es id now).2 := by
 unfold zvV
 cases mget keqI es id with
 | none => exact h
 | some n =>
  simp only []
  cases zxP n with
  | true => exact h.ch (zpH _)
  | false => cases zuS es id now with
   | true => exact h.ch (yiG _)
   | false => exact h
theorem Ok.lift {nx : Int} {es : Es} (h : Ok nx es) (id l : Int) : Ok nx (ydU es id l).2 := by
 unfold ydU
 cases mget keqI es id with
 | none => exact h
 | some n =>
  simp only []
  cases (n.2.1 != (1 : Int)) with
  | true => exact h
  | false =>
   cases hl : inB l 1 3 with
   | false => exact h
   | true =>
    unfold inB at hl
    simp only [Bool.and_eq_true, decide_eq_true_eq] at hl
    exact h.ch (ytJ _ hl.1 hl.2)
theorem Ok.note {nx : Int} {es : Es} (h : Ok nx es) (id : Int) (d : L8) : Ok nx (ydZ es id d).2 := by
 unfold ydZ
 cases hc : mhas keqI es id && !decide ((d.length : Int) > 256) with
 | false => exact h
 | true =>
  simp only [Bool.and_eq_true, Bool.not_eq_true', decide_eq_false_iff_not] at hc
  exact h.ch (ymL _ (by omega))
theorem ywF {es : Es} (h : zmA es) {q : Int × Nd} (hq : q ∈ es) {P P' : Int × Nd → Bool} (h1 : P q = false) (h2 : P' q = true) (h3 : ∀ p ∈ es, p.1 ≠ q.1 → P' p = P p) : (es.filter P').length = (es.filter P).length + 1 := by
 induction es with
 | nil => cases hq
 | cons p m ih =>
  have hc := List.pairwise_cons.1 h
  rcases List.mem_cons.1 hq with rfl | hq
  ·rw [List.filter_cons_of_pos h2, List.filter_cons_of_neg (by rw [h1]; exact Bool.false_ne_true), List.length_cons]
   rw [List.filter_congr fun p hp => h3 p (List.mem_cons_of_mem _ hp) (by have := hc.1 p hp; omega)]
  ·have e := ih hc.2 hq fun p hp => h3 p (List.mem_cons_of_mem _ hp)
   have hp := h3 p List.mem_cons_self (by have := hc.1 q hq; omega)
   simp only [List.filter_cons, hp]
   split
   ·simp only [List.length_cons, e]
   ·exact e
theorem ytF {es : Es} (h : zmA es) {p q : Int × Nd} (hp : p ∈ es) (hq : q ∈ es) (e : p.1 = q.1) : p = q := by
 have h1 := zfO h (k := p.1) (v := p.2) hp
 rw [e, zfO h (k := q.1) (v := q.2) hq] at h1
 exact Prod.ext e (osi h1).symm
theorem ysG {es : Es} (f : Int × Nd → Nd) (i : Int) (g : Nd → Nd) : chI (chE es f) i g = chE es fun p => if p.1 = i then g (f p) else f p := by
 unfold chI chE
 rw [List.map_map]
 rfl
theorem xeH {es : Es} {f : Int × Nd → Nd} {p : Int × Nd} (h : p ∈ es) : (p.1, f p) ∈ chE es f := List.mem_map.2 ⟨p, h, rfl⟩
def cutC (s : L8) : L8 × Bool := bif (s.take 2 == ([99, 58] : L8)) then (s.drop 2, true) else (s, false)
def yzS (s : L8) (n : Nd) : Bool := n.2.2.2.1 == s || ((cutC s).2 && ((cutC s).1 != ([] : L8) && n.2.2.2.2.1 == (cutC s).1))
def hitB (s : L8) (n : Nd) : Bool := !ybK n && yzS s n
theorem xcL (s : L8) : zeQ zaB s ([99, 58] : L8) = some (cutC s) := by
 unfold zeQ zcV zcX cutC
 simp only [List.length_cons, List.length_nil]
 by_cases h : (s.length : Int) ≥ 2
 ·rw [zcF (by exact h), yiY (n := 2) (by omega), zaA, zaA]
  cases s.take 2 == ([99, 58] : L8) with
  | false => rfl
  | true =>
   simp only [Bool.not_true, cond_false, cond_true]
   rw [yhO (n := 2) (by omega)]
   rfl
 ·rw [zcO (by exact h), zaA]
  have e : (s.take 2 == ([99, 58] : L8)) = false := by
   cases hb : s.take 2 == ([99, 58] : L8) with
   | false => rfl
   | true =>
    have := congrArg List.length (beq_iff_eq.1 hb)
    simp at this
    omega
  rw [e]
  rfl
def zsG (es : Es) (s : L8) : Es := chE es fun p => if hitB s p.2 = true then zmL p.2 else p.2
theorem ysH {nx : Int} {es : Es} (h : Ok nx es) (s : L8) : zfD zaB s nx es = some (((es.filter fun p => hitB s p.2).length : Int), nx, zsG es s) := by
 have hlen := h.len
 have hle : ∀ P : Int × Nd → Bool, (es.filter P).length ≤ es.length := fun P => List.length_filter_le _ _
 unfold zfD
 rw [xcL, zaA]
 suffices hA : rngA (fun x => zlX zaB s (cutC s) x.1 x.2.1 x.2.2.1 x.2.2.2) ((0 : Int), nx, es, List.map Prod.fst es) = some (((es.filter fun p => hitB s p.2).length : Int), nx, zsG es s) by
  rw [hA, zaA]
 refine zvX (fun x => ∃ left : List Int, x = (((es.filter fun p => !left.contains p.1 && hitB s p.2).length : Int), nx, chE es fun p => if (!left.contains p.1 && hitB s p.2) = true then zmL p.2 else p.2, left)) (fun x => x.2.2.1) (fun x => x.2.2.2) (hf := fun x => rfl) ?_ ?_ ?_
 ·rintro _ ⟨left, rfl⟩ hn
  have e : ∀ p ∈ es, (!left.contains p.1 && hitB s p.2) = hitB s p.2 := fun p hp => by
   have h1 : p.1 ∉ left := by
    have hx := xeH (f := fun p => if (!left.contains p.1 && hitB s p.2) = true then zmL p.2 else p.2) hp
    have h0 := hn _ hx
    exact h0
   have h2 : left.contains p.1 = false := by simpa using h1
   rw [h2]; rfl
  show some (Sum.inr _) = _
  rw [List.filter_congr e]
  have e2 : (chE es fun p => if (!left.contains p.1 && hitB s p.2) = true then zmL p.2 else p.2) = zsG es s := zqI fun p hp => by rw [e p hp]
  simp only [e2]
 ·rintro _ p ⟨left, rfl⟩ hp hl
  simp only [] at hp hl
  have hK : yiT es fun p => if (!left.contains p.1 && hitB s p.2) = true then zmL p.2 else p.2 := zpH _
  have hO := h.ch hK
  obtain ⟨q, hq, rfl⟩ := zxE hp
  simp only [] at hl
  have hc : left.contains q.1 = true := by simpa using hl
  have hg := zfO hO.rises hp
  have hb : (!left.contains q.1 && hitB s q.2) = false := by rw [hc]; rfl
  simp only [hb, Bool.false_eq_true, if_false] at hg hp ⊢
  rw [hg, zaA]
  have hj : ∀ es', zhQ zaB s (cutC s) nx es' left q q.2 = some (hitB s q.2, nx, es', rngD keqI left q.1) := fun es' => by
   unfold zhQ hitB yzS ybK
   cases q.2.2.2.2.2.2.2.2.2.2.1 <;> cases (q.2.2.2.2.1 == s) <;> cases (cutC s).2 <;> cases ((cutC s).1 != ([] : L8)) <;> rfl
  rw [hj, zaA]
  have hcon : ∀ p ∈ es, p.1 ≠ q.1 → (!(rngD keqI left q.1).contains p.1) = !left.contains p.1 := fun p _ hne => by
   congr 1
   rw [Bool.eq_iff_iff]
   simp only [List.contains_iff_mem, zwG]
   exact ⟨fun h => h.1, fun h => ⟨h, hne⟩⟩
  have hq2 : (rngD keqI left q.1).contains q.1 = false := by
   cases hb : (rngD keqI left q.1).contains q.1 with
   | false => rfl
   | true => exact absurd rfl (zwG.1 (List.contains_iff_mem.1 hb)).2
  cases hh : hitB s q.2 with
  | true =>
   refine .inl ⟨_, ?_, ⟨rngD keqI left q.1, rfl⟩, rfl⟩
   simp only [cond_true]
   rw [yjB hO (ziV.2 ⟨_, hp⟩), zaA]
   have hcnt := ywF h.rises hq (P := fun p => !left.contains p.1 && hitB s p.2) (P' := fun p => !(rngD keqI left q.1).contains p.1 && hitB s p.2) hb (by simp only [hq2, hh]; rfl) fun p hp hne => by simp only [hcon p hp hne]
   rw [hcnt]
   have := hle fun p => !left.contains p.1 && hitB s p.2
   rw [ziU (by omega) (by omega), ysG]
   have e3 : (chE es fun p => if p.1 = q.1 then zmL (if (!left.contains p.1 && hitB s p.2) = true then zmL p.2 else p.2) else (if (!left.contains p.1 && hitB s p.2) = true then zmL p.2 else p.2)) = chE es fun p => if (!(rngD keqI left q.1).contains p.1 && hitB s p.2) = true then zmL p.2 else p.2 := by
    refine zqI fun p hp2 => ?_
    by_cases hne : p.1 = q.1
    ·obtain rfl := ytF h.rises hp2 hq hne
     rw [if_pos rfl, hb, hq2, hh]
     rfl
    ·rw [if_neg hne, hcon p hp2 hne]
   rw [e3]
   rfl
  | false =>
   refine .inl ⟨_, ?_, ⟨rngD keqI left q.1, rfl⟩, rfl⟩
   simp only [cond_false]
   have e4 : ∀ p ∈ es, (!left.contains p.1 && hitB s p.2) = (!(rngD keqI left q.1).contains p.1 && hitB s p.2) := fun p hp2 => by
    by_cases hne : p.1 = q.1
    ·obtain rfl := ytF h.rises hp2 hq hne
     rw [hh, Bool.and_false, Bool.and_false]
    ·rw [hcon p hp2 hne]
   rw [List.filter_congr e4]
   have e5 : (chE es fun p => if (!left.contains p.1 && hitB s p.2) = true then zmL p.2 else p.2) = chE es fun p => if (!(rngD keqI left q.1).contains p.1 && hitB s p.2) = true then zmL p.2 else p.2 := zqI fun p hp2 => by rw [e4 p hp2]
   rw [e5]
 ·have e : ∀ p ∈ es, (!(List.map Prod.fst es).contains p.1 && hitB s p.2) = false := fun p hp => by
   have : (List.map Prod.fst es).contains p.1 = true := List.contains_iff_mem.2 (List.mem_map.2 ⟨p, hp, rfl⟩)
   rw [this]; rfl
  refine ⟨List.map Prod.fst es, ?_⟩
  have e1 : (es.filter fun p => !(List.map Prod.fst es).contains p.1 && hitB s p.2) = [] := List.filter_eq_nil_iff.2 fun p hp => by rw [e p hp]; exact Bool.false_ne_true
  have e2 : (chE es fun p => if (!(List.map Prod.fst es).contains p.1 && hitB s p.2) = true then zmL p.2 else p.2) = es := by
   refine Eq.trans (List.map_congr_left fun p hp => ?_) (List.map_id es)
   show (p.1, if (!(List.map Prod.fst es).contains p.1 && hitB s p.2) = true then zmL p.2 else p.2) = p
   rw [e p hp]
   rfl
  rw [e1, e2]
  rfl
theorem Ok.killed {nx : Int} {es : Es} (h : Ok nx es) (s : L8) : Ok nx (zsG es s) := h.ch (zpH _)
section
theorem zbK {k : Nat} (h : k < 1099511627776) : w64 ((k : Int) + 1) = ((k + 1 : Nat) : Int) := by rw [ziU (by omega) (by omega)]; omega
def NdOk (n : Nd) : Prop := n.2.2.2.1.length ≤ 1048576 ∧ n.2.2.2.2.1.length ≤ 1048576 ∧ n.2.2.2.2.2.1.length ≤ 1048576 ∧ n.2.2.2.2.2.2.1.length ≤ 1048576 ∧ (∀ s ∈ n.2.2.2.2.2.2.1, s.length ≤ 1048576) ∧ n.2.2.2.2.2.2.2.2.2.2.2.1.length ≤ 1048576 ∧ ∀ s ∈ n.2.2.2.2.2.2.2.2.2.2.2.1, s.length ≤ 1048576
variable {L : List Nd} {nx : Int}
theorem at_t (hl : L.length ≤ 256) (id : Int) : T (zaH zaB id L nx) fun r => r.2 = (L, nx) ∧ ((r.1 = -1 ∧ ∀ n ∈ L, n.1 ≠ id) ∨ ∃ (k : Nat) (hk : k < L.length), r.1 = (k : Int) ∧ L[k].1 = id) := by
 unfold zaH
 refine T.bind (Q := fun r => match r with
  | .inl v => v.2 = (L, nx) ∧ ∃ (k : Nat) (hk : k < L.length), v.1 = (k : Int) ∧ L[k].1 = id
  | .inr v => v = (L, nx) ∧ ∀ n ∈ L, n.1 ≠ id) (T.iter (fun x => x.2 = (L, nx) ∧ 0 ≤ x.1 ∧ x.1 ≤ (L.length : Int) ∧ ∀ n ∈ L.take x.1.toNat, n.1 ≠ id) (fun x => L.length - x.1.toNat) _ (fun x hx => ?_) ⟨rfl, Int.le_refl _, by simp, by simp⟩ (by simp; omega)) fun r hr => ?_
 ·obtain ⟨i, v⟩ := x
  obtain ⟨rfl, h8, h9, h10⟩ := hx
  simp only at h8 h9 h10
  obtain ⟨k, rfl⟩ : ∃ k : Nat, i = k := ⟨i.toNat, by omega⟩
  rw [Int.toNat_natCast] at h10
  unfold ziS
  simp only []
  refine T.dif (fun h2 => ?_) fun h2 => T.ok ⟨rfl, ?_⟩
  ·have hk : k < L.length := by omega
   rw [zbP rfl hk, zaA]
   refine T.bif (fun he => T.ok ⟨rfl, k, hk, rfl, beq_iff_eq.1 he⟩) fun he => T.ok ⟨⟨rfl, ?_, ?_, ?_⟩, ?_⟩
   ·simp only []; rw [zbK (by omega)]; omega
   ·simp only []; rw [zbK (by omega)]; omega
   ·simp only []
    rw [zbK (by omega), Int.toNat_natCast, List.take_succ_eq_append_getElem hk]
    intro n hn
    rcases List.mem_append.1 hn with hn | hn
    ·exact h10 n hn
    ·rw [List.mem_singleton] at hn
     subst hn
     intro e
     rw [beq_iff_eq.2 e] at he
     cases he
   ·simp only []; rw [zbK (by omega)]; omega
  ·rw [List.take_of_length_le (by omega)] at h10
   exact h10
 ·cases r with
  | inl v => exact T.ok ⟨hr.1, .inr hr.2⟩
  | inr v => exact T.ok ⟨hr.1, .inl ⟨rfl, hr.2⟩⟩
end
section
variable {L : List Nd} {nx : Int}
theorem yxN {α : Type} {l : List α} {i : Int} {x : α} (h0 : 0 ≤ i) (h : i < (l.length : Int)) : T (setL l i x) fun r => ∃ k : Nat, r = l.set k x := by
 obtain ⟨k, rfl⟩ : ∃ k : Nat, i = k := ⟨i.toNat, by omega⟩
 unfold setL
 rw [decide_eq_true (show (0 : Int) ≤ (k : Int) by omega), decide_eq_true h]
 exact ⟨_, rfl, k, by simp⟩
end
end Go.Proofs.YtebbcofojchkpaaGreatDoor.Am
