/- Forests: what is pruned: plain laws. Forests: what is planted: plain laws. Calls on forests whose answers the document fixes: plain law, and that the code does so. Conditions: as each theorem says. -/
import Derived.Test.YtebbcofojchkpaaGreatDoorQkJ
namespace Go.Proofs.YtebbcofojchkpaaGreatDoor.Am
open Go Go.RowKit
section
variable {γ : Type}
theorem ylK (j : Int) (v : γ) (k : Int) : ∀ (m : List (Int × γ)), mhas keqI (mins kltI m j v) k = (keqI j k || mhas keqI m k)
 | [] => rfl
 | (k', v') :: m => by
  unfold mins
  cases kltI k' j with
  | true =>
   simp only [cond_true, mhas, ylK j v k m]
   cases keqI k' k <;> cases keqI j k <;> rfl
  | false => rfl
theorem yvN (m : List (Int × γ)) (j : Int) (v : γ) (k : Int) : mhas keqI (mset keqI kltI m j v) k = (keqI j k || mhas keqI m k) := by
 unfold mset
 cases hj : mhas keqI m j with
 | true =>
  simp only [cond_true]
  rw [yoT (ybA m j v)]
  cases hk : keqI j k with
  | true => rw [← zdO.1 hk, hj]; rfl
  | false => rfl
 | false => exact ylK j v k m
theorem yhO : ∀ {l m : List (Int × Unit)}, zpZ l → zpZ m → (∀ k, mhas keqI l k = mhas keqI m k) → l = m
 | [], [], _, _, _ => rfl
 | [], (k, u) :: m, _, _, h => by
  have := h k
  simp only [mhas, zdO.2, Bool.true_or] at this
  cases this
 | (k, u) :: l, [], _, _, h => by
  have := h k
  simp only [mhas, zdO.2, Bool.true_or] at this
  cases this
 | (k, ()) :: l, (j, ()) :: m, hl, hm, h => by
  have cl := List.pairwise_cons.1 hl
  have cm := List.pairwise_cons.1 hm
  have e : k = j := by
   have h1 := h k
   have h2 := h j
   simp only [mhas, zdO.2, Bool.true_or] at h1 h2
   have h1 := h1.symm
   rw [Bool.or_eq_true, zdO, zkX] at h1 h2
   rcases h1 with h1 | ⟨_, h1⟩
   ·exact h1.symm
   rcases h2 with h2 | ⟨_, h2⟩
   ·exact h2
   have a := cl.1 _ h2
   have b := cm.1 _ h1
   simp only at a b
   omega
  subst e
  congr 1
  refine yhO cl.2 cm.2 fun i => ?_
  have hi := h i
  simp only [mhas] at hi
  by_cases e : k = i
  ·subst e
   have n1 : mhas keqI l k = false := by
    cases hb : mhas keqI l k with
    | false => rfl
    | true =>
     obtain ⟨v, hv⟩ := zkX.1 hb
     have := cl.1 _ hv
     simp only at this
     omega
   have n2 : mhas keqI m k = false := by
    cases hb : mhas keqI m k with
    | false => rfl
    | true =>
     obtain ⟨v, hv⟩ := zkX.1 hb
     have := cm.1 _ hv
     simp only at this
     omega
   rw [n1, n2]
  ·rw [ymD e] at hi
   exact hi
theorem ycB : ∀ {es : List (Int × γ)}, zpZ es → ∀ (k : Int), mdel keqI es k = es.filter fun p => !keqI p.1 k
 | [], _, _ => rfl
 | (k', v) :: m, h, k => by
  have hc := List.pairwise_cons.1 h
  unfold mdel
  cases hk : keqI k' k with
  | true =>
   rw [List.filter_cons_of_neg (by simp [hk])]
   simp only [cond_true]
   refine (List.filter_eq_self.2 fun p hp => ?_).symm
   have := hc.1 p hp
   have e := zdO.1 hk
   simp only at this
   rw [ymD (by omega)]
   rfl
  | false =>
   rw [List.filter_cons_of_pos (by simp [hk])]
   simp only [cond_false, ycB hc.2 k]
end
theorem yqN {α : Type} {l : List α} {p q : α → Bool} (h : ∀ x ∈ l, p x = q x) : l.any p = l.any q := by
 induction l with
 | nil => rfl
 | cons x l ih => rw [List.any_cons, List.any_cons, h x List.mem_cons_self, ih fun y hy => h y (List.mem_cons_of_mem _ hy)]
def zyR (m : List (Int × Unit)) (l : List Int) : List (Int × Unit) := l.foldl (fun m j => mset keqI kltI m j ()) m
theorem ydE (k : Int) : ∀ (l : List Int) (m : List (Int × Unit)), mhas keqI (zyR m l) k = (mhas keqI m k || l.contains k)
 | [], m => by simp [zyR]
 | j :: l, m => by
  show mhas keqI (zyR (mset keqI kltI m j ()) l) k = _
  rw [ydE k l, yvN]
  have : (j :: l).contains k = (keqI j k || l.contains k) := by
   rw [List.contains_cons]
   congr 1
   unfold keqI
   rw [Bool.eq_iff_iff, beq_iff_eq, decide_eq_true_iff]
   exact eq_comm
  rw [this]
  cases keqI j k <;> cases mhas keqI m k <;> rfl
theorem zyU : ∀ (l : List Int) {m : List (Int × Unit)}, zpZ m → zpZ (zyR m l)
 | [], _, h => h
 | j :: l, m, h => zyU l (m := mset keqI kltI m j ()) (ymT h)
theorem yoY {es : Es} : ∀ (f : Nat) (i k : Int), k ∈ pth es f i → mhas keqI es k = true
 | 0, _, _, h => by cases h
 | f + 1, i, k, h => by
  rw [pth_s] at h
  cases hm : mget keqI es i with
  | none => rw [hm] at h; cases h
  | some n =>
   rw [hm] at h
   rcases List.mem_cons.1 h with rfl | h
   ·exact yyT hm
   ·exact yoY f _ k h
def yfF (es : Es) (now k : Int) : Bool := es.any fun p => yaY es p.1 now && (zwB es p.1).contains k
def zfH (es : Es) (now : Int) : Es := es.filter fun p => yfF es now p.1
theorem ypU {es : Es} (h : zpZ es) (nd : List (Int × Unit)) : zkZ zaB es nd = some (es.filter fun p => mhas keqI nd p.1, nd) := by
 unfold zkZ
 suffices hA : rngA (fun x => zrR zaB x.1 x.2.1 x.2.2) (es, nd, List.map Prod.fst es) = some (es.filter fun p => mhas keqI nd p.1, nd) by
  rw [hA, zaA]
 refine zxH (fun x => ∃ left : List Int, x = (es.filter fun p => left.contains p.1 || mhas keqI nd p.1, nd, left)) (fun x => x.1) (fun x => x.2.2) (hf := fun x => rfl) ?_ ?_ ?_
 ·rintro _ ⟨left, rfl⟩ hn
  have e : (es.filter fun p => left.contains p.1 || mhas keqI nd p.1) = es.filter fun p => mhas keqI nd p.1 := List.filter_congr fun p hp => by
   cases hc : left.contains p.1 with
   | false => rfl
   | true =>
    have h0 := hn p (List.mem_filter.2 ⟨hp, by simp only [hc]; rfl⟩)
    exact absurd (List.contains_iff_mem.1 hc) h0
  show some (Sum.inr _) = _
  simp only [e]
 ·rintro _ p ⟨left, rfl⟩ hp hl
  simp only [] at hp hl
  have hr : zpZ (es.filter fun p => left.contains p.1 || mhas keqI nd p.1) := h.sublist List.filter_sublist
  refine .inl ?_
  simp only []
  rw [zlP hr (k := p.1) (v := p.2) hp, zaA]
  unfold ziK
  simp only [zaA]
  have hD : ∀ j, (rngD keqI left p.1).contains j = (left.contains j && !keqI j p.1) := fun j => by
   rw [Bool.eq_iff_iff, Bool.and_eq_true, List.contains_iff_mem, zxK, List.contains_iff_mem, Bool.not_eq_true', ← Bool.not_eq_true, zdO]
  cases hh : mhas keqI nd p.1 with
  | true =>
   have e : (es.filter fun q => (rngD keqI left p.1).contains q.1 || mhas keqI nd q.1) = es.filter fun q => left.contains q.1 || mhas keqI nd q.1 := List.filter_congr fun q _ => by
    rw [hD]
    cases hk : keqI q.1 p.1 with
    | false => rw [Bool.not_false, Bool.and_true]
    | true => rw [zdO.1 hk, hh, Bool.or_true, Bool.or_true]
   exact ⟨_, rfl, ⟨rngD keqI left p.1, by rw [e]⟩, rfl⟩
  | false =>
   have e : mdel keqI (es.filter fun p => left.contains p.1 || mhas keqI nd p.1) p.1 = es.filter fun q => (rngD keqI left p.1).contains q.1 || mhas keqI nd q.1 := by
    rw [ycB hr, List.filter_filter]
    refine List.filter_congr fun q _ => ?_
    rw [hD]
    cases hk : keqI q.1 p.1 with
    | false => simp
    | true => rw [zdO.1 hk, hh]; simp
   exact ⟨_, rfl, ⟨rngD keqI left p.1, by rw [e]⟩, rfl⟩
 ·refine ⟨List.map Prod.fst es, ?_⟩
  have e : (es.filter fun p => (List.map Prod.fst es).contains p.1 || mhas keqI nd p.1) = es := List.filter_eq_self.2 fun p hp => by
   have : (List.map Prod.fst es).contains p.1 = true := List.contains_iff_mem.2 (List.mem_map.2 ⟨p, hp, rfl⟩)
   rw [this]; rfl
  rw [e]
theorem zvS {nx nx' : Int} {es : Es} (h : Ok nx es) (now : Int) : zaY zaB now nx' es = some ((es.length : Int) - ((zfH es now).length : Int), nx', zfH es now) := by
 have hlen := h.len
 have hle : (zfH es now).length ≤ es.length := List.length_filter_le _ _
 have hcan : ∀ k, mhas keqI ((zfH es now).map fun p => (p.1, ())) k = yfF es now k := fun k => by
  rw [Bool.eq_iff_iff, zkX]
  unfold zfH
  constructor
  ·rintro ⟨_, hv⟩
   obtain ⟨p, hp, e⟩ := List.mem_map.1 hv
   obtain ⟨hp, hq⟩ := List.mem_filter.1 hp
   cases e
   exact hq
  ·intro hk
   have hk' := hk
   unfold yfF at hk
   obtain ⟨p, hp, hq⟩ := List.any_eq_true.1 hk
   rw [Bool.and_eq_true, List.contains_iff_mem] at hq
   obtain ⟨n, hn⟩ := zkX.1 (yoY _ _ _ hq.2)
   exact ⟨(), List.mem_map.2 ⟨(k, n), List.mem_filter.2 ⟨hn, hk'⟩, rfl⟩⟩
 have hcr : zpZ ((zfH es now).map fun p => (p.1, ())) := by
  have h1 : zpZ (zfH es now) := h.rises.sublist List.filter_sublist
  unfold zpZ
  rw [List.pairwise_map]
  exact h1
 unfold zaY
 suffices hA : rngA (fun x => zoI zaB now x.1 x.2.1 x.2.2.1 x.2.2.2) (nx', es, List.map Prod.fst es, ([] : List (Int × Unit))) = some (nx', es, (zfH es now).map fun p => (p.1, ())) by
  rw [hA, zaA, ypU h.rises, zaA]
  have e : (es.filter fun p => mhas keqI ((zfH es now).map fun p => (p.1, ())) p.1) = zfH es now := by
   show _ = es.filter _
   refine List.filter_congr fun p _ => ?_
   rw [hcan]
  simp only [e]
  rw [zlK (by omega) (by omega)]
 refine zxH (fun x => ∃ (left : List Int) (nd : List (Int × Unit)), x = (nx', es, left, nd) ∧ zpZ nd ∧ ∀ k, mhas keqI nd k = es.any fun p => !left.contains p.1 && (yaY es p.1 now && (zwB es p.1).contains k)) (fun x => x.2.1) (fun x => x.2.2.1) (hf := fun x => rfl) ?_ ?_ ?_
 ·rintro _ ⟨left, nd, rfl, hr, hk⟩ hn
  simp only [] at hn
  have e : nd = (zfH es now).map fun p => (p.1, ()) := yhO hr hcr fun k => by
   rw [hk, hcan]
   unfold yfF
   refine yqN fun p hp => ?_
   have : left.contains p.1 = false := by
    cases hc : left.contains p.1 with
    | false => rfl
    | true => exact absurd (List.contains_iff_mem.1 hc) (hn p hp)
   rw [this]; rfl
  rw [e]
 ·rintro _ p ⟨left, nd, rfl, hr, hk⟩ hp hl
  simp only [] at hp hl
  refine .inl ?_
  simp only []
  rw [zlP h.rises (k := p.1) (v := p.2) hp, zaA, yfP h, zaA]
  have hD : ∀ j, (rngD keqI left p.1).contains j = (left.contains j && !keqI j p.1) := fun j => by
   rw [Bool.eq_iff_iff, Bool.and_eq_true, List.contains_iff_mem, zxK, List.contains_iff_mem, Bool.not_eq_true', ← Bool.not_eq_true, zdO]
  have hc : left.contains p.1 = true := List.contains_iff_mem.2 hl
  have hsplit : ∀ k, (es.any fun q => !(rngD keqI left p.1).contains q.1 && (yaY es q.1 now && (zwB es q.1).contains k)) = ((es.any fun q => !left.contains q.1 && (yaY es q.1 now && (zwB es q.1).contains k)) || (yaY es p.1 now && (zwB es p.1).contains k)) := fun k => by
   rw [Bool.eq_iff_iff, Bool.or_eq_true, List.any_eq_true, List.any_eq_true]
   constructor
   ·rintro ⟨q, hq, h2⟩
    rw [hD] at h2
    by_cases e : q.1 = p.1
    ·right
     rw [e] at h2
     exact (Bool.and_eq_true _ _ ▸ h2).2
    ·left
     refine ⟨q, hq, ?_⟩
     rw [ymD e] at h2
     simpa using h2
   ·rintro (⟨q, hq, h2⟩ | h2)
    ·refine ⟨q, hq, ?_⟩
     rw [hD]
     cases hb : left.contains q.1 with
     | true => rw [hb] at h2; cases h2
     | false => rw [hb] at h2; exact h2
    ·refine ⟨p, hp, ?_⟩
     rw [hD, zdO.2 rfl, h2]
     simp
  cases hv : yaY es p.1 now with
  | false =>
   refine ⟨_, rfl, ⟨rngD keqI left p.1, nd, rfl, hr, fun k => ?_⟩, rfl⟩
   rw [hsplit, hk, hv]
   simp
  | true =>
   simp only [Bool.not_true, cond_false]
   rw [yeN h, zaA]
   have hpl := zxD h p.1
   have hI : iter (fun x => zfV zaB (zwB es p.1, nx', es) x.1 x.2.1 x.2.2.1 x.2.2.2.1 x.2.2.2.2) ((0 : Int), nx', es, rngD keqI left p.1, nd) = some (nx', es, rngD keqI left p.1, zyR nd (zwB es p.1)) := by
    refine zrZ (fun k => ((k : Int), nx', es, rngD keqI left p.1, zyR nd ((zwB es p.1).take k))) (zwB es p.1).length (by omega) _ (fun k hk2 => ?_) ?_
    ·unfold zfV
     simp only []
     rw [zmD (by omega), zlL rfl hk2, zaA, zlK (by omega) (by omega), List.take_succ_eq_append_getElem hk2]
     unfold zyR
     rw [List.foldl_append]
     rfl
    ·unfold zfV
     simp only []
     rw [zkB (by omega), List.take_of_length_le (Nat.le_refl _)]
   rw [show iter _ ((0 : Int), nx', es, rngD keqI left p.1, nd) = _ from hI, zaA]
   refine ⟨_, rfl, ⟨rngD keqI left p.1, zyR nd (zwB es p.1), rfl, zyU _ hr, fun k => ?_⟩, rfl⟩
   rw [ydE, hsplit, hk, hv, Bool.true_and]
 ·refine ⟨List.map Prod.fst es, [], rfl, List.Pairwise.nil, fun k => ?_⟩
  refine Eq.symm ?_
  show _ = false
  rw [List.any_eq_false]
  intro p hp
  have : (List.map Prod.fst es).contains p.1 = true := List.contains_iff_mem.2 (List.mem_map.2 ⟨p, hp, rfl⟩)
  rw [this]
  simp
theorem Ok.filter {nx : Int} {es : Es} (h : Ok nx es) (q : Int × Nd → Bool) : Ok nx (es.filter q) where
 rises := h.rises.sublist List.filter_sublist
 ids p hp := h.ids p (List.mem_filter.1 hp).1
 par p hp := h.par p (List.mem_filter.1 hp).1
 may p hp := h.may p (List.mem_filter.1 hp).1
 uniq p hp q hq := h.uniq p (List.mem_filter.1 hp).1 q (List.mem_filter.1 hq).1
 next := h.next
 len := Nat.le_trans (List.length_filter_le _ _) h.len
theorem Ok.pruned {nx : Int} {es : Es} (h : Ok nx es) (now : Int) : Ok nx (zfH es now) := h.filter _
abbrev sNew (i : Int) (n : Nd) : Nd := (i, n.2.1, n.2.2.1, n.2.2.2.1, n.2.2.2.2.1, n.2.2.2.2.2.1, n.2.2.2.2.2.2.1, n.2.2.2.2.2.2.2.1, n.2.2.2.2.2.2.2.2.1, false, false, n.2.2.2.2.2.2.2.2.2.2.2.1, n.2.2.2.2.2.2.2.2.2.2.2.2.1, n.2.2.2.2.2.2.2.2.2.2.2.2.2.1, n.2.2.2.2.2.2.2.2.2.2.2.2.2.2)
def zyY (es : Es) (par : Int) : Bool := decide (par > 0) && (!mhas keqI es par || ynF es par)
def zpK (n : Nd) (now nx : Int) (es : Es) : Int × Int × Int × Es :=
 bif !mayB n then (0, 131, nx, es) else
 bif (zvQ es (nsec n)).isSome then (0, 132, nx, es) else
 bif zyY es (npar n) then (0, 133, nx, es) else
 bif decide ((zfH es now).length ≥ 256) || decide (nx ≥ 99999999) then (0, 130, nx, zfH es now) else
 (nx, 0, nx + 1, zfH es now ++ [(nx, sNew nx n)])
theorem Ok.plant {nx : Int} {es : Es} (h : Ok nx es) (n : Nd) (now : Int) : Ok (zpK n now nx es).2.2.1 (zpK n now nx es).2.2.2 := by
 unfold zpK
 cases hm : mayB n with
 | false => exact h
 | true =>
  simp only [Bool.not_true, cond_false]
  cases hf : (zvQ es (nsec n)).isSome with
  | true => exact h
  | false =>
   simp only [cond_false]
   cases ho : zyY es (npar n) with
   | true => exact h
   | false =>
    simp only [cond_false]
    cases hg : decide ((zfH es now).length ≥ 256) || decide (nx ≥ 99999999) with
    | true => exact h.pruned now
    | false =>
     simp only [cond_false]
     rw [Bool.or_eq_false_iff, decide_eq_false_iff_not, decide_eq_false_iff_not] at hg
     have hP := h.pruned now
     have hnx := h.next
     have hlow : ∀ p ∈ zfH es now, p.1 < nx := fun p hp => (hP.ids p hp).2.2
     have hpar : 0 ≤ npar n ∧ npar n < nx := by
      have h0 := (zwT hm).2.2.2.2.2
      refine ⟨h0, ?_⟩
      unfold zyY at ho
      by_cases hp : npar n > 0
      ·rw [decide_eq_true hp, Bool.true_and, Bool.or_eq_false_iff, Bool.not_eq_false'] at ho
       obtain ⟨v, hv⟩ := zkX.1 ho.1
       exact (h.ids _ hv).2.2
      ·omega
     have hno : ∀ p ∈ es, nsec p.2 ≠ nsec n := fun p hp e => by
      unfold zvQ at hf
      rw [Option.isSome_map, Option.isSome_eq_false_iff, Option.isNone_iff_eq_none, List.find?_eq_none] at hf
      exact hf p hp (beq_iff_eq.2 e)
     have hno' : ∀ p ∈ zfH es now, nsec p.2 ≠ nsec n := fun p hp => hno p (List.mem_filter.1 hp).1
     have hmem : ∀ p, p ∈ zfH es now ++ [(nx, sNew nx n)] → p ∈ zfH es now ∨ p = (nx, sNew nx n) := fun p hp => by simpa using hp
     exact {
       rises := by
        unfold zpZ
        rw [List.pairwise_append]
        refine ⟨hP.rises, List.pairwise_singleton _ _, fun p hp q hq => ?_⟩
        rw [List.mem_singleton] at hq
        subst hq
        exact hlow p hp
       ids := fun p hp => by
        rcases hmem p hp with hp | rfl
        ·have := hP.ids p hp
         exact ⟨this.1, this.2.1, by omega⟩
        ·exact ⟨rfl, hnx.1, by simp only []; omega⟩
       par := fun p hp => by
        rcases hmem p hp with hp | rfl
        ·exact hP.par p hp
        ·exact hpar
       may := fun p hp => by
        rcases hmem p hp with hp | rfl
        ·exact hP.may p hp
        ·exact hm
       uniq := fun p hp q hq e => by
        rcases hmem p hp with hp | rfl <;> rcases hmem q hq with hq | rfl
        ·exact hP.uniq p hp q hq e
        ·exact absurd e (hno' p hp)
        ·exact absurd e.symm (hno' q hq)
        ·rfl
       next := ⟨by omega, by omega⟩
       len := by rw [List.length_append, List.length_singleton]; omega }
theorem zzZ {nx : Int} {es : Es} (h : Ok nx es) (now a0 a1 a2 : Int) (a3 a4 a5 : L8) (a6 a7 : Int) (a8 a9 : Bool) (a10 : Int) (a11 a12 : L8) :
  zdH zaB a0 a1 a2 a3 a4 a5 a6 a7 a8 a9 a10 a11 a12 now nx es = some (zpK (a0, a1, a2, a3, a4, a5, ([] : List L8), a6, a7, a8, a9, ([] : List L8), a10, a11, a12) now nx es) := by
 unfold zdH zpK
 rw [show zfO zaB _ = some (mayB (a0, a1, a2, a3, a4, a5, ([] : List L8), a6, a7, a8, a9, ([] : List L8), a10, a11, a12)) from ymE (a0, a1, a2, a3, a4, a5, ([] : List L8), a6, a7, a8, a9, ([] : List L8), a10, a11, a12) (Nat.zero_le _), zaA]
 cases hm : mayB (a0, a1, a2, a3, a4, a5, ([] : List L8), a6, a7, a8, a9, ([] : List L8), a10, a11, a12) with
 | false => rfl
 | true =>
  simp only [Bool.not_true, cond_false]
  rw [zrS h, zaA]
  cases hf : zvQ es a11 with
  | some q => rfl
  | none =>
   simp only [Option.isSome_none, Option.getD_none, cond_false]
   have hj : zjP zaB a0 a1 a2 a3 a4 a5 a6 a7 a8 a9 a10 a11 a12 (zN, false, nx, es) = some (bif zyY es a2 then .inl (0, 133, nx, es) else .inr (nx, es, a0, a1, a2, a3, a4, a5, a6, a7, a8, a9, a10, a11, a12)) := by
    unfold zjP zyY
    simp only []
    by_cases hp : a2 > 0
    ·rw [zmD hp, decide_eq_true hp, yeJ h, zaA]
     cases mhas keqI es a2 with
     | false => rfl
     | true =>
      simp only [Bool.not_true, cond_false, Bool.true_and, Bool.false_or]
      cases ynF es a2 <;> rfl
    ·rw [zkB hp, decide_eq_false hp]
     rfl
   rw [hj, zaA]
   cases zyY es a2 with
   | true => rfl
   | false =>
    simp only [cond_false]
    rw [zvS h, zaA]
    unfold zoA
    simp only []
    by_cases hg : (zfH es now).length ≥ 256
    ·rw [zmD (by omega), decide_eq_true hg]
     rfl
    ·rw [zkB (by omega), decide_eq_false hg]
     by_cases hx : nx ≥ 99999999
     ·rw [zmD hx, decide_eq_true hx]
      rfl
     ·rw [zkB hx, decide_eq_false hx]
      have hnx := h.next
      simp only [zaA, Bool.or_false, cond_false]
      rw [own_ok ⟨Nat.zero_le _, Nat.zero_le _⟩, zaA, zlK (by omega) (by omega)]
      simp only []
      rw [zxO fun p hp => ((h.pruned now).ids p hp).2.2]
theorem yxL : Ok 1 [] := ⟨List.Pairwise.nil, fun _ h => (by cases h), fun _ h => (by cases h), fun _ h => (by cases h), fun _ h => (by cases h), ⟨by decide, by decide⟩, by decide⟩
def fn1 : Nd := (0, 1, 0, [117, 58, 97, 110, 110], [], [], [], 0, 9, false, false, [], 0, [115], [])
def fn2 : Nd := (0, 1, 1, [117, 58, 97, 110, 110], [], [], [], 0, 9, false, false, [], 0, [116], [])
def fe1 : Es := [(1, 1, 1, 0, [117, 58, 97, 110, 110], [], [], [], 0, 9, false, false, [], 0, [115], [])]
def fe2 : Es := [(1, 1, 1, 0, [117, 58, 97, 110, 110], [], [], [], 0, 9, false, false, [], 0, [115], []), (2, 2, 1, 1, [117, 58, 97, 110, 110], [], [], [], 0, 9, false, false, [], 0, [116], [])]
def fe3 : Es := [(1, 1, 1, 0, [117, 58, 97, 110, 110], [], [], [], 0, 9, true, false, [], 0, [115], []), (2, 2, 1, 1, [117, 58, 97, 110, 110], [], [], [], 0, 9, false, false, [], 0, [116], [])]
def yeZ : L8 × L8 := ([110, 111, 100, 101, 47, 48, 48, 48, 48, 48, 48, 48, 49], [49, 58, 49, 49, 58, 48, 53, 58, 117, 58, 97, 110, 110, 48, 58, 48, 58, 49, 58, 48, 49, 58, 48, 49, 58, 57, 49, 58, 49, 49, 58, 48, 49, 58, 48, 49, 58, 48, 49, 58, 115, 48, 58])
def yfJ : L8 × L8 := ([110, 111, 100, 101, 47, 48, 48, 48, 48, 48, 48, 48, 50], [49, 58, 49, 49, 58, 49, 53, 58, 117, 58, 97, 110, 110, 48, 58, 48, 58, 49, 58, 48, 49, 58, 48, 49, 58, 57, 49, 58, 48, 49, 58, 48, 49, 58, 48, 49, 58, 48, 49, 58, 116, 48, 58])
def ypI : List (L8 × L8) := [([102, 111, 114, 101, 115, 116], [49, 58, 51]), yeZ, yfJ]
theorem pl1 : zpK fn1 0 1 [] = (1, 0, 2, fe1) := by kernel_rfl
theorem pl2 : zpK fn1 0 2 fe1 = (0, 132, 2, fe1) := by kernel_rfl
theorem pl3 : zpK fn2 0 2 fe1 = (2, 0, 3, fe2) := by kernel_rfl
theorem fok1 : Ok 2 fe1 := by
 have h := yxL.plant fn1 0
 rw [pl1] at h
 exact h
theorem fok2 : Ok 3 fe2 := by
 have h := fok1.plant fn2 0
 rw [pl3] at h
 exact h
theorem fok3 : Ok 3 fe3 := by
 have h := fok2.ch (zsP fun p => p.1 = 1)
 rw [show (chE fe2 fun p => if p.1 = 1 then zsA p.2 else p.2) = fe3 by kernel_rfl] at h
 exact h
theorem fok0 : Ok 3 [] := by
 have h := fok3.filter fun _ => false
 exact h
theorem fok4 : Ok 3 [(1, 1, 1, 0, [117, 58, 97, 110, 110], [], [], [], 0, 9, true, false, [], 0, [115], [])] := by
 have h := fok3.filter fun p => keqI p.1 1
 rw [show (fe3.filter fun p => keqI p.1 1) = [(1, 1, 1, 0, [117, 58, 97, 110, 110], [], [], [], 0, 9, true, false, [], 0, [115], [])] by kernel_rfl] at h
 exact h
theorem frd1 : zlA zaB yeZ = some ((1, 1, 0, [117, 58, 97, 110, 110], [], [], [], 0, 9, true, false, [], 0, [115], []), true) := by kernel_rfl
theorem frd2 : zlA zaB yfJ = some ((2, 1, 1, [117, 58, 97, 110, 110], [], [], [], 0, 9, false, false, [], 0, [116], []), true) := by kernel_rfl
theorem fst1 : zfL zaB [yeZ, yfJ] 0 0 3 [] = some (.inl (1, 1, 3, [(1, 1, 1, 0, [117, 58, 97, 110, 110], [], [], [], 0, 9, true, false, [], 0, [115], [])])) := by
 unfold zfL
 rw [show idx [yeZ, yfJ] 0 = some yeZ from rfl, zaA, frd1, zaA]
 simp only []
 rw [zrS fok0, zaA]
 kernel_rfl
theorem fst2 : zfL zaB [yeZ, yfJ] 1 1 3 [(1, 1, 1, 0, [117, 58, 97, 110, 110], [], [], [], 0, 9, true, false, [], 0, [115], [])] = some (.inl (2, 2, 3, fe3)) := by
 unfold zfL
 rw [show idx [yeZ, yfJ] 1 = some yfJ from rfl, zaA, frd2, zaA]
 simp only []
 rw [zrS fok4, zaA]
 kernel_rfl
theorem fload : ziM zaB ypI = some (.inr (0, 3, fe3)) := by
 unfold ziM
 rw [show zoS zaB ypI = some (.inr ()) by kernel_rfl, zaA]
 simp only []
 rw [show idx ypI 0 = some ([102, 111, 114, 101, 115, 116], [49, 58, 51]) from rfl, zaA]
 simp only []
 rw [show zjC zaB [49, 58, 51] = some ([[51]], true) by kernel_rfl, zaA, show zsF zaB ([[51]], true) = some (.inr ()) by kernel_rfl, zaA]
 simp only []
 rw [show zhZ zaB = some (1, []) from rfl, zaA, show zoT zaB ([[51]], true) (1, []) = some (.inr (3, [])) by kernel_rfl, zaA]
 simp only []
 rw [show subL ypI 1 = some [yeZ, yfJ] from rfl, zaA]
 have hI : iter (fun x => zfL zaB [yeZ, yfJ] x.1 x.2.1 x.2.2.1 x.2.2.2) ((0 : Int), (0 : Int), (3 : Int), ([] : Es)) = some (.inr (3, fe3)) := by
  show ztZ _ (1099511627773 + 1 + 1 + 1) _ = _
  rw [zfP fst1, zfP fst2]
  exact zeS rfl
 rw [show iter _ _ = _ from hI, zaA]
theorem xcA : zjH zaB = some true := by
 unfold zjH
 rw [show zhZ zaB = some (1, []) from rfl, zaA]
 simp only []
 rw [(zzZ yxL 0 0 1 0 [117, 58, 97, 110, 110] [] [] 0 9 false false 0 [115] []).trans (congrArg some pl1), zaA]
 simp only []
 rw [(zzZ fok1 0 0 1 0 [117, 58, 97, 110, 110] [] [] 0 9 false false 0 [115] []).trans (congrArg some pl2), zaA]
 simp only []
 rw [(zzZ fok1 0 0 1 1 [117, 58, 97, 110, 110] [] [] 0 9 false false 0 [116] []).trans (congrArg some pl3), zaA]
 rw [show znG zaB (1, 0, 2, fe1) (0, 132, 2, fe1) (2, 0, 3, fe2) = some (.inr (3, fe3)) by kernel_rfl, zaA]
 simp only []
 rw [show zaS zaB 3 fe3 = some (ypI, 3, fe3) by kernel_rfl, zaA]
 simp only []
 rw [fload, zaA]
 simp only []
 rw [ylR fok3, zaA]
 simp only []
 rw [zvS fok3, zaA]
 kernel_rfl
def ymB : PC := ⟨[], [.b], fun _ => some true, false⟩
theorem yuM {G : List (Nat × Obj)} [zsN G] : PCok Tryz.prog G 13 ymB := by
 have h := ztC (tabs := G) (o := zaB)
 unfold zmT at h
 rw [xcA] at h
 exact h
end Go.Proofs.YtebbcofojchkpaaGreatDoor.Am
