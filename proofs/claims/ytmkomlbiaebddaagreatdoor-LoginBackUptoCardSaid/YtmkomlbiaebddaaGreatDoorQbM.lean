/- The law 'seneschallaw15.LoginBack' holds of every input whose arguments hold together at most 1048576 values and letters, and its card. Conditions: the row's listed tables hold what the program's text lays; the arguments' bulk is at most 1048576. -/
import Derived.Stop.LaidErr
import Derived.Test.YtmkomlbiaebddaaGreatDoorQbL
namespace Go.Proofs.YtmkomlbiaebddaaGreatDoor.Am
open Go Go.RowKit
section
variable {γ : Type}
def yaT (es : List (Bs × γ)) : Prop := es.Pairwise fun x y => x.1 < y.1
theorem zxD {a b : Bs} : keqS a b = true ↔ a = b := by unfold keqS; exact beq_iff_eq
theorem keqS_f {a b : Bs} (h : a ≠ b) : keqS a b = false := by
 cases hb : keqS a b with
 | false => rfl
 | true => exact absurd (zxD.1 hb) h
theorem ykO {a b : Bs} : kltS a b = true ↔ a < b := by unfold kltS; rw [bytesLess_eq, decide_eq_true_eq]
theorem ygL : ∀ {es : List (Bs × γ)}, yaT es → ∀ {k v}, (k, v) ∈ es → mget keqS es k = some v
 | (k', v') :: m, h, k, v, hm => by
  unfold mget
  rcases List.mem_cons.1 hm with e | hm
  ·cases e
   rw [zxD.2 rfl]; rfl
  ·have hlt := (List.pairwise_cons.1 h).1 _ hm
   have : k' ≠ k := fun e => by subst e; exact absurd hlt (List.lt_irrefl _)
   rw [keqS_f this]
   exact ygL (List.pairwise_cons.1 h).2 hm
theorem ycP : ∀ {es : List (Bs × γ)} {k v}, mget keqS es k = some v → (k, v) ∈ es
 | (k', v') :: m, k, v, h => by
  unfold mget at h
  cases hk : keqS k' k with
  | true =>
   rw [hk] at h
   cases h
   rw [zxD.1 hk]; exact List.mem_cons_self
  | false => rw [hk] at h; exact List.mem_cons_of_mem _ (ycP h)
theorem zuL : ∀ {es : List (Bs × γ)} {k}, mhas keqS es k = true ↔ ∃ v, (k, v) ∈ es
 | [], k => by simp [mhas]
 | (k', v') :: m, k => by
  unfold mhas
  rw [Bool.or_eq_true, zxD, zuL (es := m)]
  constructor
  ·rintro (rfl | ⟨v, hv⟩)
   ·exact ⟨v', List.mem_cons_self⟩
   ·exact ⟨v, List.mem_cons_of_mem _ hv⟩
  ·rintro ⟨v, hv⟩
   rcases List.mem_cons.1 hv with e | hv
   ·cases e; exact .inl rfl
   ·exact .inr ⟨v, hv⟩
theorem ybA : ∀ (es : List (Bs × γ)) (k : Bs) (v : γ), (mrep keqS es k v).map (·.1) = es.map (·.1)
 | [], _, _ => rfl
 | (k', v') :: m, k, v => by
  unfold mrep
  cases hk : keqS k' k with
  | true => rw [zxD.1 hk]; rfl
  | false => simp only [cond_false, List.map_cons, ybA m k v]
theorem ypT {es fs : List (Bs × γ)} (h : es.map (·.1) = fs.map (·.1)) (hf : yaT fs) : yaT es := by
 have : (fs.map (·.1)).Pairwise (· < ·) := List.pairwise_map.2 hf
 rw [← h] at this
 exact List.pairwise_map.1 this
theorem yoN : ∀ {es : List (Bs × γ)} {k : Bs} {v : γ} {p}, p ∈ mrep keqS es k v → p = (k, v) ∨ p ∈ es
 | (k', v') :: m, k, v, p, h => by
  unfold mrep at h
  cases hk : keqS k' k with
  | true =>
   rw [hk] at h
   rcases List.mem_cons.1 h with rfl | h
   ·exact .inl rfl
   ·exact .inr (List.mem_cons_of_mem _ h)
  | false =>
   rw [hk] at h
   rcases List.mem_cons.1 h with rfl | h
   ·exact .inr List.mem_cons_self
   ·exact (yoN h).imp id (List.mem_cons_of_mem _)
theorem yfR : ∀ {es : List (Bs × γ)} {k : Bs} {v : γ} {p}, p ∈ mins kltS es k v → p = (k, v) ∨ p ∈ es
 | [], k, v, p, h => .inl (List.mem_singleton.1 h)
 | (k', v') :: m, k, v, p, h => by
  unfold mins at h
  cases hk : kltS k' k with
  | true =>
   rw [hk] at h
   rcases List.mem_cons.1 h with rfl | h
   ·exact .inr List.mem_cons_self
   ·exact (yfR h).imp id (List.mem_cons_of_mem _)
  | false =>
   rw [hk] at h
   rcases List.mem_cons.1 h with rfl | h
   ·exact .inl rfl
   ·exact .inr h
theorem xfQ {a b : Bs} (h : ¬ a < b) (hn : a ≠ b) : b < a :=
 Classical.byContradiction fun h2 => hn (List.le_antisymm (List.not_lt.1 h2) (List.not_lt.1 h))
theorem ydY : ∀ {es : List (Bs × γ)} {k : Bs} {v : γ}, yaT es → (∀ v', (k, v') ∉ es) → yaT (mins kltS es k v)
 | [], _, _, _, _ => List.pairwise_singleton _ _
 | (k', v') :: m, k, v, h, hn => by
  have hc := List.pairwise_cons.1 h
  have hne : k' ≠ k := fun e => hn v' (by rw [e]; exact List.mem_cons_self)
  unfold mins
  cases hk : kltS k' k with
  | true =>
   simp only [cond_true]
   refine List.pairwise_cons.2 ⟨fun p hp => ?_, ydY hc.2 fun v2 h2 => hn v2 (List.mem_cons_of_mem _ h2)⟩
   rcases yfR hp with rfl | hp
   ·exact ykO.1 hk
   ·exact hc.1 p hp
  | false =>
   simp only [cond_false]
   have hlt : k < k' := xfQ (fun h2 => by rw [ykO.2 h2] at hk; cases hk) hne
   refine List.pairwise_cons.2 ⟨fun p hp => ?_, h⟩
   rcases List.mem_cons.1 hp with rfl | hp
   ·exact hlt
   ·exact List.lt_trans hlt (hc.1 p hp)
theorem ypP {es : List (Bs × γ)} {k : Bs} {v : γ} (h : yaT es) : yaT (mset keqS kltS es k v) := by
 unfold mset
 cases hk : mhas keqS es k with
 | true => exact ypT (ybA es k v) h
 | false =>
  refine ydY h fun v' hv => ?_
  rw [zuL.2 ⟨v', hv⟩] at hk; cases hk
theorem yyP {es : List (Bs × γ)} {k : Bs} {v : γ} {p} (h : p ∈ mset keqS kltS es k v) : p = (k, v) ∨ p ∈ es := by
 unfold mset at h
 cases hk : mhas keqS es k with
 | true => rw [hk] at h; exact yoN h
 | false => rw [hk] at h; exact yfR h
theorem yoW : ∀ (es : List (Bs × γ)) (k : Bs) (v : γ), (mins kltS es k v).length = es.length + 1
 | [], _, _ => rfl
 | (k', v') :: m, k, v => by
  unfold mins
  cases kltS k' k with
  | true => simp only [cond_true, List.length_cons, yoW m k v]
  | false => rfl
theorem yyA {es : List (Bs × γ)} {k : Bs} {v : γ} : (mset keqS kltS es k v).length = if mhas keqS es k = true then es.length else es.length + 1 := by
 unfold mset
 cases hk : mhas keqS es k with
 | true =>
  simp only [cond_true, if_true]
  have := congrArg List.length (ybA es k v)
  simpa using this
 | false => rw [if_neg (by simp)]; exact yoW es k v
theorem yeZ : ∀ (es : List (Bs × γ)) (k : Bs), (mdel keqS es k).Sublist es
 | [], _ => .slnil
 | (k', v') :: m, k => by
  unfold mdel
  cases keqS k' k with
  | true => exact List.sublist_cons_self _ _
  | false => exact (yeZ m k).cons_cons _
theorem ypK {es : List (Bs × γ)} {k : Bs} (h : yaT es) : yaT (mdel keqS es k) := h.sublist (yeZ es k)
theorem ywG {es : List (Bs × γ)} {k : Bs} {v : γ} (h : ∀ p ∈ es, p.1 < k) : mset keqS kltS es k v = es ++ [(k, v)] := by
 have hn : mhas keqS es k = false := by
  cases hk : mhas keqS es k with
  | false => rfl
  | true =>
   obtain ⟨v', hv⟩ := zuL.1 hk
   exact absurd (h _ hv) (List.lt_irrefl _)
 unfold mset
 rw [hn]
 simp only [cond_false]
 clear hn
 induction es with
 | nil => rfl
 | cons p m ih =>
  obtain ⟨k', v'⟩ := p
  have h1 : kltS k' k = true := ykO.2 (h _ List.mem_cons_self)
  unfold mins
  rw [h1]
  simp only [cond_true, List.cons_append, ih fun p hp => h p (List.mem_cons_of_mem _ hp)]
end
theorem zyC {a b : Prop} [Decidable a] [Decidable b] (ha : a) (hb : b) : (decide a && decide b) = true := by simp [ha, hb]
structure VCr (u : Bs) (c : CrT) : Prop where
 name : zgW zaC u = some true
 nlen : u.length ≤ 1048576
 user : c.1 = u
 salt : c.2.1.length = 16
 hash : c.2.2.1.length = 32
 otp : c.2.2.2.1 = [] ∨ (16 ≤ c.2.2.2.1.length ∧ c.2.2.2.1.length ≤ 64)
 step : 0 ≤ c.2.2.2.2.1 ∧ c.2.2.2.2.1 ≤ 2199023255552
 fails : 0 ≤ c.2.2.2.2.2.1 ∧ c.2.2.2.2.2.1 ≤ 4
 till : 0 ≤ c.2.2.2.2.2.2.1 ∧ c.2.2.2.2.2.2.1 ≤ 2199023255552
 keys : c.2.2.2.2.2.2.2.length ≤ 4
 may : ∀ k ∈ c.2.2.2.2.2.2.2, (1 ≤ k.1.length ∧ k.1.length ≤ 86) ∧ k.2.1.length = 32 ∧ k.2.2.1.length = 32 ∧ 0 ≤ k.2.2.2 ∧ k.2.2.2 ≤ 4294967295
 ids : c.2.2.2.2.2.2.2.Pairwise fun x y => x.1 ≠ y.1
structure VEs (es : List (Bs × CrT)) : Prop where
 rises : yaT es
 len : es.length ≤ 64
 each : ∀ p ∈ es, VCr p.1 p.2
def zjB (k : KeyT) : List Bs := [k.1, k.2.1, k.2.2.1, Lib.decDigits k.2.2.2.toNat]
def ydS (c : CrT) : List Bs := [c.2.1, c.2.2.1, c.2.2.2.1, Lib.decDigits c.2.2.2.2.1.toNat, Lib.decDigits c.2.2.2.2.2.1.toNat, Lib.decDigits c.2.2.2.2.2.2.1.toNat, Lib.decDigits c.2.2.2.2.2.2.2.length]
def zkV (c : CrT) : List Bs := ydS c ++ c.2.2.2.2.2.2.2.flatMap zjB
abbrev znQ : Bs := [108, 111, 103, 105, 110, 47]
def rowC (c : CrT) : Bs × Bs := (znQ ++ c.1, zgF (zkV c))
theorem yjV {γ : Type} : ∀ {es : List (Bs × γ)}, yaT es → zyR (es.map (·.1)) = true
 | [], _ => rfl
 | [_], _ => rfl
 | x :: y :: l, h => by
  have hc := List.pairwise_cons.1 h
  show (Op.bytesLess x.1 y.1 && zyR ((y :: l).map (·.1))) = true
  rw [yjV hc.2, Bool.and_true, bytesLess_eq, decide_eq_true_eq]
  exact hc.1 y List.mem_cons_self
theorem ytL {es : List (Bs × CrT)} (h : VEs es) : ybV es = some (es.map (·.1), es) := by
 unfold ybV yaS
 rw [yjV h.rises, decide_eq_true (show es.length ≤ 1048576 by have := h.len; omega), List.all_eq_true.2 fun p hp => decide_eq_true (by have := (h.each p hp).nlen; omega)]
 rfl
theorem zuO {α : Type} (xs : List α) (h : xs.length ≤ 68719476736) : app ([] : List α) xs = some xs := by
 rw [zbT (by simpa using h)]; rfl
theorem all_ok {es : List (Bs × CrT)} (h : VEs es) : zgA zaC es = some (es, es.map (·.2)) := by
 have hl := h.len
 unfold zgA
 rw [zgY (zyC (by omega) (by unfold LIM; omega)), zaA, show mkL (0 : Int) (([] : Bs), ([] : Bs), ([] : Bs), ([] : Bs), (0 : Int), (0 : Int), (0 : Int), ([] : List KeyT)) = some [] from rfl, zaA]
 unfold zvV
 rw [zaA, ytL h, zaA]
 have hi : iter (fun x => zfF zaC (es.map (·.1), es) x.1 x.2.1 x.2.2) (((0 : Nat) : Int), es, (es.take 0).map (·.2)) = some (es, es.map (·.2)) := by
  refine zaW (fun k => ((k : Int), es, (es.take k).map (·.2))) es.length (by omega) _ (fun k hk => ?_) ?_
  ·have hv := h.each es[k] (List.getElem_mem hk)
   have hg : mget keqS es es[k].1 = some es[k].2 := ygL h.rises (List.getElem_mem hk)
   unfold zfF
   simp only []
   rw [zbE (by rw [List.length_map]; omega), zcN rfl (by rw [List.length_map]; exact hk), zaA, List.getElem_map]
   unfold zpF
   rw [hg]
   simp only []
   unfold zlT
   rw [zuO _ (by have := hv.keys; omega), zaA, zaA, zbT (by rw [List.length_map, List.length_take]; simp; omega), zaA, zbB (by omega) (by omega), List.take_succ_eq_append_getElem hk, List.map_append]
   rfl
  ·unfold zfF
   simp only []
   rw [zaV (by rw [List.length_map]; omega), List.take_length]
 rw [List.take_zero, List.map_nil] at hi
 have hi : iter (fun x => zfF zaC (es.map (·.1), es) x.1 x.2.1 x.2.2) ((0 : Int), es, ([] : List CrT)) = some (es, es.map (·.2)) := hi
 rw [show (es.map (·.1), es).2 = es from rfl, hi, zaA]
theorem yjS {M : Nat} (hM : M < 1000000000000000) : ∀ {ts : List Bs}, (∀ t ∈ ts, t.length ≤ M) → (zgF ts).length ≤ ts.length * (M + 16)
 | [], _ => Nat.zero_le _
 | t :: ts, h => by
  have h1 := h t List.mem_cons_self
  have h2 := yjS hM (ts := ts) fun t ht => h t (List.mem_cons_of_mem _ ht)
  have h3 := zpJ 15 t.length (by decide) (by omega)
  simp only [zgF, List.length_append, List.length_cons]
  rw [Nat.add_mul]; omega
theorem zzO : ∀ (ks : List KeyT), (ks.flatMap zjB).length = 4 * ks.length
 | [] => rfl
 | k :: ks => by rw [List.flatMap_cons, List.length_append, zzO ks]; simp [zjB]; omega
theorem zyB (c : CrT) : (zkV c).length = 7 + 4 * c.2.2.2.2.2.2.2.length := by
 unfold zkV; rw [List.length_append, zzO]; rfl
theorem yyM {n : Int} (h : 0 ≤ n ∧ n ≤ 2199023255552) : (Lib.decDigits n.toNat).length ≤ 86 := by
 have := zpJ 15 n.toNat (by decide) (by omega); omega
theorem ykX {u : Bs} {c : CrT} (h : VCr u c) : ∀ t ∈ zkV c, t.length ≤ 86 := fun t ht => by
 unfold zkV at ht
 rcases List.mem_append.1 ht with ht | ht
 ·simp only [ydS, List.mem_cons, List.not_mem_nil, or_false] at ht
  have hk := zpJ 15 c.2.2.2.2.2.2.2.length (by decide) (by have := h.keys; omega)
  rcases ht with rfl | rfl | rfl | rfl | rfl | rfl | rfl
  ·have := h.salt; omega
  ·have := h.hash; omega
  ·rcases h.otp with h | h
   ·rw [h]; simp
   ·omega
  ·exact yyM h.step
  ·exact yyM ⟨h.fails.1, by have := h.fails.2; omega⟩
  ·exact yyM h.till
  ·omega
 ·obtain ⟨k, hk, ht⟩ := List.mem_flatMap.1 ht
  have hm := h.may k hk
  simp only [zjB, List.mem_cons, List.not_mem_nil, or_false] at ht
  rcases ht with rfl | rfl | rfl | rfl
  ·omega
  ·omega
  ·omega
  ·exact yyM ⟨hm.2.2.2.1, by omega⟩
theorem ybW {u : Bs} {c : CrT} (h : VCr u c) : (zgF (zkV c)).length ≤ 2346 := by
 have h1 := yjS (M := 86) (by decide) (ykX h)
 have h2 := zyB c
 have h3 := h.keys
 have : (zkV c).length * (86 + 16) ≤ 23 * (86 + 16) := Nat.mul_le_mul_right _ (by omega)
 omega
theorem yoR {n : Int} (h : 0 ≤ n ∧ n ≤ 2199023255552) : zaC.itoa n = some (Lib.decDigits n.toNat) := by
 have h2 := ybD n.toNat (by omega)
 rw [show ((n.toNat : Nat) : Int) = n by omega] at h2
 exact h2
theorem rows_ok {es : List (Bs × CrT)} (h : VEs es) : zbR zaC es = some ((es.map (·.2)).map rowC, es) := by
 have hl := h.len
 unfold zbR
 rw [all_ok h, zaA]
 have hi : iter (fun x => zeV zaC (es, es.map (·.2)) x.1 x.2.1 x.2.2.1 x.2.2.2) (((0 : Nat) : Int), es, ((es.map (·.2)).take 0).map rowC, es.map (·.2)) = some (es, (es.map (·.2)).map rowC) := by
  refine zaW (fun k => ((k : Int), es, ((es.map (·.2)).take k).map rowC, es.map (·.2))) es.length (by omega) _ (fun k hk => ?_) ?_
  ·have hv := h.each es[k] (List.getElem_mem hk)
   have hkm : k < (es.map (·.2)).length := by rw [List.length_map]; exact hk
   have hc : (es.map (·.2))[k] = es[k].2 := List.getElem_map _
   have ht : ((es.map (·.2)).take (k + 1)).map rowC = ((es.map (·.2)).take k).map rowC ++ [rowC es[k].2] := by
    rw [List.take_succ_eq_append_getElem hkm, List.map_append, hc]; rfl
   have hrl : (((es.map (·.2)).take k).map rowC).length ≤ 64 := by rw [List.length_map, List.length_take, List.length_map]; omega
   generalize es[k].1 = u at hv
   generalize es[k].2 = c at hv hc ht
   generalize ((es.map (·.2)).take k).map rowC = rs at ht hrl
   unfold zeV
   simp only []
   rw [zbE (by omega), zgY (zyC (by omega) (by omega)), zaA, zcN rfl hkm, zaA, hc, yoR hv.step, zaA, yoR ⟨hv.fails.1, by have := hv.fails.2; omega⟩, zaA, yoR hv.till, zaA, show zaC.itoa (c.2.2.2.2.2.2.2.length : Int) = some (Lib.decDigits c.2.2.2.2.2.2.2.length) from ybD _ (by have := hv.keys; omega), zaA]
   have hin : iter (fun x => zeF zaC c x.1 x.2.1 x.2.2.1 x.2.2.2.1 x.2.2.2.2.1 x.2.2.2.2.2.1 x.2.2.2.2.2.2.1 x.2.2.2.2.2.2.2.1 x.2.2.2.2.2.2.2.2.1 x.2.2.2.2.2.2.2.2.2.1 x.2.2.2.2.2.2.2.2.2.2.1 x.2.2.2.2.2.2.2.2.2.2.2.1 x.2.2.2.2.2.2.2.2.2.2.2.2) (((0 : Nat) : Int), es, rs, c.1, c.2.1, c.2.2.1, c.2.2.2.1, c.2.2.2.2.1, c.2.2.2.2.2.1, c.2.2.2.2.2.2.1, c.2.2.2.2.2.2.2, ydS c ++ (c.2.2.2.2.2.2.2.take 0).flatMap zjB, es.map (·.2)) = some (es, rs, c.1, c.2.1, c.2.2.1, c.2.2.2.1, c.2.2.2.2.1, c.2.2.2.2.2.1, c.2.2.2.2.2.2.1, c.2.2.2.2.2.2.2, zkV c, es.map (·.2)) := by
    refine zaW (fun j => ((j : Int), es, rs, c.1, c.2.1, c.2.2.1, c.2.2.2.1, c.2.2.2.2.1, c.2.2.2.2.2.1, c.2.2.2.2.2.2.1, c.2.2.2.2.2.2.2, ydS c ++ (c.2.2.2.2.2.2.2.take j).flatMap zjB, es.map (·.2))) c.2.2.2.2.2.2.2.length (by have := hv.keys; omega) _ (fun j hj => ?_) ?_
    ·have hm := hv.may _ (List.getElem_mem hj)
     have hk4 := hv.keys
     unfold zeF
     simp only []
     rw [zbE (by omega), zcN rfl hj, zaA, yoR ⟨hm.2.2.2.1, by omega⟩, zaA, zbT (by rw [List.length_append, zzO, List.length_take]; simp [ydS]; omega), zaA, zbB (by omega) (by omega), List.take_succ_eq_append_getElem hj, List.flatMap_append, List.append_assoc]
     simp [zjB]
    ·unfold zeF
     simp only []
     rw [zaV (by omega), List.take_length]; rfl
   rw [List.take_zero, List.flatMap_nil, List.append_nil] at hin
   have hin : iter (fun x => zeF zaC c x.1 x.2.1 x.2.2.1 x.2.2.2.1 x.2.2.2.2.1 x.2.2.2.2.2.1 x.2.2.2.2.2.2.1 x.2.2.2.2.2.2.2.1 x.2.2.2.2.2.2.2.2.1 x.2.2.2.2.2.2.2.2.2.1 x.2.2.2.2.2.2.2.2.2.2.1 x.2.2.2.2.2.2.2.2.2.2.2.1 x.2.2.2.2.2.2.2.2.2.2.2.2) ((0 : Int), es, rs, c.1, c.2.1, c.2.2.1, c.2.2.2.1, c.2.2.2.2.1, c.2.2.2.2.2.1, c.2.2.2.2.2.2.1, c.2.2.2.2.2.2.2, ([c.2.1, c.2.2.1, c.2.2.2.1, Lib.decDigits c.2.2.2.2.1.toNat, Lib.decDigits c.2.2.2.2.2.1.toNat, Lib.decDigits c.2.2.2.2.2.2.1.toNat, Lib.decDigits c.2.2.2.2.2.2.2.length] : List Bs), es.map (·.2)) = _ := hin
   rw [hin, zaA]
   simp only []
   have hf := ybW hv
   rw [zbT (by have := hv.nlen; rw [hv.user]; simp only [List.length_cons, List.length_nil]; omega), zaA, show zaC.form (zkV c) = some (zgF (zkV c)) from xcI _ (by omega) (by rw [zyB]; have := hv.keys; omega), zaA, zbT (by simp only [List.length_cons, List.length_nil]; omega), zaA, zbB (by omega) (by omega), ht]
   rfl
  ·unfold zeV
   simp only []
   rw [zaV (by rw [List.length_map]; omega), show es.length = (es.map (·.2)).length by rw [List.length_map], List.take_length]
 rw [List.take_zero, List.map_nil] at hi
 have hi : iter (fun x => zeV zaC (es, es.map (·.2)) x.1 x.2.1 x.2.2.1 x.2.2.2) ((0 : Int), es, ([] : List (Bs × Bs)), es.map (·.2)) = some (es, (es.map (·.2)).map rowC) := hi
 rw [hi, zaA]
theorem ygG {α : Type} (a b : List α) {n : Int} (h : n = (a.length : Int)) : subL (a ++ b) n = some b := by
 subst h
 unfold subL
 rw [List.length_append, zyC (by omega) (by omega)]
 simp
theorem yrT (u : Bs) : zgT zaC (znQ ++ u) znQ = some (u, true) := by
 unfold zgT zdJ zdK
 rw [zbE (by rw [List.length_append]; omega), show (znQ.length : Int) = ((6 : Nat) : Int) from rfl, zvO (by rw [List.length_append]; show 6 ≤ 6 + _; omega), zaA, show (znQ ++ u).take 6 = znQ from rfl]
 rw [show (znQ == znQ) = true from beq_self_eq_true _, zaA]
 simp only [Bool.not_true, cond_false]
 rw [show subL (znQ ++ u) ((6 : Nat) : Int) = some u from ygG znQ u rfl, zaA, zaA]
theorem yoE (id : Bs) : ∀ (l : List KeyT), l.length ≤ 4 → (∀ k ∈ l, k.1 ≠ id) → zfZ zaC l id = some (-1) := fun l hl h => by
 have hi : iter (fun x => zbM zaC l x.1 x.2) (((0 : Nat) : Int), id) = some (Sum.inr id) := by
  refine zaW (fun k => ((k : Int), id)) l.length (by omega) (Sum.inr id) (fun k hk => ?_) ?_
  ·have hk1 := h _ (List.getElem_mem hk)
   unfold zbM
   simp only []
   rw [zbE (by omega), zcN rfl hk, zaA]
   unfold zmI
   rw [zaA]
   simp only []
   rw [show (l[k].1 == id) = false from beq_eq_false_iff_ne.2 hk1, zbB (by omega) (by omega)]
   rfl
  ·unfold zbM
   simp only []
   rw [zaV (by omega)]
 have hi : iter (fun x => zbM zaC l x.1 x.2) ((0 : Int), id) = some (Sum.inr id) := hi
 unfold zfZ ziC
 rw [hi, zaA]
 simp only []
 rw [zaA]
theorem may_t {k : KeyT} (h : (1 ≤ k.1.length ∧ k.1.length ≤ 86) ∧ k.2.1.length = 32 ∧ k.2.2.1.length = 32 ∧ 0 ≤ k.2.2.2 ∧ k.2.2.2 ≤ 4294967295) : zeR zaC k = some true := by
 unfold zeR
 rw [ygU, zaA, zyC (by omega) (by omega), ygU, zyC h.2.2.2.1 h.2.2.2.2, h.2.1, h.2.2.1]
 rfl
theorem yoS {n most : Int} (h : 0 ≤ n ∧ n ≤ 2199023255552) (hm : n ≤ most) : zcY zaC (Lib.decDigits n.toNat) most = some n := by
 have h2 := yeP n.toNat (by omega) most (by omega)
 rw [show ((n.toNat : Nat) : Int) = n by omega] at h2
 exact h2
theorem ywP (ks : List KeyT) {j : Nat} (hj : j < ks.length) : (ks.drop j).flatMap zjB = zjB ks[j] ++ (ks.drop (j + 1)).flatMap zjB := by
 rw [List.drop_eq_getElem_cons hj, List.flatMap_cons]
theorem xcY {u : Bs} {c : CrT} (h : VCr u c) : zpS zaC (rowC c) = some (c, true) := by
 have hk4 := h.keys
 have hf := ybW h
 have hlen := zyB c
 unfold zpS rowC
 simp only []
 rw [yrT c.1, zaA, yzA _ (by omega) (by omega), zaA]
 have hj0 : zrQ zaC (c.1, true) (zkV c, true) = some (.inr ([], [], [], [], 0, 0, 0)) := by
  unfold zrQ
  simp only [Bool.not_true, cond_false]
  rw [zaV (by omega), h.user, h.name, zaA]
  rfl
 rw [hj0, zaA]
 simp only []
 have i0 : idx (zkV c) 0 = some c.2.1 := rfl
 have i1 : idx (zkV c) 1 = some c.2.2.1 := rfl
 have i2 : idx (zkV c) 2 = some c.2.2.2.1 := rfl
 have i3 : idx (zkV c) 3 = some (Lib.decDigits c.2.2.2.2.1.toNat) := rfl
 have i4 : idx (zkV c) 4 = some (Lib.decDigits c.2.2.2.2.2.1.toNat) := rfl
 have i5 : idx (zkV c) 5 = some (Lib.decDigits c.2.2.2.2.2.2.1.toNat) := rfl
 have i6 : idx (zkV c) 6 = some (Lib.decDigits c.2.2.2.2.2.2.2.length) := rfl
 have hkn : zcY zaC (Lib.decDigits c.2.2.2.2.2.2.2.length) 4 = some (c.2.2.2.2.2.2.2.length : Int) := yeP _ (by omega) 4 (by omega)
 rw [i0, zaA, i1, zaA, i2, zaA, i3, zaA, i4, zaA, i5, zaA, yoS h.step h.step.2, zaA, yoS ⟨h.fails.1, by have := h.fails.2; omega⟩ h.fails.2, zaA, yoS h.till h.till.2, zaA, i6, zaA, hkn, zaA]
 rw [show subL (zkV c) 7 = some (c.2.2.2.2.2.2.2.flatMap zjB) from ygG (ydS c) _ rfl, zaA]
 have hj1 : zsJ zaC (c.1, true) (([], [], [], [], 0, 0, 0) : Bs × Bs × Bs × Bs × Int × Int × Int) c.2.1 c.2.2.1 c.2.2.2.1 c.2.2.2.2.1 c.2.2.2.2.2.1 c.2.2.2.2.2.2.1 (c.2.2.2.2.2.2.2.length : Int) (c.2.2.2.2.2.2.2.flatMap zjB) = some (.inr ([], [], [], [], 0, 0, 0, c.1, c.2.1, c.2.2.1, c.2.2.2.1, c.2.2.2.2.1, c.2.2.2.2.2.1, c.2.2.2.2.2.2.1)) := by
  unfold zsJ
  rw [zaV (by have := h.step.1; omega), zaV (by have := h.fails.1; omega), zaV (by have := h.till.1; omega), zaV (by omega), zbB (by omega) (by omega), zzO, show (((4 * c.2.2.2.2.2.2.2.length : Nat) : Int) != (4 : Int) * (c.2.2.2.2.2.2.2.length : Int)) = false from by simp, h.salt, h.hash]
  rfl
 rw [hj1, zaA]
 simp only []
 have hl : iter (fun x => zoC zaC x.1 x.2.1 x.2.2.1 x.2.2.2.1 x.2.2.2.2.1 x.2.2.2.2.2.1 x.2.2.2.2.2.2.1 x.2.2.2.2.2.2.2.1 x.2.2.2.2.2.2.2.2.1 x.2.2.2.2.2.2.2.2.2.1 x.2.2.2.2.2.2.2.2.2.2.1 x.2.2.2.2.2.2.2.2.2.2.2.1 x.2.2.2.2.2.2.2.2.2.2.2.2.1 x.2.2.2.2.2.2.2.2.2.2.2.2.2.1 x.2.2.2.2.2.2.2.2.2.2.2.2.2.2.1 x.2.2.2.2.2.2.2.2.2.2.2.2.2.2.2) ((c.2.2.2.2.2.2.2.drop 0).flatMap zjB, ([] : Bs), ([] : Bs), ([] : Bs), ([] : Bs), (0 : Int), (0 : Int), (0 : Int), c.1, c.2.1, c.2.2.1, c.2.2.2.1, c.2.2.2.2.1, c.2.2.2.2.2.1, c.2.2.2.2.2.2.1, c.2.2.2.2.2.2.2.take 0)
   = some (Sum.inr (([] : Bs), ([] : Bs), ([] : Bs), ([] : Bs), (0 : Int), (0 : Int), (0 : Int), c)) := by
  refine zaW (fun j => ((c.2.2.2.2.2.2.2.drop j).flatMap zjB, ([] : Bs), ([] : Bs), ([] : Bs), ([] : Bs), (0 : Int), (0 : Int), (0 : Int), c.1, c.2.1, c.2.2.1, c.2.2.2.1, c.2.2.2.2.1, c.2.2.2.2.2.1, c.2.2.2.2.2.2.1, c.2.2.2.2.2.2.2.take j)) c.2.2.2.2.2.2.2.length (by omega) _ (fun j hj => ?_) ?_
  ·have hm := h.may _ (List.getElem_mem hj)
   have hids : ∀ k ∈ c.2.2.2.2.2.2.2.take j, k.1 ≠ c.2.2.2.2.2.2.2[j].1 := fun k hk => by
    obtain ⟨i, hi, rfl⟩ := List.getElem_of_mem hk
    rw [List.length_take] at hi
    rw [List.getElem_take]
    exact List.pairwise_iff_getElem.1 h.ids i j (by omega) hj (by omega)
   have ht := List.take_succ_eq_append_getElem hj
   have hd := ywP c.2.2.2.2.2.2.2 hj
   have htl : (c.2.2.2.2.2.2.2.take j).length ≤ 4 := by rw [List.length_take]; omega
   generalize c.2.2.2.2.2.2.2[j] = k at hm hids ht hd
   generalize (c.2.2.2.2.2.2.2.drop (j + 1)).flatMap zjB = r at hd ⊢
   generalize hks : c.2.2.2.2.2.2.2.take j = ks at hids ht htl ⊢
   rw [hd]
   unfold zoC
   simp only []
   rw [zbE (by simp [zjB]; omega), show idx (zjB k ++ r) 0 = some k.1 from rfl, zaA, show idx (zjB k ++ r) 1 = some k.2.1 from rfl, zaA, show idx (zjB k ++ r) 2 = some k.2.2.1 from rfl, zaA, show idx (zjB k ++ r) 3 = some (Lib.decDigits k.2.2.2.toNat) from rfl, zaA, yoS ⟨hm.2.2.2.1, by omega⟩ hm.2.2.2.2, zaA]
   have hj2 : zqP zaC ([] : Bs) ([] : Bs) ([] : Bs) ([] : Bs) (0 : Int) (0 : Int) (0 : Int) c.1 c.2.1 c.2.2.1 c.2.2.2.1 c.2.2.2.2.1 c.2.2.2.2.2.1 c.2.2.2.2.2.2.1 ks k.1 k.2.1 k.2.2.1 k.2.2.2 = some (.inr ([], [], [], [], 0, 0, 0, c.1, c.2.1, c.2.2.1, c.2.2.2.1, c.2.2.2.2.1, c.2.2.2.2.2.1, c.2.2.2.2.2.2.1, k.1, k.2.1, k.2.2.1, k.2.2.2, ks)) := by
    unfold zqP
    rw [show zeR zaC (k.1, k.2.1, k.2.2.1, k.2.2.2) = some true from may_t hm, zaA]
    simp only [Bool.not_true, cond_false]
    rw [yoE k.1 ks htl hids, zaA, zaV (by decide)]
   rw [hj2, zaA]
   simp only []
   rw [zbT (by simp only [List.length_cons, List.length_nil]; omega), zaA, show subL (zjB k ++ r) 4 = some r from ygG (zjB k) r rfl, zaA, ht]
  ·unfold zoC
   simp only []
   rw [List.drop_length, List.take_length, List.flatMap_nil, zaV (by decide)]
 rw [List.drop_zero, List.take_zero] at hl
 rw [hl, zaA]
 simp only []
 rcases h.otp with ho | ho
 ·rw [ho]; rfl
 ·have hne : (c.2.2.2.1 == ([] : Bs)) = false := beq_eq_false_iff_ne.2 fun e => by rw [e] at ho; simp at ho
  rw [hne]
  simp only [cond_false]
  rw [ygU, zaA, zyC (by omega) (by omega)]
theorem key_lt {a b : Bs} (h : a < b) : Op.bytesLess (znQ ++ b) (znQ ++ a) = false ∧ (znQ ++ b == znQ ++ a) = false := by
 have hlt : znQ ++ a < znQ ++ b := by
  show ([108, 111, 103, 105, 110, 47] ++ a : Bs) < [108, 111, 103, 105, 110, 47] ++ b
  simp only [List.cons_append, List.nil_append, List.cons_lt_cons_iff, h, and_true, or_true]
 refine ⟨?_, beq_eq_false_iff_ne.2 fun e => by rw [e] at hlt; exact List.lt_irrefl _ hlt⟩
 rw [bytesLess_eq, decide_eq_false_iff_not]
 exact fun h2 => List.lt_irrefl _ (List.lt_trans h2 hlt)
theorem yxX {es : List (Bs × CrT)} (h : VEs es) : zmH zaC ((es.map (·.2)).map rowC) = some (.inr (0, es)) := by
 have hl := h.len
 have hll : ((es.map (·.2)).map rowC).length = es.length := by simp
 have hi : iter (fun x => zkU zaC ((es.map (·.2)).map rowC) x.1 x.2) (((0 : Nat) : Int), es.take 0) = some (Sum.inr es) := by
  refine zaW (fun k => ((k : Int), es.take k)) es.length (by omega) (Sum.inr es) (fun k hk => ?_) ?_
  ·have hv := h.each es[k] (List.getElem_mem hk)
   have hrow : ∀ (i : Nat) (hi : i < es.length), ((es.map (·.2)).map rowC)[i]'(by rw [hll]; exact hi) = rowC es[i].2 := fun i hi => by simp
   have hb : ∀ p ∈ es.take k, p.1 < es[k].1 := fun p hp => by
    obtain ⟨i, hi, rfl⟩ := List.getElem_of_mem hp
    rw [List.length_take] at hi
    rw [List.getElem_take]
    exact List.pairwise_iff_getElem.1 h.rises i k (by omega) hk (by omega)
   have ht := List.take_succ_eq_append_getElem hk
   have he : es[k] = (es[k].1, es[k].2) := rfl
   unfold zkU
   simp only []
   rw [zbE (by omega), zcN rfl (by rw [hll]; exact hk), zaA, hrow k hk, xcY hv, zaA]
   have hj : zsB zaC ((es.map (·.2)).map rowC) (k : Int) (es.take k) (rowC es[k].2) (es[k].2, true) = some (.inr (es[k].2.1, es[k].2.2.1, es[k].2.2.2.1, es[k].2.2.2.2.1, es[k].2.2.2.2.2.1, es[k].2.2.2.2.2.2.1, es[k].2.2.2.2.2.2.2.1, es[k].2.2.2.2.2.2.2.2, es.take k)) := by
    unfold zsB
    simp only [Bool.not_true, cond_false]
    by_cases h0 : k = 0
    ·subst h0; rw [zaV (by omega)]
    ·have hp := h.each es[k - 1] (List.getElem_mem (by omega))
     have hlt : es[k - 1].1 < es[k].1 := List.pairwise_iff_getElem.1 h.rises (k - 1) k (by omega) hk (by omega)
     rw [zbE (by omega), zbB (by omega) (by omega), zcN (i := k - 1) (by omega) (by rw [hll]; omega), zaA, hrow (k - 1) (by omega)]
     unfold rowC
     simp only []
     rw [hp.user, hv.user]
     obtain ⟨g1, g2⟩ := key_lt hlt
     rw [g1, g2]
     simp only [Bool.or_self, cond_false]
   rw [hj, zaA]
   simp only []
   rw [zbB (by omega) (by omega), ht]
   show some (Sum.inl (((k : Int) + 1), mset keqS kltS (es.take k) es[k].2.1 es[k].2)) = some (Sum.inl (((k : Int) + 1), es.take k ++ [es[k]]))
   rw [show es[k].2.1 = es[k].1 from hv.user, ywG hb]
  ·unfold zkU
   simp only []
   rw [zaV (by rw [hll]; omega), List.take_length]
 have hi : iter (fun x => zkU zaC ((es.map (·.2)).map rowC) x.1 x.2) ((0 : Int), ([] : List (Bs × CrT))) = some (Sum.inr es) := hi
 unfold zmH
 rw [show zlV zaC = some [] from rfl, zaA, hi, zaA]
 simp only []
 rw [hll, zaV (by omega)]
section
def xorP (u b : Bs) : Nat → Bs
 | 0 => b
 | k + 1 => (xorP u b k).set k ((xorP u b k).getD k 0 ^^^ u.getD k 0)
theorem zzY (u b : Bs) : ∀ k, (xorP u b k).length = b.length
 | 0 => rfl
 | k + 1 => by rw [xorP, List.length_set, zzY u b k]
def rndP (p u : Bs) : Nat → Bs × Bs
 | 0 => (u, u)
 | k + 1 => (macF p (rndP p u k).1, xorP (macF p (rndP p u k).1) (rndP p u k).2 32)
theorem zzN (p : Bs) {u : Bs} (h : u.length = 32) : ∀ k, (rndP p u k).1.length = 32 ∧ (rndP p u k).2.length = 32
 | 0 => ⟨h, h⟩
 | k + 1 => ⟨zpM _ _, by rw [rndP, zzY, (zzN p h k).2]⟩
def stF (p s : Bs) : Bs := (rndP p (macF p (s ++ [0, 0, 0, 1])) 3).2
theorem ztJ (p s : Bs) : (stF p s).length = 32 := (zzN p (zpM _ _) 3).2
attribute [local irreducible] macF
theorem ylK {p s : Bs} (hp : p.length ≤ 68719470000) (hs : s.length ≤ 68719460000) : macP p s = some (macF p s) := by
 unfold macP; rw [decide_eq_true hp, decide_eq_true hs]; rfl
theorem ybK {p s : Bs} (hp : p.length ≤ 68719470000) (hs : s.length ≤ 68719460000) : zyT p s zoV.l = some (macF p s) := by
 unfold zyT; rw [zbE rfl, ylK hp hs]
theorem zzS {l : Bs} {k : Nat} (h : k < l.length) : l[k] = l.getD k 0 := by simp [List.getD, h]
theorem and_t {a b : Prop} [Decidable a] [Decidable b] (ha : a) (hb : b) : (decide a && decide b) = true := by simp [ha, hb]
theorem b22_ok (L u b o : Bs) (hL : L.length = 32) (hu : u.length = 32) (hb : b.length = 32) : iter (fun x => zjQ L u x.1 x.2.1 x.2.2) ((0 : Int), o, b) = some (o, xorP u b 32) := by
 refine zaW (fun k => ((k : Int), o, xorP u b k)) 32 (by omega) _ (fun k hk => ?_) ?_
 ·unfold zjQ
  simp only []
  have hl := zzY u b k
  rw [zbE (by omega), zgY (and_t (by omega) (by omega)), zaA, zcN rfl (by omega), zaA, zcN rfl (by omega), zaA, zaA, zwT (by omega), zaA, zzS, zzS, zbB (by omega) (by omega)]
  rfl
 ·unfold zjQ
  simp only []
  rw [zaV (by omega)]
theorem b2_ok (u b o : Bs) (hu : u.length = 32) (hb : b.length = 32) : iter (fun x => zoF u x.1 x.2.1 x.2.2) ((0 : Int), o, b) = some (o, xorP u b 32) := by
 refine zaW (fun k => ((k : Int), o, xorP u b k)) 32 (by omega) _ (fun k hk => ?_) ?_
 ·unfold zoF
  simp only []
  have hl := zzY u b k
  rw [zbE (by omega), zgY (and_t (by omega) (by omega)), zaA, zcN rfl (by omega), zaA, zcN rfl (by omega), zaA, zaA, zwT (by omega), zaA, zzS, zzS, zbB (by omega) (by omega)]
  rfl
 ·unfold zoF
  simp only []
  rw [zaV (by omega)]
theorem yjK (p u : Bs) (k : Nat) : rndP p u (k + 1) = (macF p (rndP p u k).1, xorP (macF p (rndP p u k).1) (rndP p u k).2 32) := rfl
attribute [local irreducible] xorP
theorem b32_ok (p u o : Bs) (hp : p.length ≤ 68719470000) (hu : u.length = 32) : iter (fun x => zjR p 4 x.1 x.2.1 x.2.2.1 x.2.2.2) (u, (0 : Int), o, u) = some (o, (rndP p u 3).2) := by
 refine zaW (fun k => ((rndP p u k).1, (k : Int), o, (rndP p u k).2)) 3 (by omega) _ (fun k hk => ?_) ?_
 ·unfold zjR
  simp only []
  have hl := zzN p hu k
  rw [zbE (by rw [zbB (by omega) (by omega)]; omega), ylK hp (by omega), zaA, b22_ok _ _ _ _ hl.2 (zpM _ _) hl.2, zaA, zbB (by omega) (by omega)]
  simp only [yjK]
  rfl
 ·unfold zjR
  simp only []
  rw [zaV (by rw [zbB (by omega) (by omega)]; omega)]
theorem b3_ok (p u o : Bs) (hp : p.length ≤ 68719470000) (hu : u.length = 32) : iter (fun x => zoE p 4 zoV.l x.1 x.2.1 x.2.2.1 x.2.2.2) (u, (1 : Int), o, u) = some (o, (rndP p u 3).2) := by
 refine zaW (fun k => ((rndP p u k).1, ((k : Int) + 1), o, (rndP p u k).2)) 3 (by omega) _ (fun k hk => ?_) ?_
 ·unfold zoE
  simp only []
  have hl := zzN p hu k
  rw [zbE (by omega), ybK hp (by omega), zaA, b2_ok _ _ _ (zpM _ _) hl.2, zaA, zbB (by omega) (by omega)]
  simp only [yjK]
  rfl
 ·unfold zoE
  simp only []
  rw [zaV (by omega)]
theorem ynJ (s : Bs) (hs : s.length ≤ 68719400000) : zuI (i64 (((1 : UInt32)).toNat : Int)) 4 s = some (s ++ [0, 0, 0, 1]) := by
 have h : iter (fun x => zfQ (i64 (((1 : UInt32)).toNat : Int)) x.1 x.2) ((3 : Int) - ((0 : Nat) : Int), s ++ ([0, 0, 0, 1] : Bs).take 0) = some (s ++ [0, 0, 0, 1]) := by
  refine zaW (fun k => ((3 : Int) - (k : Int), s ++ ([0, 0, 0, 1] : Bs).take k)) 4 (by omega) _ (fun k hk => ?_) ?_
  ·unfold zfQ
   simp only []
   have hl : (s ++ ([0, 0, 0, 1] : Bs).take k).length ≤ 68719400004 := by rw [List.length_append, List.length_take]; simp; omega
   rw [zbE (by omega), zgY (decide_eq_true (by rw [zbB (by omega) (by omega)]; omega)), zaA, zbT (by simp only [List.length_cons, List.length_nil]; omega), zaA, zbB (by omega) (by omega), List.append_assoc, show (3 : Int) - (k : Int) - 1 = 3 - ((k + 1 : Nat) : Int) by omega]
   rcases (by omega : k = 0 ∨ k = 1 ∨ k = 2 ∨ k = 3) with rfl | rfl | rfl | rfl <;> rfl
  ·unfold zfQ
   simp only []
   rw [zaV (by omega)]; rfl
 rw [List.take_zero, List.append_nil] at h
 unfold zuI
 rw [show w64 ((4 : Int) - (1 : Int)) = 3 - ((0 : Nat) : Int) from rfl, h, zaA]
theorem b4_ok (p s : Bs) (hp : p.length ≤ 68719470000) (hs : s.length ≤ 68719400000) : iter (fun x => zkI p s 4 32 x.1 x.2) ((1 : UInt32), ([] : Bs)) = some (stF p s) := by
 refine zaW (fun k => bif decide (k = 0) then ((1 : UInt32), ([] : Bs)) else ((2 : UInt32), stF p s)) 1 (by omega) _ (fun k hk => ?_) ?_
 ·cases (by omega : k = 0)
  simp only [decide_true, cond_true]
  unfold zkI
  rw [zbE (by decide), ynJ s hs, zaA, ylK hp (by simp; omega), zaA, b32_ok _ _ _ hp (zpM _ _), zaA, zbT (by have := ztJ p s; unfold stF at this; rw [this]; show 0 + 32 ≤ 68719476736; decide), zaA]
  rfl
 ·simp only [show decide ((1 : Nat) = 0) = false from rfl, cond_false]
  unfold zkI
  rw [zaV (by rw [ztJ]; decide)]
theorem b4R_ok (p s : Bs) (hp : p.length ≤ 68719470000) (hs : s.length ≤ 68719400000) : iter (fun x => znY p s 4 32 zoV.l x.1 x.2) ((1 : Int), ([] : Bs)) = some (stF p s) := by
 refine zaW (fun k => bif decide (k = 0) then ((1 : Int), ([] : Bs)) else ((2 : Int), stF p s)) 1 (by omega) _ (fun k hk => ?_) ?_
 ·cases (by omega : k = 0)
  simp only [decide_true, cond_true]
  unfold znY
  rw [zbE (by decide), show zjN (i32 1) = some [0, 0, 0, 1] from rfl, zaA, zbT (by simp only [List.length_cons, List.length_nil]; omega), zaA, ybK hp (by simp; omega), zaA, b3_ok _ _ _ hp (zpM _ _), zaA, zbT (by have := ztJ p s; unfold stF at this; rw [this]; show 0 + 32 ≤ 68719476736; decide), zaA]
  rfl
 ·simp only [show decide ((1 : Nat) = 0) = false from rfl, cond_false]
  unfold znY
  rw [zaV (by rw [ztJ]; decide)]
theorem ysQ (p s : Bs) : subH (stF p s) 32 = some (stF p s) := by
 rw [show (32 : Int) = ((32 : Nat) : Int) from rfl, zvO (Nat.le_of_eq (ztJ p s).symm), List.take_of_length_le (Nat.le_of_eq (ztJ p s))]
theorem ypG (p s : Bs) (hp : p.length ≤ 68719470000) (hs : s.length ≤ 68719400000) : zfR p s 4 32 = some (stF p s, 0) := by
 unfold zfR
 rw [show ztS 4 32 = some (.inr ()) from rfl, zaA]
 simp only []
 rw [b4_ok p s hp hs, zaA, ysQ, zaA]
theorem ymV (p s : Bs) (hp : p.length ≤ 68719470000) (hs : s.length ≤ 68719400000) : zpK p s 4 32 = some (stF p s, 0) := by
 unfold zpK
 rw [show zwP 4 = some (.inr ()) from rfl, zaA]
 simp only []
 rw [show zwM 32 = some (.inr ()) from rfl, zaA]
 simp only [yjN]
 rw [zaA, b4R_ok p s hp hs, zaA, ysQ, zaA]
end
section
attribute [local irreducible] stF
theorem yaB {p s : Bs} (hp : p.length ≤ 68719470000) (hs : s.length ≤ 1048576) : zeO zaC p s = some (stF p s) := by
 unfold zeO
 rw [show zaC.stretch p s 4 32 = some (stF p s, 0) from ypG p s hp (by omega), zaA]
theorem name_t {u : Bs} (h : u.length ≤ 1048576) : ∃ b, zgW zaC u = some b := by
 unfold zgW zvI
 cases hu : (u != ([] : Bs)) with
 | false => exact ⟨_, rfl⟩
 | true =>
  simp only [cond_true]
  by_cases hl : (u.length : Int) ≤ 24
  ·rw [zbE hl]
   have ht : ∃ v, zaC.trim u ([97, 98, 99, 100, 101, 102, 103, 104, 105, 106, 107, 108, 109, 110, 111, 112, 113, 114, 115, 116, 117, 118, 119, 120, 121, 122, 48, 49, 50, 51, 52, 53, 54, 55, 56, 57, 46, 95, 45] : Bs) = some v := by
    show ∃ v, yjC _ _ = some v
    unfold yjC
    rw [decide_eq_true (show u.length ≤ 9223372036854775807 by omega)]
    exact ⟨_, rfl⟩
   obtain ⟨v, hv⟩ := ht
   rw [hv, zaA, zaA]
   exact ⟨_, rfl⟩
  ·rw [zaV hl]; exact ⟨_, rfl⟩
theorem ybC {es : List (Bs × CrT)} (h : VEs es) (u : Bs) : mhas keqS es u = false ∨ ∃ c, mhas keqS es u = true ∧ (∀ z, zpF keqS es u z = c) ∧ VCr u c := by
 cases hm : mhas keqS es u with
 | false => exact .inl rfl
 | true =>
  right
  obtain ⟨c, hc⟩ := zuL.1 hm
  refine ⟨c, rfl, fun z => ?_, h.each _ hc⟩
  unfold zpF
  rw [ygL h.rises hc]
theorem zwF {es : List (Bs × CrT)} (h : VEs es) {u : Bs} {c : CrT} (hc : VCr u c) (hl : mhas keqS es u = true ∨ es.length < 64) : VEs (mset keqS kltS es u c) := by
 refine ⟨ypP h.rises, ?_, fun p hp => ?_⟩
 ·rw [yyA]
  have := h.len
  split
  ·omega
  ·rename_i hn
   have := hl.resolve_left hn
   omega
 ·rcases yyP hp with rfl | hp
  ·exact hc
  ·exact h.each p hp
theorem zxI {u s h o : Bs} {st f t : Int} {ks : List KeyT} (hn : zgW zaC u = some true) (hu : u.length ≤ 1048576) (hs : s.length = 16) (hh : h.length = 32) (ho : o = [] ∨ (16 ≤ o.length ∧ o.length ≤ 64)) (h1 : 0 ≤ st ∧ st ≤ 2199023255552) (h2 : 0 ≤ f ∧ f ≤ 4) (h3 : 0 ≤ t ∧ t ≤ 2199023255552) (h4 : ks.length ≤ 4)
  (h5 : ∀ k ∈ ks, (1 ≤ k.1.length ∧ k.1.length ≤ 86) ∧ k.2.1.length = 32 ∧ k.2.2.1.length = 32 ∧ 0 ≤ k.2.2.2 ∧ k.2.2.2 ≤ 4294967295) (h6 : ks.Pairwise fun x y => x.1 ≠ y.1) : VCr u (u, s, h, o, st, f, t, ks) := ⟨hn, hu, rfl, hs, hh, ho, h1, h2, h3, h4, h5, h6⟩
def Tot (r : Option (Int × List (Bs × CrT))) : Prop := ∃ e es, r = some (e, es) ∧ VEs es
theorem ywI {es : List (Bs × CrT)} (h : VEs es) {u s p : Bs} (hu : u.length ≤ 1048576) : Tot (zeP zaC u s p es) := by
 obtain ⟨b, hb⟩ := name_t hu
 unfold zeP zqB
 rw [hb, zaA]
 cases b with
 | false => exact ⟨_, _, rfl, h⟩
 | true =>
  simp only [Bool.not_true, cond_false]
  cases hs : ((s.length : Int) != 16) with
  | true => exact ⟨_, _, rfl, h⟩
  | false =>
   have hs : s.length = 16 := by
    have := bne_eq_false_iff_eq.1 hs; omega
   simp only [cond_false]
   rw [ygU, zaA]
   cases hp : (decide ((1 : Int) ≤ (p.length : Int)) && decide ((p.length : Int) ≤ 64)) with
   | false => exact ⟨_, _, rfl, h⟩
   | true =>
    simp only [Bool.and_eq_true, decide_eq_true_eq] at hp
    simp only [Bool.not_true, cond_false]
    rw [zaA]
    simp only []
    have fin : ∀ c0 : CrT, (mhas keqS es u = true ∨ es.length < 64) → (c0.2.2.2.1 = [] ∨ (16 ≤ c0.2.2.2.1.length ∧ c0.2.2.2.1.length ≤ 64)) → (0 ≤ c0.2.2.2.2.1 ∧ c0.2.2.2.2.1 ≤ 2199023255552) → c0.2.2.2.2.2.2.2.length ≤ 4 → (∀ k ∈ c0.2.2.2.2.2.2.2, (1 ≤ k.1.length ∧ k.1.length ≤ 86) ∧ k.2.1.length = 32 ∧ k.2.2.1.length = 32 ∧ 0 ≤ k.2.2.2 ∧ k.2.2.2 ≤ 4294967295) → (c0.2.2.2.2.2.2.2.Pairwise fun x y => x.1 ≠ y.1) →
      Tot (Option.bind (zeO zaC p s) fun v13 => some ((0 : Int), mset keqS kltS es u ((u, s, v13, c0.2.2.2.1, c0.2.2.2.2.1, (0 : Int), (0 : Int), c0.2.2.2.2.2.2.2) : CrT))) := fun c0 g0 g1 g2 g3 g4 g5 => by
     rw [yaB (by omega) (by omega), zaA]
     exact ⟨_, _, rfl, zwF h (zxI hb hu hs (ztJ _ _) g1 g2 (by omega) (by omega) g3 g4 g5) g0⟩
    rcases ybC h u with hm | ⟨c, hm, hg, hv⟩
    ·have hz : ∀ z : CrT, zpF keqS es u z = z := fun z => by
      unfold zpF
      cases hq : mget keqS es u with
      | none => rfl
      | some v => rw [zuL.2 ⟨v, ycP hq⟩] at hm; cases hm
     simp only [hz]
     unfold zkL
     rw [hm]
     simp only [Bool.not_false, cond_true]
     by_cases hl : (es.length : Int) ≥ 64
     ·rw [zbE hl]; exact ⟨_, _, rfl, h⟩
     ·rw [zaV hl, zaA]
      exact fin ([], [], [], [], 0, 0, 0, []) (.inr (by omega)) (.inl rfl) ⟨by show (0 : Int) ≤ 0; omega, by show (0 : Int) ≤ 2199023255552; omega⟩ (Nat.zero_le _) (fun k hk => by cases hk) .nil
    ·simp only [hg]
     unfold zkL
     rw [hm]
     simp only [Bool.not_true, cond_false]
     rw [zaA]
     exact fin c (.inl hm) hv.otp hv.step hv.keys hv.may hv.ids
theorem xaR (now : Int) : zmR zaC now = some (decide (0 ≤ now) && decide (now ≤ 1099511627776)) := by
 unfold zmR
 rw [ygU, zaA]
theorem xeN {u s h o p : Bs} {st f t now : Int} {ks : List KeyT} (hs : s.length = 16) (hh : h.length = 32) (hf : 0 ≤ f ∧ f ≤ 4) (ht : 0 ≤ t ∧ t ≤ 2199023255552) (hn : 0 ≤ now ∧ now ≤ 1099511627776) :
  ∃ e f' t', zfK zaC u s h o st f t ks now p = some (e, u, s, h, o, st, f', t', ks, now, p) ∧ (0 ≤ f' ∧ f' ≤ 4) ∧ (0 ≤ t' ∧ t' ≤ 2199023255552) := by
 unfold zfK
 by_cases hu : now < t
 ·rw [zbE hu]; exact ⟨_, _, _, rfl, hf, ht⟩
 ·rw [zaV hu]
  have h0 : ∃ b, zhR zaC u s h o st f t ks now p = some (b, u, s, h, o, st, f, t, ks, now, p) := by
   unfold zhR
   rw [ygU, zaA]
   cases hp : (decide ((1 : Int) ≤ (p.length : Int)) && decide ((p.length : Int) ≤ 64)) with
   | false => exact ⟨_, rfl⟩
   | true =>
    simp only [Bool.and_eq_true, decide_eq_true_eq] at hp
    simp only [cond_true]
    rw [yaB (by omega) (by omega), zaA, show zaC.same (stF p s) h = some (stF p s == h) from ?_, zaA]
    ·exact ⟨_, rfl⟩
    ·show yrS _ _ = _
     unfold yrS
     rw [ztJ, hh]; rfl
  obtain ⟨b, hb⟩ := h0
  unfold zlG
  rw [hb, zaA]
  cases b with
  | true => exact ⟨_, _, _, rfl, by omega, by omega⟩
  | false =>
   simp only [cond_false]
   rw [zaA]
   simp only []
   rw [zbB (by omega) (by omega), zbB (by omega) (by omega)]
   cases h5 : ((f + 1 : Int) == 5) with
   | true => exact ⟨_, _, _, rfl, by omega, by omega⟩
   | false =>
    have h5 := beq_eq_false_iff_ne.1 h5
    exact ⟨_, _, _, rfl, by omega, by omega⟩
theorem yjZ {es : List (Bs × CrT)} (h : VEs es) {u p : Bs} {now : Int} : Tot (zaY zaC u p now es) := by
 unfold zaY
 rw [xaR, zaA]
 cases hn : (decide (0 ≤ now) && decide (now ≤ 1099511627776)) with
 | false => exact ⟨_, _, rfl, h⟩
 | true =>
  simp only [Bool.and_eq_true, decide_eq_true_eq] at hn
  simp only [Bool.not_true, cond_false]
  unfold zkP
  rcases ybC h u with hm | ⟨c, hm, hg, hv⟩
  ·rw [hm]; exact ⟨_, _, rfl, h⟩
  ·simp only [hg, hm, Bool.not_true, cond_false]
   obtain ⟨e, f', t', h1, h2, h3⟩ := xeN (u := c.1) (o := c.2.2.2.1) (p := p) (st := c.2.2.2.2.1) (ks := c.2.2.2.2.2.2.2) hv.salt hv.hash hv.fails hv.till hn
   rw [h1, zaA, zaA]
   exact ⟨_, _, rfl, zwF h (by rw [hv.user]; exact zxI hv.name hv.nlen hv.salt hv.hash hv.otp hv.step h2 h3 hv.keys hv.may hv.ids) (.inl hm)⟩
theorem yjA {es : List (Bs × CrT)} (h : VEs es) {u a : Bs} : Tot (zdS zaC u a es) := by
 unfold zdS zjZ
 rcases ybC h u with hm | ⟨c, hm, hg, hv⟩
 ·rw [hm]; exact ⟨_, _, rfl, h⟩
 ·simp only [hg, hm, Bool.not_true, cond_false]
  unfold ziN
  rw [ygU, zaA]
  cases hp : (decide ((16 : Int) ≤ (a.length : Int)) && decide ((a.length : Int) ≤ 64)) with
  | false =>
   simp only [Bool.not_false, cond_true]
   rw [zaA, zaA]
   exact ⟨_, _, rfl, zwF h (by rw [hv.user]; exact zxI hv.name hv.nlen hv.salt hv.hash hv.otp hv.step hv.fails hv.till hv.keys hv.may hv.ids) (.inl hm)⟩
  | true =>
   simp only [Bool.and_eq_true, decide_eq_true_eq] at hp
   simp only [Bool.not_true, cond_false]
   rw [zaA, zaA]
   exact ⟨_, _, rfl, zwF h (by rw [hv.user]; exact zxI hv.name hv.nlen hv.salt hv.hash (.inr ⟨by simp only []; omega, by simp only []; omega⟩) (by simp only []; omega) hv.fails hv.till hv.keys hv.may hv.ids) (.inl hm)⟩
theorem findF_mem' {f : Int → Bs} {code : Bs} : ∀ {l : List Int} {r : Int}, zvK f code l = (r, true) → r ∈ l
 | [], _, h => by cases h
 | s :: l, r, h => by
  unfold zvK at h
  cases hb : f s == code with
  | true => rw [hb] at h; cases h; exact List.mem_cons_self ..
  | false => rw [hb] at h; exact List.mem_cons_of_mem _ (findF_mem' h)
theorem downL_le' : ∀ {n : Nat} {hi x : Int}, x ∈ Fd.downL hi n → x ≤ hi
 | 0, _, _, h => by cases h
 | n + 1, hi, x, h => by
  rcases List.mem_cons.1 h with rfl | h
  ·omega
  ·have := downL_le' h; omega
theorem xfJ {u s h o cd : Bs} {st f t now : Int} {ks : List KeyT} (ho : o.length ≤ 64) (hc : cd.length ≤ 68719476736) (h1 : 0 ≤ st ∧ st ≤ 2199023255552) (hn : 0 ≤ now ∧ now ≤ 1099511627776) :
  ∃ e st', zfW zaC u s h o st f t ks cd now = some (e, u, s, h, o, st', f, t, ks, cd, now) ∧ (0 ≤ st' ∧ st' ≤ 2199023255552) := by
 have hd : w64 (Int.tdiv now 30) = now / 30 := by rw [Int.tdiv_eq_ediv_of_nonneg hn.1]; exact zbB (by omega) (by omega)
 have hf : zaC.find o cd (now / 30) 1 = some (zvK (codeF o) cd (Fd.stepsL (now / 30) 1)) := by
  show yiD o cd (now / 30) 1 = _
  unfold yiD
  rw [zyC (by omega) (by omega)]; rfl
 unfold zfW
 cases hz : (o == ([] : Bs)) with
 | true => exact ⟨_, _, rfl, h1⟩
 | false =>
  simp only [cond_false]
  rw [zgY (c := ((30 : Int) != 0)) rfl, zaA, hd, hf, zaA]
  cases hr : zvK (codeF o) cd (Fd.stepsL (now / 30) 1) with
  | mk r b =>
   unfold zmQ
   cases b with
   | false => exact ⟨_, _, rfl, h1⟩
   | true =>
    simp only [Bool.not_true, cond_false]
    by_cases hs : r < st
    ·rw [zbE hs]; exact ⟨_, _, rfl, h1⟩
    ·rw [zaV hs, zaA]
     have hm := findF_mem' hr
     rw [Fd.stepsL_in (by omega) (by omega) (by omega) (by omega)] at hm
     have := downL_le' hm
     simp only []
     rw [zbB (by omega) (by omega)]
     exact ⟨_, _, rfl, by omega⟩
theorem ynU {es : List (Bs × CrT)} (h : VEs es) {u cd : Bs} {now : Int} (hc : cd.length ≤ 68719476736) : Tot (zcE zaC u cd now es) := by
 unfold zcE
 rw [xaR, zaA]
 cases hn : (decide (0 ≤ now) && decide (now ≤ 1099511627776)) with
 | false => exact ⟨_, _, rfl, h⟩
 | true =>
  simp only [Bool.and_eq_true, decide_eq_true_eq] at hn
  simp only [Bool.not_true, cond_false]
  unfold zjX
  rcases ybC h u with hm | ⟨c, hm, hg, hv⟩
  ·rw [hm]; exact ⟨_, _, rfl, h⟩
  ·simp only [hg, hm, Bool.not_true, cond_false]
   obtain ⟨e, st', h1, h2⟩ := xfJ (u := c.1) (s := c.2.1) (h := c.2.2.1) (f := c.2.2.2.2.2.1) (t := c.2.2.2.2.2.2.1) (ks := c.2.2.2.2.2.2.2) (o := c.2.2.2.1) (by rcases hv.otp with ho | ho; rw [ho]; exact Nat.zero_le _; exact ho.2) hc hv.step hn
   rw [h1, zaA, zaA]
   exact ⟨_, _, rfl, zwF h (by rw [hv.user]; exact zxI hv.name hv.nlen hv.salt hv.hash hv.otp h2 hv.fails hv.till hv.keys hv.may hv.ids) (.inl hm)⟩
theorem at_t (l : List KeyT) (id : Bs) (hl : l.length ≤ 4) : (zfZ zaC l id = some (-1) ∧ ∀ k ∈ l, k.1 ≠ id) ∨ ∃ i : Nat, ∃ hi : i < l.length, zfZ zaC l id = some (i : Int) ∧ l[i].1 = id := by
 by_cases hex : ∃ i : Nat, ∃ hi : i < l.length, l[i].1 = id ∧ ∀ j, (hj : j < i) → (l[j]'(by omega)).1 ≠ id
 ·right
  obtain ⟨i, hi, h1, h2⟩ := hex
  have hit : iter (fun x => zbM zaC l x.1 x.2) (((0 : Nat) : Int), id) = some (Sum.inl ((i : Int), id)) := by
   refine zaW (fun k => ((k : Int), id)) i (by omega) (Sum.inl ((i : Int), id)) (fun k hk => ?_) ?_
   ·unfold zbM
    simp only []
    rw [zbE (by omega), zcN rfl (show k < l.length by omega), zaA]
    unfold zmI
    rw [zaA]
    simp only []
    rw [show (l[k].1 == id) = false from beq_eq_false_iff_ne.2 (h2 k hk), zbB (by omega) (by omega)]
    rfl
   ·unfold zbM
    simp only []
    rw [zbE (by omega), zcN rfl hi, zaA]
    unfold zmI
    rw [zaA]
    simp only []
    rw [show (l[i].1 == id) = true from beq_iff_eq.2 h1]
    rfl
  have hit : iter (fun x => zbM zaC l x.1 x.2) ((0 : Int), id) = some (Sum.inl ((i : Int), id)) := hit
  refine ⟨i, hi, ?_, h1⟩
  unfold zfZ ziC
  rw [hit, zaA]
  simp only []
  rw [zaA]
 ·left
  have hno : ∀ k ∈ l, k.1 ≠ id := fun k hk e => by
   have hsome : ∃ i, i < l.length ∧ (fun i => !(decide (∃ hi : i < l.length, l[i].1 = id))) i = false := by
    obtain ⟨i, hi, rfl⟩ := List.getElem_of_mem hk
    exact ⟨i, hi, by simp [hi, e]⟩
   obtain ⟨i, hi, h1, h2⟩ := zmF l.length hsome
   simp only [Bool.not_eq_false', decide_eq_true_eq] at h1
   obtain ⟨_, h1⟩ := h1
   refine hex ⟨i, hi, h1, fun j hj e2 => ?_⟩
   have := h2 j hj
   simp only [Bool.not_eq_true', decide_eq_false_iff_not] at this
   exact this ⟨by omega, e2⟩
  exact ⟨yoE id l hl hno, hno⟩
theorem may_b (k : KeyT) : (zeR zaC k = some true ∧ ((1 ≤ k.1.length ∧ k.1.length ≤ 86) ∧ k.2.1.length = 32 ∧ k.2.2.1.length = 32 ∧ 0 ≤ k.2.2.2 ∧ k.2.2.2 ≤ 4294967295)) ∨ zeR zaC k = some false := by
 by_cases h : (1 ≤ k.1.length ∧ k.1.length ≤ 86) ∧ k.2.1.length = 32 ∧ k.2.2.1.length = 32 ∧ 0 ≤ k.2.2.2 ∧ k.2.2.2 ≤ 4294967295
 ·exact .inl ⟨may_t h, h⟩
 ·right
  unfold zeR
  rw [ygU, zaA, ygU]
  cases h1 : (decide ((1 : Int) ≤ (k.1.length : Int)) && decide ((k.1.length : Int) ≤ 86)) with
  | false => rfl
  | true =>
   cases h2 : ((k.2.1.length : Int) == 32) with
   | false => rfl
   | true =>
    cases h3 : ((k.2.2.1.length : Int) == 32) with
    | false => rfl
    | true =>
     simp only [cond_true]
     rw [zaA]
     cases h4 : (decide ((0 : Int) ≤ k.2.2.2) && decide (k.2.2.2 ≤ 4294967295)) with
     | false => rfl
     | true =>
      simp only [Bool.and_eq_true, decide_eq_true_eq, beq_iff_eq] at h1 h2 h3 h4
      exact absurd ⟨by omega, by omega, by omega, h4⟩ h
theorem yeD {es : List (Bs × CrT)} (h : VEs es) {u : Bs} {k : KeyT} : Tot (zcD zaC u k es) := by
 unfold zcD zkA
 rcases ybC h u with hm | ⟨c, hm, hg, hv⟩
 ·rw [hm]; exact ⟨_, _, rfl, h⟩
 ·simp only [hg, hm, Bool.not_true, cond_false]
  have same : Tot (some ((155 : Int), mset keqS kltS es u (c.1, c.2.1, c.2.2.1, c.2.2.2.1, c.2.2.2.2.1, c.2.2.2.2.2.1, c.2.2.2.2.2.2.1, c.2.2.2.2.2.2.2))) := ⟨_, _, rfl, zwF h (by rw [hv.user]; exact zxI hv.name hv.nlen hv.salt hv.hash hv.otp hv.step hv.fails hv.till hv.keys hv.may hv.ids) (.inl hm)⟩
  have same2 : Tot (some ((156 : Int), mset keqS kltS es u (c.1, c.2.1, c.2.2.1, c.2.2.2.1, c.2.2.2.2.1, c.2.2.2.2.2.1, c.2.2.2.2.2.2.1, c.2.2.2.2.2.2.2))) := ⟨_, _, rfl, zwF h (by rw [hv.user]; exact zxI hv.name hv.nlen hv.salt hv.hash hv.otp hv.step hv.fails hv.till hv.keys hv.may hv.ids) (.inl hm)⟩
  unfold zhQ zkX
  rcases may_b k with ⟨hmay, hk⟩ | hmay
  ·rw [show zeR zaC (k.1, k.2.1, k.2.2.1, k.2.2.2) = some true from hmay, zaA]
   simp only [Bool.not_true, cond_false]
   rcases at_t c.2.2.2.2.2.2.2 k.1 hv.keys with ⟨ha, hno⟩ | ⟨i, hi, ha, he⟩
   ·rw [ha, zaA, zaV (by decide), zaA]
    simp only []
    by_cases hl : (c.2.2.2.2.2.2.2.length : Int) ≥ 4
    ·rw [zbE hl, zaA, zaA]; exact same2
    ·have hv2 : VCr u (u, c.2.1, c.2.2.1, c.2.2.2.1, c.2.2.2.2.1, c.2.2.2.2.2.1, c.2.2.2.2.2.2.1, c.2.2.2.2.2.2.2 ++ [(k.1, k.2.1, k.2.2.1, k.2.2.2)]) := by
      refine zxI hv.name hv.nlen hv.salt hv.hash hv.otp hv.step hv.fails hv.till (by rw [List.length_append]; simp only [List.length_cons, List.length_nil]; omega) (fun q hq => ?_) ?_
      ·rcases List.mem_append.1 hq with hq | hq
       ·exact hv.may q hq
       ·rw [List.mem_singleton.1 hq]; exact hk
      ·refine List.pairwise_append.2 ⟨hv.ids, List.pairwise_singleton _ _, fun a ha b hb => ?_⟩
       rw [List.mem_singleton.1 hb]
       exact hno a ha
     rw [zaV hl, zbT (by simp only [List.length_cons, List.length_nil]; omega), zaA, zaA, zaA]
     exact ⟨_, _, rfl, zwF h (by rw [hv.user]; exact hv2) (.inl hm)⟩
   ·rw [ha, zaA, zbE (by omega), zaA, zaA, zaA]; exact same
  ·rw [show zeR zaC (k.1, k.2.1, k.2.2.1, k.2.2.2) = some false from hmay, zaA]
   simp only [Bool.not_false, cond_true]
   rw [zaA, zaA, zaA]; exact same
theorem yvC {ks : List KeyT} {i : Nat} (hi : i < ks.length) {n : Int} (hn : 0 ≤ n ∧ n ≤ 4294967295) (h : ∀ k ∈ ks, (1 ≤ k.1.length ∧ k.1.length ≤ 86) ∧ k.2.1.length = 32 ∧ k.2.2.1.length = 32 ∧ 0 ≤ k.2.2.2 ∧ k.2.2.2 ≤ 4294967295) : ∀ k ∈ ks.set i (ks[i].1, ks[i].2.1, ks[i].2.2.1, n), (1 ≤ k.1.length ∧ k.1.length ≤ 86) ∧ k.2.1.length = 32 ∧ k.2.2.1.length = 32 ∧ 0 ≤ k.2.2.2 ∧ k.2.2.2 ≤ 4294967295 := fun k hk => by
 rcases List.mem_or_eq_of_mem_set hk with hk | rfl
 ·exact h k hk
 ·have := h _ (List.getElem_mem hi)
  exact ⟨this.1, this.2.1, this.2.2.1, hn⟩
theorem yvG {ks : List KeyT} {i : Nat} (hi : i < ks.length) {n : Int} (h : ks.Pairwise fun x y => x.1 ≠ y.1) : (ks.set i (ks[i].1, ks[i].2.1, ks[i].2.2.1, n)).Pairwise fun x y => x.1 ≠ y.1 := by
 have e : (ks.set i (ks[i].1, ks[i].2.1, ks[i].2.2.1, n)).map (·.1) = ks.map (·.1) := by
  apply List.ext_getElem
  ·simp
  ·intro j h1 h2
   simp only [List.getElem_map, List.getElem_set]
   split
   ·rename_i h3; subst h3; rfl
   ·rfl
 have h2 : (ks.map (·.1)).Pairwise (· ≠ ·) := List.pairwise_map.2 h
 rw [← e] at h2
 exact List.pairwise_map.1 h2
theorem xdL {u s h o id : Bs} {st f t n : Int} {ks : List KeyT} (hk : ks.length ≤ 4) (hm : ∀ k ∈ ks, (1 ≤ k.1.length ∧ k.1.length ≤ 86) ∧ k.2.1.length = 32 ∧ k.2.2.1.length = 32 ∧ 0 ≤ k.2.2.2 ∧ k.2.2.2 ≤ 4294967295) (hi : ks.Pairwise fun x y => x.1 ≠ y.1) :
  ∃ e ks', zfH zaC u s h o st f t ks id n = some (e, u, s, h, o, st, f, t, ks', id, n) ∧ ks'.length ≤ 4 ∧ (∀ k ∈ ks', (1 ≤ k.1.length ∧ k.1.length ≤ 86) ∧ k.2.1.length = 32 ∧ k.2.2.1.length = 32 ∧ 0 ≤ k.2.2.2 ∧ k.2.2.2 ≤ 4294967295) ∧ ks'.Pairwise fun x y => x.1 ≠ y.1 := by
 unfold zfH
 rcases at_t ks id hk with ⟨ha, _⟩ | ⟨i, hlt, ha, _⟩
 ·rw [ha, zaA, zbE (by decide)]; exact ⟨_, _, rfl, hk, hm, hi⟩
 ·have hki := hm _ (List.getElem_mem hlt)
  rw [ha, zaA, zaV (by omega), zcN rfl hlt, zaA]
  have hj : zfC zaC u s h o st f t ks id n ks[i] = some (.inl (153, u, s, h, o, st, f, t, ks, id, n)) ∨ (zfC zaC u s h o st f t ks id n ks[i] = some (.inr (u, s, h, o, st, f, t, ks, id, n)) ∧ 0 ≤ n ∧ n ≤ 4294967295) := by
   unfold zfC
   by_cases g1 : n > 4294967295
   ·rw [zbE g1]; exact .inl rfl
   ·rw [zaV g1]
    by_cases g2 : n ≤ ks[i].2.2.2
    ·rw [zbE g2]
     cases g3 : (n != 0) with
     | true => exact .inl rfl
     | false =>
      cases g4 : (ks[i].2.2.2 != 0) with
      | true => exact .inl rfl
      | false =>
       have g3 := bne_eq_false_iff_eq.1 g3
       exact .inr ⟨rfl, by omega, by omega⟩
    ·rw [zaV g2]; exact .inr ⟨rfl, by omega, by omega⟩
  rcases hj with hj | ⟨hj, hn⟩
  ·rw [hj, zaA]; exact ⟨_, _, rfl, hk, hm, hi⟩
  ·rw [hj, zaA]
   simp only []
   rw [zuO ks (by omega), zaA, zgY (zyC (by omega) (by omega)), zaA, zcN rfl hlt, zaA]
   rw [show setL ks (i : Int) (ks[i].1, ks[i].2.1, ks[i].2.2.1, n) = some (ks.set i (ks[i].1, ks[i].2.1, ks[i].2.2.1, n)) from ?_, zaA]
   ·exact ⟨_, _, rfl, by rw [List.length_set]; exact hk, yvC hlt hn hm, yvG hlt hi⟩
   ·unfold setL
    rw [zyC (by omega) (by omega)]; rfl
theorem yiL {es : List (Bs × CrT)} (h : VEs es) {u id : Bs} {n : Int} : Tot (zbK zaC u id n es) := by
 unfold zbK zjU
 rcases ybC h u with hm | ⟨c, hm, hg, hv⟩
 ·rw [hm]; exact ⟨_, _, rfl, h⟩
 ·simp only [hg, hm, Bool.not_true, cond_false]
  obtain ⟨e, ks', h1, h2, h3, h4⟩ := xdL (u := c.1) (s := c.2.1) (h := c.2.2.1) (o := c.2.2.2.1) (id := id) (st := c.2.2.2.2.1) (f := c.2.2.2.2.2.1) (t := c.2.2.2.2.2.2.1) (n := n) hv.keys hv.may hv.ids
  rw [h1, zaA, zaA]
  exact ⟨_, _, rfl, zwF h (by rw [hv.user]; exact zxI hv.name hv.nlen hv.salt hv.hash hv.otp hv.step hv.fails hv.till h2 h3 h4) (.inl hm)⟩
end
section
theorem xbN {α : Type} {c : Bool} {a b : Option α} (ha : ∃ r, a = some r) (hb : ∃ r, b = some r) : ∃ r, (bif c then a else b) = some r := by cases c <;> assumption
theorem yyE (b : UInt8) : ∃ r, zeK zaC b = some r := by
 unfold zeK
 repeat' first | exact ⟨_, rfl⟩ | apply xbN
theorem yoY {u : Bs} (h : u.length ≤ 1048576) : ∃ r, zdV zaC u = some r := by
 have hi := zmE (body := zhM zaC u) (fun i => 0 ≤ i ∧ i ≤ (u.length : Int)) (fun i => (u.length - i).toNat) (fun _ => True) (fun i hi => by
  unfold zhM
  by_cases h1 : i < (u.length : Int)
  ·obtain ⟨j, rfl⟩ : ∃ j : Nat, i = j := ⟨i.toNat, by omega⟩
   obtain ⟨r, hr⟩ := yyE (u[j]'(by omega))
   rw [zbE h1, zcN rfl (by omega), zaA, hr, zaA]
   cases r with
   | true =>
    left
    simp only [Bool.not_true, cond_false]
    rw [zbB (by omega) (by omega)]
    exact ⟨_, rfl, by omega, by omega⟩
   | false => right; exact ⟨_, rfl, trivial⟩
  ·right
   rw [zaV h1]
   exact ⟨_, rfl, trivial⟩) (s := (0 : Int)) (by omega) (by simp; omega)
 obtain ⟨b, h1, _⟩ := hi
 unfold zdV
 rw [h1, zaA]
 cases b with
 | inl r => exact ⟨_, rfl⟩
 | inr r =>
  simp only []
  cases decide ((u.length : Int) ≥ 1) <;> exact ⟨_, rfl⟩
theorem mac4_t {k s : Bs} (hk : k.length ≤ 1048576) (hs : s.length ≤ 1048576) : zpR zaC k s = some (macF k s) := by
 unfold zpR yjN
 rw [zaA, ybK (by omega) (by omega), zaA]
attribute [local irreducible] macF
theorem xbT {a : Bs} (ha : a.length ≤ 1048576) (n : Int) : ∃ r, zwU zaC a n = some r := by
 have h0 : ∃ m : Bs, m.length ≤ 1048576 ∧ iter (fun x => zuQ zaC n x.1 x.2) ((56 : Int), ([] : Bs)) = some m := by
  have hi := zmE (body := fun (x : Int × Bs) => zuQ zaC n x.1 x.2) (fun x => -8 ≤ x.1 ∧ x.1 ≤ 56 ∧ (x.2.length : Int) * 8 + x.1 = 56) (fun x => (x.1 + 8).toNat) (fun m => m.length ≤ 1048576) (fun x hx => by
   obtain ⟨i, m⟩ := x
   obtain ⟨h1, h2, h3⟩ := hx
   simp only at h1 h2 h3
   unfold zuQ
   simp only []
   by_cases h : i ≥ 0
   ·left
    rw [zbE h, zgY (decide_eq_true h), zaA, zbT (by simp only [List.length_cons, List.length_nil]; omega), zaA, zbB (by omega) (by omega)]
    exact ⟨_, rfl, ⟨by simp only []; omega, by simp only []; omega, by simp only [List.length_append, List.length_cons, List.length_nil]; omega⟩, by simp only []; omega⟩
   ·right
    rw [zaV h]
    exact ⟨_, rfl, by omega⟩) (s := ((56 : Int), ([] : Bs))) (by simp) (by simp)
  obtain ⟨m, h1, h2⟩ := hi
  exact ⟨m, h2, h1⟩
 obtain ⟨m, hm, h0⟩ := h0
 have hl := zpM a m
 have hoff : ∀ b : UInt8, ((b &&& (15 : UInt8)).toNat : Nat) ≤ 15 := fun b => by
  rw [UInt8.toNat_and]; exact Nat.and_le_right
 unfold zwU
 rw [h0, zaA, mac4_t ha hm, zaA, show idx (macF a m) 31 = some ((macF a m)[31]'(by omega)) from zcN (i := 31) rfl (by omega), zaA]
 have ho := hoff ((macF a m)[31]'(by omega))
 generalize ((macF a m)[31]'(by omega) &&& (15 : UInt8)).toNat = off at ho ⊢
 rw [zbB (x := (off : Int)) (by omega) (by omega), zcN rfl (show off < (macF a m).length by omega), zaA, zgY (by decide), zaA]
 try simp only []
 rw [zbB (x := (off : Int) + 1) (by omega) (by omega), zcN (j := (off : Int) + 1) (i := off + 1) (by omega) (by omega), zaA, zgY (by decide), zaA]
 try simp only []
 rw [zbB (x := (off : Int) + 2) (by omega) (by omega), zcN (j := (off : Int) + 2) (i := off + 2) (by omega) (by omega), zaA, zgY (by decide), zaA]
 try simp only []
 rw [zbB (x := (off : Int) + 3) (by omega) (by omega), zcN (j := (off : Int) + 3) (i := off + 3) (by omega) (by omega), zaA]
 generalize (bits .or .i64 (bits .or .i64 _ _) _) = v13
 generalize (macF a m)[off + 3]'(by omega) = v14
 have hi := zmE (body := fun (x : Int × Bs) => zyA zaC v13 v14 x.1 x.2) (fun x => 0 ≤ x.1 ∧ x.1 ≤ 100000 ∧ x.2.length ≤ 100000 - x.1.toNat) (fun x => x.1.toNat) (fun _ => True) (fun x hx => by
  obtain ⟨i, l⟩ := x
  obtain ⟨h1, h2, h3⟩ := hx
  simp only at h1 h2 h3
  unfold zyA
  simp only []
  by_cases h : i > 0
  ·left
   have hd : Int.tdiv i 10 = i / 10 := Int.tdiv_eq_ediv_of_nonneg h1
   rw [zbE h, zgY (bne_iff_ne.2 (by omega)), zaA, zgY (by decide), zaA, zbT (by simp only [List.length_cons, List.length_nil]; omega), zaA, zgY (c := ((10 : Int) != 0)) rfl, zaA, hd, zbB (x := i / 10) (by omega) (by omega)]
   exact ⟨_, rfl, ⟨by simp only []; omega, by simp only []; omega, by simp only [List.length_append, List.length_cons, List.length_nil]; omega⟩, by simp only []; omega⟩
  ·right
   rw [zaV h]
   exact ⟨_, rfl, trivial⟩) (s := ((100000 : Int), ([] : Bs))) (by simp) (by simp)
 obtain ⟨b, h1, _⟩ := hi
 rw [h1, zaA]
 exact ⟨_, rfl⟩
theorem xcT {a c : Bs} (ha : a.length ≤ 1048576) {s : Int} (h0 : 0 ≤ s) (h1 : s ≤ 1099511627776 / 30) : ∃ r, ztG zaC a c s 1 = some r := by
 have hi := zmE (body := zxZ zaC a c s 1) (fun i => -1 ≤ i ∧ i ≤ s + 1) (fun i => (i + 1).toNat) (fun _ => True) (fun i hi => by
  unfold zxZ ydF
  rw [zbB (x := s - 1) (by omega) (by omega)]
  by_cases h2 : i ≥ s - 1
  ·rw [zbE h2]
   by_cases h3 : i ≥ 0
   ·rw [zbE h3, zaA]
    simp only []
    obtain ⟨r, hr⟩ := xbT ha i
    rw [hr, zaA]
    cases r == c with
    | true => right; exact ⟨_, rfl, trivial⟩
    | false =>
     left
     simp only [cond_false]
     rw [zbB (by omega) (by omega)]
     exact ⟨_, rfl, by omega, by omega⟩
   ·rw [zaV h3, zaA]; right; exact ⟨_, rfl, trivial⟩
  ·rw [zaV h2, zaA]; right; exact ⟨_, rfl, trivial⟩) (s := s + 1) (by omega) (by omega)
 obtain ⟨b, hb, _⟩ := hi
 unfold ztG
 have hj : zxN zaC s 1 = some (.inr ()) := by
  unfold zxN
  rw [zaV (by omega), zaV (by omega), zaV (by decide), zaV (by decide)]
 rw [hj, zaA]
 simp only []
 rw [zbB (by omega) (by omega), hb, zaA]
 cases b <;> exact ⟨_, rfl⟩
structure VY (l : List CrT) : Prop where
 len : l.length ≤ 64
 each : ∀ c ∈ l, c.2.1.length = 16 ∧ c.2.2.2.1.length ≤ 64 ∧ c.2.2.2.2.2.2.2.length ≤ 4
def TotY (r : Option (Int × List CrT)) : Prop := ∃ e l, r = some (e, l) ∧ VY l
theorem zzU {p s : Bs} (hp : p.length ≤ 68719470000) (hs : s.length ≤ 1048576) : zbV zaC p s = some (stF p s) := by
 unfold zbV
 rw [ymV p s hp (by omega), zaA]
theorem xeL {l : List CrT} (h : VY l) (u : Bs) : ∃ (k : Nat) (b : Bool), k ≤ l.length ∧ zaP zaC u l = some ((k : Int), b, l) ∧ (b = true → ∃ hk : k < l.length, l[k].1 = u) := by
 have hl := h.len
 have hi := zmE (body := fun (x : Int × List CrT) => zeX zaC u x.1 x.2) (fun x => 0 ≤ x.1 ∧ x.1 ≤ (l.length : Int) ∧ x.2 = l) (fun x => (l.length - x.1).toNat) (fun b => 0 ≤ b.1 ∧ b.1 ≤ (l.length : Int) ∧ b.2 = l) (fun x hx => by
  obtain ⟨i, m⟩ := x
  obtain ⟨h1, h2, h3⟩ := hx
  simp only at h1 h2 h3
  subst h3
  unfold zeX
  simp only []
  by_cases hlt : i < (m.length : Int)
  ·obtain ⟨j, rfl⟩ : ∃ j : Nat, i = j := ⟨i.toNat, by omega⟩
   rw [zbE hlt, zcN rfl (show j < m.length by omega), zaA]
   cases Op.bytesLess (m[j]'(by omega)).1 u with
   | true =>
    left
    simp only [cond_true]
    rw [zbB (by omega) (by omega)]
    exact ⟨_, rfl, ⟨by simp only []; omega, by simp only []; omega, rfl⟩, by simp only []; omega⟩
   | false => right; exact ⟨_, rfl, by omega, by omega, rfl⟩
  ·right
   rw [zaV hlt]
   exact ⟨_, rfl, h1, h2, rfl⟩) (s := ((0 : Int), l)) ⟨by simp, by simp, rfl⟩ (by simp; omega)
 obtain ⟨⟨i, m⟩, hb, h1, h2, h3⟩ := hi
 simp only at h1 h2 h3
 subst h3
 obtain ⟨k, rfl⟩ : ∃ k : Nat, i = k := ⟨i.toNat, by omega⟩
 unfold zaP
 rw [hb, zaA]
 simp only []
 by_cases hlt : (k : Int) < (m.length : Int)
 ·have hk : k < m.length := by omega
  rw [zbE hlt, zcN rfl hk, zaA]
  exact ⟨k, _, by omega, rfl, fun e => ⟨hk, beq_iff_eq.1 e⟩⟩
 ·rw [zaV hlt]
  exact ⟨k, false, by omega, rfl, fun e => by cases e⟩
theorem yaO {l : List CrT} (h : VY l) (u : Bs) : (zaH zaC u l = some (([], [], [], [], 0, 0, 0, []), false, l)) ∨ ∃ c, zaH zaC u l = some (c, true, l) ∧ c ∈ l ∧ c.1 = u ∧ ∃ k : Nat, k < l.length ∧ zaP zaC u l = some ((k : Int), true, l) := by
 obtain ⟨k, b, h1, h2, h3⟩ := xeL h u
 unfold zaH
 rw [h2, zaA]
 cases b with
 | false => exact .inl rfl
 | true =>
  obtain ⟨hk, he⟩ := h3 rfl
  right
  simp only [Bool.not_true, cond_false]
  rw [zcN rfl hk, zaA]
  exact ⟨_, rfl, List.getElem_mem hk, he, k, hk, rfl⟩
theorem put_t {l : List CrT} (h : VY l) {c : CrT} (hc : c.2.1.length = 16 ∧ c.2.2.2.1.length ≤ 64 ∧ c.2.2.2.2.2.2.2.length ≤ 4) (hl : l.length < 64 ∨ ∃ k : Nat, k < l.length ∧ zaP zaC c.1 l = some ((k : Int), true, l)) : ∃ l', zaF zaC c l = some l' ∧ VY l' := by
 have hl64 := h.len
 obtain ⟨k, b, h1, h2, h3⟩ := xeL h c.1
 have sub_t : ∀ n : Nat, n ≤ l.length → subL l (n : Int) = some (l.drop n) := fun n hn => by
  unfold subL
  rw [zyC (by omega) (by omega)]; rfl
 have fin : ∀ rest : List CrT, (∀ q ∈ rest, q ∈ l) → k + 1 + rest.length ≤ 64 → ∃ l', (Option.bind (subH l (k : Int)) fun v6 => Option.bind (app ([] : List CrT) v6) fun v7 => Option.bind (app v7 ([c] : List CrT)) fun v8 => Option.bind (app v8 rest) fun v9 => some v9) = some l' ∧ VY l' := fun rest hr hlen => by
  rw [zvO h1, zaA, zuO _ (by rw [List.length_take]; omega), zaA, zbT (by rw [List.length_take]; simp only [List.length_cons, List.length_nil]; omega), zaA, zbT (by rw [List.length_append, List.length_take]; simp only [List.length_cons, List.length_nil]; omega), zaA]
  refine ⟨_, rfl, ?_, fun q hq => ?_⟩
  ·rw [List.length_append, List.length_append, List.length_take]; simp only [List.length_cons, List.length_nil]; omega
  ·rcases List.mem_append.1 hq with hq | hq
   ·rcases List.mem_append.1 hq with hq | hq
    ·exact h.each q (List.mem_of_mem_take hq)
    ·rw [List.mem_singleton.1 hq]; exact hc
   ·exact h.each q (hr q hq)
 unfold zaF
 rw [h2, zaA]
 simp only []
 rw [sub_t k h1, zaA]
 unfold zhW
 cases b with
 | true =>
  obtain ⟨hk, _⟩ := h3 rfl
  simp only [cond_true]
  rw [zbB (by omega) (by omega), show (k : Int) + 1 = ((k + 1 : Nat) : Int) by omega, sub_t (k + 1) (by omega), zaA, zaA]
  exact fin _ (fun q hq => List.mem_of_mem_drop hq) (by rw [List.length_drop]; omega)
 | false =>
  simp only [cond_false]
  rw [zaA]
  have hlt : l.length < 64 := hl.resolve_right fun ⟨k', hk', e⟩ => by
   rw [h2] at e
   injection e with e
   injection e with e1 e2
   injection e2 with e2 e3
   cases e2
  exact fin _ (fun q hq => List.mem_of_mem_drop hq) (by rw [List.length_drop]; omega)
theorem putT {l : List CrT} (h : VY l) {c : CrT} (hc : c.2.1.length = 16 ∧ c.2.2.2.1.length ≤ 64 ∧ c.2.2.2.2.2.2.2.length ≤ 4) (hl : l.length < 64 ∨ ∃ k : Nat, k < l.length ∧ zaP zaC c.1 l = some ((k : Int), true, l)) (e : Int) : TotY (Option.bind (zaF zaC c l) fun v => some (e, v)) := by
 obtain ⟨l', h1, h2⟩ := put_t h hc hl
 rw [h1, zaA]
 exact ⟨_, _, rfl, h2⟩
theorem setY {l : List CrT} (h : VY l) {u s p : Bs} (hu : u.length ≤ 1048576) : TotY (zdG zaC u s p l) := by
 obtain ⟨b, hb⟩ := yoY hu
 unfold zdG zhY
 rw [hb, zaA]
 cases b with
 | false => exact ⟨_, _, rfl, h⟩
 | true =>
  simp only [Bool.not_true, cond_false]
  cases hs : ((s.length : Int) != 16) with
  | true => exact ⟨_, _, rfl, h⟩
  | false =>
   have hs : s.length = 16 := by
    have := bne_eq_false_iff_eq.1 hs; omega
   simp only [cond_false]
   by_cases h1 : (p.length : Int) < 1
   ·rw [zbE h1]; exact ⟨_, _, rfl, h⟩
   ·rw [zaV h1]
    by_cases h2 : (p.length : Int) > 64
    ·rw [zbE h2]; exact ⟨_, _, rfl, h⟩
    ·rw [zaV h2, zaA]
     simp only []
     rcases yaO h u with hg | ⟨c, hg, hc, he, k, hk, hat⟩
     ·rw [hg, zaA]
      unfold zeH
      simp only [Bool.not_false, cond_true]
      by_cases hl : (l.length : Int) ≥ 64
      ·rw [zbE hl, zaA]; exact ⟨_, _, rfl, h⟩
      ·rw [zaV hl, zaA]
       simp only []
       rw [zzU (by omega) (by omega), zaA]
       exact putT h ⟨hs, Nat.zero_le _, Nat.zero_le _⟩ (.inl (by omega)) 0
     ·rw [hg, zaA]
      unfold zeH
      simp only [Bool.not_true, cond_false]
      rw [zaA]
      simp only []
      rw [zzU (by omega) (by omega), zaA]
      have hy := h.each c hc
      exact putT (c := (u, s, stF p s, c.2.2.2.1, c.2.2.2.2.1, 0, 0, c.2.2.2.2.2.2.2)) h ⟨hs, hy.2.1, hy.2.2⟩ (.inr ⟨k, hk, hat⟩) 0
theorem dropY {l : List CrT} (h : VY l) {u : Bs} : TotY (zcU zaC u l) := by
 have hl := h.len
 obtain ⟨k, b, h1, h2, h3⟩ := xeL h u
 unfold zcU
 rw [h2, zaA]
 cases b with
 | false => exact ⟨_, _, rfl, h⟩
 | true =>
  obtain ⟨hk, _⟩ := h3 rfl
  simp only [Bool.not_true, cond_false]
  rw [zvO h1, zaA, zbB (by omega) (by omega), show (k : Int) + 1 = ((k + 1 : Nat) : Int) by omega]
  rw [show subL l ((k + 1 : Nat) : Int) = some (l.drop (k + 1)) from by unfold subL; rw [zyC (by omega) (by omega)]; rfl, zaA, zuO _ (by rw [List.length_take]; omega), zaA, zbT (by rw [List.length_take, List.length_drop]; omega), zaA]
  refine ⟨_, _, rfl, ⟨by rw [List.length_append, List.length_take, List.length_drop]; omega, fun q hq => ?_⟩⟩
  rcases List.mem_append.1 hq with hq | hq
  ·exact h.each q (List.mem_of_mem_take hq)
  ·exact h.each q (List.mem_of_mem_drop hq)
theorem zzL (now : Int) : zbS zaC now = some (decide (0 ≤ now) && decide (now ≤ 1099511627776)) := by
 unfold zbS
 by_cases h : now ≥ 0
 ·rw [zbE h, decide_eq_true (show 0 ≤ now from h)]; rfl
 ·rw [zaV h, decide_eq_false (show ¬ 0 ≤ now from h)]; rfl
theorem xfP {l : List CrT} (h : VY l) {u p : Bs} {now : Int} : TotY (zcL zaC u p now l) := by
 unfold zcL
 rw [zzL, zaA]
 cases hn : (decide (0 ≤ now) && decide (now ≤ 1099511627776)) with
 | false => exact ⟨_, _, rfl, h⟩
 | true =>
  simp only [Bool.not_true, cond_false]
  rcases yaO h u with hg | ⟨c, hg, hc, he, k, hk, hat⟩
  ·rw [hg, zaA]; exact ⟨_, _, rfl, h⟩
  ·have hy := h.each c hc
   have hput : ∀ (f t e : Int), TotY (Option.bind (zaF zaC ((c.1, c.2.1, c.2.2.1, c.2.2.2.1, c.2.2.2.2.1, f, t, c.2.2.2.2.2.2.2) : CrT) l) fun v => some (e, v)) := fun f t e => putT (c := (c.1, c.2.1, c.2.2.1, c.2.2.2.1, c.2.2.2.2.1, f, t, c.2.2.2.2.2.2.2)) h hy (.inr ⟨k, hk, by rw [he]; exact hat⟩) e
   rw [hg, zaA]
   simp only [Bool.not_true, cond_false]
   by_cases ht : now < c.2.2.2.2.2.2.1
   ·rw [zbE ht]; exact ⟨_, _, rfl, h⟩
   ·rw [zaV ht]
    have hj : ∃ b, zdU zaC p (c, true, l) = some (b, l, c) := by
     unfold zdU
     by_cases h1 : (p.length : Int) ≥ 1
     ·rw [zbE h1]
      by_cases h2 : (p.length : Int) ≤ 64
      ·rw [zbE h2]
       simp only []
       rw [zzU (by omega) (by omega), zaA]
       exact ⟨_, rfl⟩
      ·rw [zaV h2]; exact ⟨_, rfl⟩
     ·rw [zaV h1]; exact ⟨_, rfl⟩
    obtain ⟨b, hb⟩ := hj
    unfold zgM
    rw [hb, zaA]
    cases b with
    | true =>
     simp only [cond_true]
     obtain ⟨e, l', h1, h2⟩ := hput 0 0 0
     cases hp : zaF zaC ((c.1, c.2.1, c.2.2.1, c.2.2.2.1, c.2.2.2.2.1, 0, 0, c.2.2.2.2.2.2.2) : CrT) l with
     | none => rw [hp] at h1; cases h1
     | some q =>
      rw [hp, zaA] at h1
      cases h1
      rw [zaA, zaA]
      exact ⟨_, _, rfl, h2⟩
    | false =>
     simp only [cond_false]
     rw [zaA]
     simp only []
     cases (w64 (c.2.2.2.2.2.1 + 1) == 5) with
     | true => exact hput _ _ _
     | false => exact hput _ _ _
theorem enrolY {l : List CrT} (h : VY l) {u a : Bs} : TotY (zcI zaC u a l) := by
 unfold zcI
 rcases yaO h u with hg | ⟨c, hg, hc, he, k, hk, hat⟩
 ·rw [hg, zaA]; exact ⟨_, _, rfl, h⟩
 ·have hy := h.each c hc
  rw [hg, zaA]
  simp only [Bool.not_true, cond_false]
  unfold zgL
  by_cases h1 : (a.length : Int) < 16
  ·rw [zbE h1]; exact ⟨_, _, rfl, h⟩
  ·rw [zaV h1]
   by_cases h2 : (a.length : Int) > 64
   ·rw [zbE h2]; exact ⟨_, _, rfl, h⟩
   ·rw [zaV h2, zaA]
    exact putT (c := (c.1, c.2.1, c.2.2.1, a, 0, c.2.2.2.2.2.1, c.2.2.2.2.2.2.1, c.2.2.2.2.2.2.2)) h ⟨hy.1, by show a.length ≤ 64; omega, hy.2.2⟩ (.inr ⟨k, hk, by rw [he]; exact hat⟩) 0
theorem codeY {l : List CrT} (h : VY l) {u cd : Bs} {now : Int} : TotY (zcV zaC u cd now l) := by
 unfold zcV
 rw [zzL, zaA]
 cases hn : (decide (0 ≤ now) && decide (now ≤ 1099511627776)) with
 | false => exact ⟨_, _, rfl, h⟩
 | true =>
  simp only [Bool.and_eq_true, decide_eq_true_eq] at hn
  simp only [Bool.not_true, cond_false]
  rcases yaO h u with hg | ⟨c, hg, hc, he, k, hk, hat⟩
  ·rw [hg, zaA]; exact ⟨_, _, rfl, h⟩
  ·have hy := h.each c hc
   rw [hg, zaA]
   simp only [Bool.not_true, cond_false]
   cases (c.2.2.2.1 == ([] : Bs)) with
   | true => exact ⟨_, _, rfl, h⟩
   | false =>
    have hd : w64 (Int.tdiv now 30) = now / 30 := by rw [Int.tdiv_eq_ediv_of_nonneg hn.1]; exact zbB (by omega) (by omega)
    obtain ⟨r, hr⟩ := xcT (a := c.2.2.2.1) (c := cd) (s := now / 30) (by omega) (by omega) (by omega)
    simp only [cond_false]
    rw [zgY (c := ((30 : Int) != 0)) rfl, zaA, hd, hr, zaA]
    unfold zhH
    cases r.2 with
    | false => exact ⟨_, _, rfl, h⟩
    | true =>
     simp only [Bool.not_true, cond_false]
     by_cases hs : r.1 < c.2.2.2.2.1
     ·rw [zbE hs]; exact ⟨_, _, rfl, h⟩
     ·rw [zaV hs, zaA]
      exact putT (c := (c.1, c.2.1, c.2.2.1, c.2.2.2.1, w64 (r.1 + 1), c.2.2.2.2.2.1, c.2.2.2.2.2.2.1, c.2.2.2.2.2.2.2)) h hy (.inr ⟨k, hk, by rw [he]; exact hat⟩) 0
theorem xdT (k : KeyT) : ∃ b, zeG zaC k = some b := by
 unfold zeG
 repeat' first | exact ⟨_, rfl⟩ | apply xbN
theorem zzK (ks : List KeyT) (id : Bs) (hk : ks.length ≤ 4) : zaN zaC ks id = some (-1) ∨ ∃ i : Nat, i < ks.length ∧ zaN zaC ks id = some (i : Int) := by
 have hi := zmE (body := zhS zaC ks id) (fun i => 0 ≤ i ∧ i ≤ (ks.length : Int)) (fun i => (ks.length - i).toNat) (fun b => ∀ r, b = Sum.inl r → ∃ i : Nat, i < ks.length ∧ r = (i : Int)) (fun i hi => by
  unfold zhS
  by_cases h1 : i < (ks.length : Int)
  ·obtain ⟨j, rfl⟩ : ∃ j : Nat, i = j := ⟨i.toNat, by omega⟩
   rw [zbE h1, zcN rfl (show j < ks.length by omega), zaA]
   cases ((ks[j]'(by omega)).1 == id) with
   | true => right; exact ⟨_, rfl, fun r hr => by cases hr; exact ⟨j, by omega, rfl⟩⟩
   | false =>
    left
    simp only [cond_false]
    rw [zbB (by omega) (by omega)]
    exact ⟨_, rfl, by omega, by omega⟩
  ·right
   rw [zaV h1]
   exact ⟨_, rfl, fun r hr => by cases hr⟩) (s := (0 : Int)) (by omega) (by simp; omega)
 obtain ⟨b, h1, h2⟩ := hi
 unfold zaN
 rw [h1, zaA]
 cases b with
 | inl r =>
  obtain ⟨i, g1, g2⟩ := h2 r rfl
  exact .inr ⟨i, g1, by rw [g2]⟩
 | inr r => exact .inl rfl
theorem xeU {l : List CrT} (h : VY l) {u : Bs} {q : KeyT} : TotY (zcF zaC u q l) := by
 unfold zcF
 rcases yaO h u with hg | ⟨c, hg, hc, he, k, hk, hat⟩
 ·rw [hg, zaA]; exact ⟨_, _, rfl, h⟩
 ·have hy := h.each c hc
  rw [hg, zaA]
  simp only [Bool.not_true, cond_false]
  unfold zgJ
  obtain ⟨b, hb⟩ := xdT q
  rw [hb, zaA]
  cases b with
  | false => exact ⟨_, _, rfl, h⟩
  | true =>
   simp only [Bool.not_true, cond_false]
   rcases zzK c.2.2.2.2.2.2.2 q.1 hy.2.2 with hf | ⟨i, hi, hf⟩
   ·rw [hf, zaA, zaV (by decide), zaA]
    simp only []
    by_cases hl : (c.2.2.2.2.2.2.2.length : Int) ≥ 4
    ·rw [zbE hl]; exact ⟨_, _, rfl, h⟩
    ·rw [zaV hl, zuO _ (by omega), zaA, zbT (by simp only [List.length_cons, List.length_nil]; omega), zaA]
     exact putT (c := (c.1, c.2.1, c.2.2.1, c.2.2.2.1, c.2.2.2.2.1, c.2.2.2.2.2.1, c.2.2.2.2.2.2.1, c.2.2.2.2.2.2.2 ++ [(q.1, q.2.1, q.2.2.1, q.2.2.2)])) h ⟨hy.1, hy.2.1, by show (c.2.2.2.2.2.2.2 ++ [(q.1, q.2.1, q.2.2.1, q.2.2.2)]).length ≤ 4; rw [List.length_append]; simp only [List.length_cons, List.length_nil]; omega⟩ (.inr ⟨k, hk, by rw [he]; exact hat⟩) 0
   ·rw [hf, zaA, zbE (by omega), zaA]; exact ⟨_, _, rfl, h⟩
theorem keyY {l : List CrT} (h : VY l) {u id : Bs} : ∃ q b, zdF zaC u id l = some (q, b, l) := by
 unfold zdF
 have key : ∀ c : CrT, ∀ b : Bool, c.2.2.2.2.2.2.2.length ≤ 4 → ∃ q b', (Option.bind (zaN zaC c.2.2.2.2.2.2.2 id) fun v4 => bif decide (v4 < (0 : Int)) then some ((([] : Bs), ([] : Bs), ([] : Bs), (0 : Int)), false, l) else (Option.bind (idx c.2.2.2.2.2.2.2 v4) fun v5 => some (v5, true, l))) = some (q, b', l) := fun c _ hk => by
  rcases zzK c.2.2.2.2.2.2.2 id hk with hf | ⟨i, hi, hf⟩
  ·rw [hf, zaA, zbE (by decide)]; exact ⟨_, _, rfl⟩
  ·rw [hf, zaA, zaV (by omega), zcN rfl hi, zaA]; exact ⟨_, _, rfl⟩
 rcases yaO h u with hg | ⟨c, hg, hc, he, k, hk, hat⟩
 ·rw [hg, zaA]; exact key ([], [], [], [], 0, 0, 0, []) false (Nat.zero_le _)
 ·rw [hg, zaA]; exact key c true (h.each c hc).2.2
theorem countY {l : List CrT} (h : VY l) {u id : Bs} {m : Int} : TotY (zcM zaC u id m l) := by
 unfold zcM
 rcases yaO h u with hg | ⟨c, hg, hc, he, k, hk, hat⟩
 ·rw [hg, zaA]; exact ⟨_, _, rfl, h⟩
 ·have hy := h.each c hc
  rw [hg, zaA]
  simp only [Bool.not_true, cond_false]
  rcases zzK c.2.2.2.2.2.2.2 id hy.2.2 with hf | ⟨i, hi, hf⟩
  ·rw [hf, zaA, zbE (by decide)]; exact ⟨_, _, rfl, h⟩
  ·rw [hf, zaA, zaV (by omega), zcN rfl hi, zaA]
   have hj : zcK zaC m (c, true, l) c.2.2.2.2.2.2.2[i] = some (.inl (153, l)) ∨ zcK zaC m (c, true, l) c.2.2.2.2.2.2.2[i] = some (.inr (l, c)) := by
    unfold zcK
    by_cases g1 : m > 4294967295
    ·rw [zbE g1]; exact .inl rfl
    ·rw [zaV g1]
     by_cases g2 : m ≤ c.2.2.2.2.2.2.2[i].2.2.2
     ·rw [zbE g2]
      cases (m == 0) with
      | false => exact .inl rfl
      | true =>
       cases (c.2.2.2.2.2.2.2[i].2.2.2 == 0) with
       | false => exact .inl rfl
       | true => exact .inr rfl
     ·rw [zaV g2]; exact .inr rfl
   rcases hj with hj | hj
   ·rw [hj, zaA]; exact ⟨_, _, rfl, h⟩
   ·rw [hj, zaA]
    simp only []
    rw [zuO _ (by omega), zaA, zgY (zyC (by omega) (by omega)), zaA, zcN rfl hi, zaA]
    rw [show setL c.2.2.2.2.2.2.2 (i : Int) (c.2.2.2.2.2.2.2[i].1, c.2.2.2.2.2.2.2[i].2.1, c.2.2.2.2.2.2.2[i].2.2.1, m) = some (c.2.2.2.2.2.2.2.set i (c.2.2.2.2.2.2.2[i].1, c.2.2.2.2.2.2.2[i].2.1, c.2.2.2.2.2.2.2[i].2.2.1, m)) from by unfold setL; rw [zyC (by omega) (by omega)]; rfl, zaA]
    exact putT (c := (c.1, c.2.1, c.2.2.1, c.2.2.2.1, c.2.2.2.2.1, c.2.2.2.2.2.1, c.2.2.2.2.2.2.1, c.2.2.2.2.2.2.2.set i (c.2.2.2.2.2.2.2[i].1, c.2.2.2.2.2.2.2[i].2.1, c.2.2.2.2.2.2.2[i].2.2.1, m))) h ⟨hy.1, hy.2.1, by show (c.2.2.2.2.2.2.2.set i _).length ≤ 4; rw [List.length_set]; exact hy.2.2⟩ (.inr ⟨k, hk, by rw [he]; exact hat⟩) 0
end
section
attribute [local irreducible] stF macF
def Som {α : Type} (r : Option α) : Prop := ∃ x, r = some x
theorem ynZ {es : List (Bs × CrT)} (h : VEs es) {u : Bs} : Tot (zfM zaC u es) := by
 unfold zfM
 cases mhas keqS es u with
 | false => exact ⟨_, _, rfl, h⟩
 | true =>
  have hs := yeZ es u
  exact ⟨_, _, rfl, ypK h.rises, Nat.le_trans hs.length_le h.len, fun p hp => h.each p (hs.subset hp)⟩
theorem yvA {es : List (Bs × CrT)} (h : VEs es) {u id : Bs} : ∃ q b, zgD zaC u id es = some (q, b, es) := by
 have key : ∀ l : List KeyT, l.length ≤ 4 → ∃ q b, (Option.bind (zfZ zaC l id) fun v4 => bif decide (v4 < (0 : Int)) then some ((([] : Bs), ([] : Bs), ([] : Bs), (0 : Int)), false, es) else (Option.bind (idx l v4) fun v5 => some (v5, true, es))) = some (q, b, es) := fun l hl => by
  rcases at_t l id hl with ⟨h1, _⟩ | ⟨i, hi, h1, _⟩
  ·rw [h1, zaA, zbE (by decide)]; exact ⟨_, _, rfl⟩
  ·rw [h1, zaA, zaV (by omega), zcN rfl hi, zaA]; exact ⟨_, _, rfl⟩
 unfold zgD
 rcases ybC h u with hm | ⟨c, hm, hg, hv⟩
 ·have hz : ∀ z : CrT, zpF keqS es u z = z := fun z => by
   unfold zpF
   cases hq : mget keqS es u with
   | none => rfl
   | some v => rw [zuL.2 ⟨v, ycP hq⟩] at hm; cases hm
  simp only [hz]
  exact key [] (Nat.zero_le _)
 ·simp only [hg]
  exact key _ hv.keys
theorem yuS (op : ztE) (ha : op.2.2.2.2.2.1.length ≤ 1048576) : ∃ r, zdW zaC op = some r ∧ r.length ≤ 1048576 := by
 have hj : ∃ b, zhN zaC op = some (b, op) := by
  unfold zhN
  cases decide ((op.2.2.2.2.2.1.length : Int) ≥ (16 : Int)) <;> exact ⟨_, rfl⟩
 obtain ⟨b, hb⟩ := hj
 unfold zdW
 rw [hb, zaA]
 cases b with
 | false => exact ⟨_, rfl, ha⟩
 | true =>
  simp only [cond_true]
  rw [zgY (c := ((30 : Int) != 0)) rfl, zaA]
  obtain ⟨h1, h2⟩ := ymH (secret := op.2.2.2.2.2.1) (by omega) (w64 (Int.tdiv op.2.2.1 30))
  rw [show zaC.code op.2.2.2.2.2.1 (w64 (Int.tdiv op.2.2.1 30)) = some (codeF op.2.2.2.2.2.1 (w64 (Int.tdiv op.2.2.1 30))) from h1, zaA]
  exact ⟨_, rfl, by omega⟩
theorem xcL (u : Bs) : zbF zaC u = some (0, false) := by
 have h : iter (zjD zaC) (0 : Int) = some 0 := zaW (fun _ => (0 : Int)) 0 (by omega) 0 (fun k hk => absurd hk (Nat.not_lt_zero k)) rfl
 unfold zbF
 rw [h, zaA]; rfl
theorem ybB (u : Bs) : zaK zaC u = some ([], [], [], [], 0, 0, 0, false) := by
 unfold zaK
 rw [xcL, zaA]; rfl
theorem put0_t (u s h a : Bs) (st f t : Int) : Som (zaO zaC u s h a st f t) := by
 unfold zaO
 rw [xcL, zaA]
 exact ⟨_, rfl⟩
theorem set0_t {u s p : Bs} (hu : u.length ≤ 1048576) : Som (zdN zaC u s p) := by
 obtain ⟨b, hb⟩ := yoY hu
 unfold zdN ziJ
 rw [hb, zaA]
 cases b with
 | false => exact ⟨_, rfl⟩
 | true =>
  simp only [Bool.not_true, cond_false]
  cases hs : ((s.length : Int) != 16) with
  | true => exact ⟨_, rfl⟩
  | false =>
   have hs : s.length = 16 := by
    have := bne_eq_false_iff_eq.1 hs; omega
   simp only [cond_false]
   by_cases h1 : (p.length : Int) < 1
   ·rw [zbE h1]; exact ⟨_, rfl⟩
   ·rw [zaV h1]
    by_cases h2 : (p.length : Int) > 64
    ·rw [zbE h2]; exact ⟨_, rfl⟩
    ·rw [zaV h2, zaA]
     simp only []
     rw [ybB, zaA]
     unfold ziO
     simp only [Bool.not_false, cond_true]
     rw [zaV (by decide), zaA]
     simp only []
     rw [zzU (by omega) (by omega), zaA]
     obtain ⟨l, hl⟩ := put0_t u s (stF p s) [] 0 0 0
     rw [hl, zaA]
     exact ⟨_, rfl⟩
theorem xeR (u : Bs) : Som (zcZ zaC u) := by
 unfold zcZ
 rw [xcL, zaA]
 exact ⟨_, rfl⟩
theorem yxQ (u p : Bs) (now : Int) : Som (zcW zaC u p now) := by
 unfold zcW
 rw [zzL, zaA]
 cases (decide (0 ≤ now) && decide (now ≤ 1099511627776)) with
 | false => exact ⟨_, rfl⟩
 | true =>
  simp only [Bool.not_true, cond_false]
  rw [ybB, zaA]
  exact ⟨_, rfl⟩
theorem yyD (u a : Bs) : Som (zcR zaC u a) := by
 unfold zcR
 rw [ybB, zaA]
 exact ⟨_, rfl⟩
theorem xcD (u cd : Bs) (now : Int) : Som (zdC zaC u cd now) := by
 unfold zdC
 rw [zzL, zaA]
 cases (decide (0 ≤ now) && decide (now ≤ 1099511627776)) with
 | false => exact ⟨_, rfl⟩
 | true =>
  simp only [Bool.not_true, cond_false]
  rw [ybB, zaA]
  exact ⟨_, rfl⟩
theorem ysS (u : Bs) (k : KeyT) : Som (zcJ zaC u k) := by
 unfold zcJ
 rw [ybB, zaA]
 exact ⟨_, rfl⟩
theorem xfC (id : Bs) : zaN zaC [] id = some (-1) := by
 rcases zzK [] id (Nat.zero_le _) with h | ⟨i, hi, _⟩
 ·exact h
 ·exact absurd hi (Nat.not_lt_zero i)
theorem key0_t (u id : Bs) : Som (zdL zaC u id) := by
 unfold zdL
 rw [ybB, zaA, xfC, zaA]
 exact ⟨_, rfl⟩
theorem yxS (u id : Bs) (n : Int) : Som (zcS zaC u id n) := by
 unfold zcS
 rw [ybB, zaA]
 exact ⟨_, rfl⟩
theorem yjM {α : Type} {β : Type} {r : Option (Int × List (Bs × CrT))} {q : Option α} (hr : Tot r) (hq : Som q) (f : Int × List (Bs × CrT) → α → Bool) (g : α → β) : ∃ b y es, (Option.bind r fun v => Option.bind q fun w => some (f v w, g w, v.2)) = some (b, y, es) ∧ VEs es := by
 obtain ⟨e, es, rfl, h⟩ := hr
 obtain ⟨x, rfl⟩ := hq
 exact ⟨_, _, es, rfl, h⟩
theorem bifP {α : Type} {P : α → Prop} {c : Bool} {a b : α} (ha : P a) (hb : P b) : P (bif c then a else b) := by cases c <;> assumption
def DoN (r : Option (Bool × List CrT × List (Bs × CrT))) : Prop := ∃ b y es, r = some (b, y, es) ∧ VEs es
theorem xeT {es : List (Bs × CrT)} (h : VEs es) {op : ztE} (hu : op.2.2.2.1.length ≤ 1048576) (ha : op.2.2.2.2.2.1.length ≤ 1048576) : DoN (zdY zaC op es) := by
 unfold zdY
 refine bifP (yjM (ywI h hu) (set0_t hu) (fun v w => v.1 == w.1) (·.2)) (bifP (yjM (ynZ h) (xeR _) (fun v w => v.1 == w.1) (·.2)) (bifP (yjM (yjZ h) (yxQ _ _ _) (fun v w => v.1 == w.1) (·.2)) (bifP (yjM (yjA h) (yyD _ _) (fun v w => v.1 == w.1) (·.2)) (bifP ?_ (bifP (yjM (yeD h) (ysS _ _) (fun v w => v.1 == w.1) (·.2)) (bifP ?_ ⟨_, _, _, rfl, h⟩))))))
 ·obtain ⟨r, h1, h2⟩ := yuS op ha
  rw [h1, zaA]
  exact yjM (ynU h (by omega)) (xcD _ _ _) (fun v w => v.1 == w.1) (·.2)
 ·obtain ⟨q, b, h1⟩ := yvA h (u := op.2.2.2.1) (id := op.2.2.2.2.2.2.1)
  obtain ⟨x, h2⟩ := key0_t op.2.2.2.1 op.2.2.2.2.2.2.1
  rw [h1, zaA, h2, zaA]
  simp only []
  exact bifP (bifP (yjM (yiL h) (yxS _ _ _) (fun v w => v.1 == w) (fun _ => [])) ⟨_, _, _, rfl, h⟩) ⟨_, _, _, rfl, h⟩
def DoY (r : Option (Bool × List CrT × List (Bs × CrT))) : Prop := ∃ b y es, r = some (b, y, es) ∧ VY y ∧ VEs es
theorem ylV {r : Option (Int × List (Bs × CrT))} {q : Option (Int × List CrT)} (hr : Tot r) (hq : TotY q) : DoY (Option.bind r fun v => Option.bind q fun w => some ((v.1 == w.1), w.2, v.2)) := by
 obtain ⟨e, es, rfl, h⟩ := hr
 obtain ⟨x, y, rfl, hy⟩ := hq
 exact ⟨_, _, _, rfl, hy, h⟩
theorem does_t {l : List CrT} (hl : VY l) {es : List (Bs × CrT)} (h : VEs es) {op : ztE} (hu : op.2.2.2.1.length ≤ 1048576) (ha : op.2.2.2.2.2.1.length ≤ 1048576) : DoY (zfB zaC op l es) := by
 unfold zfB
 refine bifP (ylV (ywI h hu) (setY hl hu)) (bifP (ylV (ynZ h) (dropY hl)) (bifP (ylV (yjZ h) (xfP hl)) (bifP (ylV (yjA h) (enrolY hl)) (bifP ?_ (bifP (ylV (yeD h) (xeU hl)) (bifP ?_ ⟨_, _, _, rfl, hl, h⟩))))))
 ·obtain ⟨r, h1, h2⟩ := yuS op ha
  rw [h1, zaA]
  exact ylV (ynU h (by omega)) (codeY hl)
 ·obtain ⟨q, b, h1⟩ := yvA h (u := op.2.2.2.1) (id := op.2.2.2.2.2.2.1)
  obtain ⟨q2, b2, h2⟩ := keyY hl (u := op.2.2.2.1) (id := op.2.2.2.2.2.2.1)
  rw [h1, zaA, h2, zaA]
  simp only []
  exact bifP (bifP (ylV (yiL h) (countY hl)) ⟨_, _, _, rfl, hl, h⟩) ⟨_, _, _, rfl, hl, h⟩
theorem yeU (r : List (Bs × Bs)) (h : r.length ≤ 1048576) : zcH zaC r r = some true := by
 have hi : iter (zcA zaC r r) ((0 : Nat) : Int) = some (.inr ()) := by
  refine zaW (fun k => (k : Int)) r.length (by omega) _ (fun k hk => ?_) ?_
  ·unfold zcA
   rw [zbE (by omega), zcN rfl hk, zaA, zaA]
   simp only [beq_self_eq_true, Bool.and_true, Bool.not_true, cond_false]
   rw [zbB (by omega) (by omega)]
   rfl
  ·unfold zcA
   rw [zaV (by omega)]
 unfold zcH
 simp only [bne_self_eq_false, cond_false]
 rw [show iter (zcA zaC r r) (0 : Int) = some (.inr ()) from hi, zaA]
def OpOk (op : ztE) : Prop := op.2.2.2.1.length ≤ 1048576 ∧ op.2.2.2.2.2.1.length ≤ 1048576
theorem yzC {ops : List ztE} (hn : ops.length ≤ 1048576) (ho : ∀ op ∈ ops, OpOk op) : ∃ es, iter (fun x => zdE zaC ops x.1 x.2.1 x.2.2) ((0 : Int), ([] : List CrT), ([] : List (Bs × CrT))) = some es ∧ VEs es := by
 refine zmE (body := fun (x : Int × List CrT × List (Bs × CrT)) => zdE zaC ops x.1 x.2.1 x.2.2) (fun x => 0 ≤ x.1 ∧ VY x.2.1 ∧ VEs x.2.2) (fun x => (ops.length - x.1).toNat) VEs (fun x hx => ?_) ⟨by simp, ⟨Nat.zero_le _, fun c hc => by cases hc⟩, .nil, Nat.zero_le _, fun p hp => by cases hp⟩ (by simp; omega)
 obtain ⟨i, y, es⟩ := x
 obtain ⟨h1, h2, h3⟩ := hx
 simp only at h1 h2 h3
 unfold zdE
 simp only []
 by_cases hi : i < (ops.length : Int)
 ·left
  obtain ⟨j, rfl⟩ : ∃ j : Nat, i = j := ⟨i.toNat, by omega⟩
  have hop := ho _ (List.getElem_mem (show j < ops.length by omega))
  obtain ⟨b, y', es', hd, hy, he⟩ := does_t h2 h3 hop.1 hop.2
  rw [zbE hi, zcN rfl (show j < ops.length by omega), zaA, hd, zaA, zbB (by omega) (by omega)]
  exact ⟨_, rfl, ⟨by simp only []; omega, hy, he⟩, by simp only []; omega⟩
 ·right
  rw [zaV hi]
  exact ⟨_, rfl, h3⟩
theorem ynC {es : List (Bs × CrT)} (h : VEs es) : ((es.map (·.2)).map rowC).length ≤ 1048576 := by
 have := h.len
 rw [List.length_map, List.length_map]; omega
theorem more_t {ops : List ztE} (hn : ops.length ≤ 1048576) (ho : ∀ op ∈ ops, OpOk op) {es : List (Bs × CrT)} (h : VEs es) : ∃ es', iter (fun x => zdH zaC ops x.1 x.2.1 x.2.2) ((0 : Int), es, es) = some (.inr (es', es')) ∧ VEs es' := by
 have hx := zmE (body := fun (x : Int × List (Bs × CrT) × List (Bs × CrT)) => zdH zaC ops x.1 x.2.1 x.2.2) (fun x => 0 ≤ x.1 ∧ x.2.1 = x.2.2 ∧ VEs x.2.1) (fun x => (ops.length - x.1).toNat) (fun b => ∃ es', b = .inr (es', es') ∧ VEs es') (fun x hx => by
  obtain ⟨i, es, m⟩ := x
  obtain ⟨h1, h2, h3⟩ := hx
  simp only at h1 h2 h3
  subst h2
  unfold zdH
  simp only []
  by_cases hi : i < (ops.length : Int)
  ·left
   obtain ⟨j, rfl⟩ : ∃ j : Nat, i = j := ⟨i.toNat, by omega⟩
   have hop := ho _ (List.getElem_mem (show j < ops.length by omega))
   obtain ⟨b, y', es', hd, he⟩ := xeT h3 hop.1 hop.2
   rw [zbE hi, zcN rfl (show j < ops.length by omega), zaA, hd, zaA, zaA, hd, zaA]
   simp only []
   rw [rows_ok he, zaA, zaA, yeU _ (ynC he), zaA, zbB (by omega) (by omega)]
   exact ⟨_, rfl, ⟨by simp only []; omega, rfl, he⟩, by simp only []; omega⟩
  ·right
   rw [zaV hi]
   exact ⟨_, rfl, _, rfl, h3⟩) (s := ((0 : Int), es, es)) ⟨by simp, rfl, h⟩ (by simp; omega)
 obtain ⟨b, hb, es', rfl, he⟩ := hx
 exact ⟨es', hb, he⟩
theorem yaG {script more : List ztE} (h1 : script.length ≤ 1048576) (h2 : more.length ≤ 1048576) (h3 : ∀ op ∈ script, OpOk op) (h4 : ∀ op ∈ more, OpOk op) : zdM zaC script more = some true := by
 unfold zdM
 rw [show zlV zaC = some [] from rfl, zaA]
 obtain ⟨es, g1, g2⟩ := yzC h1 h3
 rw [g1, zaA, rows_ok g2, zaA]
 simp only []
 rw [yxX g2, zaA]
 simp only []
 unfold ziM
 simp only [bne_self_eq_false, cond_false]
 rw [zaA]
 simp only []
 obtain ⟨es', g3, g4⟩ := more_t h2 h4 g2
 rw [g3, zaA]
 simp only []
 rw [rows_ok g4, zaA, zaA, yeU _ (ynC g4), zaA]
 rfl
theorem ywN {e : Ty} {x : den e} : ∀ {xs : List (den e)}, x ∈ xs → dsz e x ≤ dsz (.sl e) xs
 | y :: ys, h => by
  show _ ≤ (List.map (dsz e) (y :: ys)).sum + 1
  simp only [List.map_cons, List.sum_cons]
  rcases List.mem_cons.1 h with rfl | h
  ·omega
  ·have : dsz e x ≤ (List.map (dsz e) ys).sum + 1 := ywN h
   omega
theorem ywR {op : ztE} (h : dsz zwS op ≤ 1048576) : OpOk op := by
 obtain ⟨a, b, c, d, e, f, k⟩ := op
 simp only [dsz] at h
 exact ⟨by simp only []; omega, by simp only []; omega⟩
theorem ywT (script more : List ztE) (hk : dsz (.sl (.pr (.i .i64) (.pr (.i .i64) (.pr (.i .i64) (.pr .s (.pr .s (.pr .s (.pr .s (.pr .s (.pr .s (.i .i64))))))))))) script + dsz (.sl (.pr (.i .i64) (.pr (.i .i64) (.pr (.i .i64) (.pr .s (.pr .s (.pr .s (.pr .s (.pr .s (.pr .s (.i .i64))))))))))) more ≤ 1048576) : zdM zaC script more = some true := by
 have hk : dsz (.sl zwS) script + dsz (.sl zwS) more ≤ 1048576 := hk
 have h1 : script.length + 1 ≤ dsz (.sl zwS) script := ymT (e := zwS) rfl script
 have h2 : more.length + 1 ≤ dsz (.sl zwS) more := ymT (e := zwS) rfl more
 exact yaG (by omega) (by omega) (fun op ho => ywR (by have := ywN (e := zwS) ho; omega)) (fun op ho => ywR (by have := ywN (e := zwS) ho; omega))
end
end Go.Proofs.YtmkomlbiaebddaaGreatDoor.Am
namespace Go.Proofs.YtmkomlbiaebddaaGreatDoor
open Go Go.RowKit
section
open Go Go.RowKit Go.ChangeShapes Go.WideShapes Go.ChangeAt
attribute [local irreducible] Value.okWide
theorem xcG {W : World} (h : W.ShapedOpen Tryz.prog) (hL : laidMet Tryz.prog Rows.loginBackUptoRow.laid W) : ∃ G : List (Nat × Obj), Am.zqO G ∧ Am.GS G (ztC W) := by
 obtain ⟨m, hm⟩ := Tryz.laysM219.s1_3 W h
 have hm : W.cell? ⟨0, 0, none⟩ = some (.int .i64 m) := hm
 have h0 : ∃ c E fz, W.heap[0]? = some (.cells c E fz) ∧ c[0]? = some (.int .i64 m) := by
  unfold World.cell? at hm
  split at hm
  ·rename_i c E fz hb
   simp only [Option.isSome_none, if_neg (show ¬ (false = true) by decide)] at hm
   exact ⟨c, E, fz, hb, hm⟩
  ·cases hm
 obtain ⟨c, E, fz, h1, h2⟩ := h0
 have hT := Lib.tabIs_of_head (P := Tryz.prog) (k := .u64) (zs := Lib.pow10Tab) (g := 1) (t := 214) (e := 102) (n := 20) (by kernel_rfl) (by kernel_rfl) (by kernel_rfl) (by kernel_rfl) (by kernel_rfl) (by kernel_rfl) (show laidMet Tryz.prog (("internal/strconv.uint64pow10", Lib.tabData .u64 Lib.pow10Tab) :: _) W from hL.tail.tail)
 have h3 : ∃ T f, W.heap[1]? = some (.cells yuM.toArray T f) := by
  unfold Lib.TabIs World.var? at hT
  rw [show Tryz.prog.globalNamed "internal/strconv.uint64pow10" = some 1 by kernel_rfl, Option.bind_some] at hT
  split at hT
  ·rename_i cs T f hb
   cases hT
   exact ⟨T, f, hb⟩
  ·cases hT
 obtain ⟨T, f, h4⟩ := h3
 refine ⟨[(0, .cells c E fz), (1, .cells yuM.toArray T f)], ⟨fun S hS => ⟨⟨c, E, fz, m, hS _ (List.mem_cons_self ..), h2⟩, T, f, hS _ (List.mem_cons_of_mem _ (List.mem_cons_self ..))⟩⟩, fun p hp => ?_⟩
 rcases List.mem_cons.1 hp with rfl | hp
 ·exact h1
 ·rcases List.mem_cons.1 hp with rfl | hp
  ·exact h4
  ·cases hp
theorem zxE (H : Type) (enc : TypeId × Value → H) (W : World) (base : Nat) (args : Array Value) (ds gs : List (DataW H)) (before : List MemPlace)
  (hval : ∀ (j : Nat) t v, Tryz.f7.params[j]? = some t → args[j]? = some v → Value.okWide Tryz.prog W .any base t v)
  (hW : DataW.Whole enc Tryz.prog Tryz.f7.params.toList Rows.loginBackSpec.vars false W args.toList ds gs before) (hk : Rows.uptoSmall H (ds ++ gs) = true) (hsh : W.ShapedOpen Tryz.prog) (hL : laidMet Tryz.prog Rows.loginBackUptoRow.laid W) :
  Calls Tryz.prog 7 args W fun e W' => ∃ v, e = .returned v ∧ Rows.loginBackSpec.post enc Tryz.prog Tryz.f7 false true false false W args v W' := by
 have hW' := hW
 obtain ⟨p, q, hA0, hV, rfl, _, _⟩ := hW
 have hA : DataW.TrodAll enc Tryz.prog W 0 (fun _ => true) true Tryz.f7.params.toList args.toList ds p := hA0
 rw [Tryz.params7] at hA hval
 obtain ⟨v0, vs0, d0, ds0, p0, q0, hargs, rfl, rfl, t0, r0⟩ := trodAll_cons hA
 obtain ⟨v1, vs1, d1, ds1, p1, q1, rfl, rfl, rfl, t1, r1⟩ := trodAll_cons r0
 obtain ⟨rfl, rfl, rfl⟩ := trodAll_nil r1
 obtain rfl : args = #[v0, v1] := by cases args; simp_all
 obtain ⟨rfl, rfl⟩ := trodVars_none hV
 obtain ⟨x0, e0, b0⟩ := Am.argD_ok (t := (.sl (.pr (.i .i64) (.pr (.i .i64) (.pr (.i .i64) (.pr .s (.pr .s (.pr .s (.pr .s (.pr .s (.pr .s (.i .i64)))))))))))) (show Am.argOk Tryz.prog 63 (.sl (.pr (.i .i64) (.pr (.i .i64) (.pr (.i .i64) (.pr .s (.pr .s (.pr .s (.pr .s (.pr .s (.pr .s (.i .i64))))))))))) = true by kernel_rfl) (hval 0 63 v0 rfl rfl) t0
 obtain ⟨x1, e1, b1⟩ := Am.argD_ok (t := (.sl (.pr (.i .i64) (.pr (.i .i64) (.pr (.i .i64) (.pr .s (.pr .s (.pr .s (.pr .s (.pr .s (.pr .s (.i .i64)))))))))))) (show Am.argOk Tryz.prog 63 (.sl (.pr (.i .i64) (.pr (.i .i64) (.pr (.i .i64) (.pr .s (.pr .s (.pr .s (.pr .s (.pr .s (.pr .s (.i .i64))))))))))) = true by kernel_rfl) (hval 1 63 v1 rfl rfl) t1
 simp only [List.cons_append, List.nil_append, List.append_nil, Rows.uptoSmall, decide_eq_true_eq, Rows.uptoBulkAll] at hk
 obtain ⟨G, hG, hGS⟩ := xcG hsh hL
 refine ((Am.yaJ (tabs := G) (o := Am.zaC)).ok (ztC W) W [v0, v1] (x0, x1) true hGS (yeK W) (.cons (Am.rep1_vr e0) (.cons (Am.rep1_vr e1) .nil)) (Am.ywT x0 x1 (by omega))).mono fun e W' ⟨hx, v, he, hr, _⟩ => ?_
 have hr : [v] = [Value.bool true] := hr
 rw [(List.cons.inj hr).1] at he
 subst he
 refine ⟨_, rfl, yyY (B := 4) (n := 2) (by kernel_rfl) rfl (by kernel_rfl) (by kernel_rfl) (by kernel_rfl) (by kernel_rfl) (fun ds hds => ?_) hW' hx⟩
 match ds, hds with
 | [x0, x1], _ => exact ⟨rfl, rfl, rfl⟩
theorem yxC : ownKnob Tryz.prog.godebug = none := by kernel_rfl
def yeF : DataW Unit → LV
 | .lit (.int k n) => [.int k n]
 | .agg l => go l
 | _ => []
where go : List (DataW Unit) → LV
 | [] => []
 | d :: l => yeF d ++ go l
def zrW (l : LV) : Obj → Obj
 | .cells _ t frozen => .cells l.toArray t frozen
 | o => o
noncomputable def ybP (os : Os) : World := { World.holding Tryz.prog os ⟨#[], #[], []⟩ with heap := (((((((((World.holding Tryz.prog os ⟨#[], #[], []⟩).heap).modify 6 (zrW (yeF Rows.laid_math_bits_deBruijn32tab))).modify 7 (zrW (yeF Rows.laid_math_bits_deBruijn64tab))).modify 1 (zrW (yeF Rows.laid_internal_strconv_uint64pow10))).modify 5 (zrW (yeF Rows.laid_unicode_utf8_acceptRanges))).modify 3 (zrW [.iface 233 (.pointer (some ⟨(World.holding Tryz.prog os ⟨#[], #[], []⟩).heap.size + 0, 0, none⟩))])).modify 2 (zrW [.iface 233 (.pointer (some ⟨(World.holding Tryz.prog os ⟨#[], #[], []⟩).heap.size + 1, 0, none⟩))])).modify 4 (zrW (yeF Go.Pinned.utf8First))) ++ #[.cells #[.string ⟨#[118, 97, 108, 117, 101, 32, 111, 117, 116, 32, 111, 102, 32, 114, 97, 110, 103, 101]⟩] 235, .cells #[.string ⟨#[105, 110, 118, 97, 108, 105, 100, 32, 115, 121, 110, 116, 97, 120]⟩] 235] }
theorem zwG (os : Os) : laidMet Tryz.prog Rows.loginBackUptoRow.laid ((ybP os).forCall (fun _ _ => 0) ⟨#[], #[.slice none 0 0, .slice none 0 0], []⟩).memory :=
 laidMet_of_run' 8 (by kernel_rfl) (by kernel_rfl)
theorem yaY (os : Os) {H : Type} (enc : TypeId × Value → H) : ∃ places, DataW.whole enc Tryz.prog ((ybP os).forCall (fun _ _ => 0) ⟨#[], #[.slice none 0 0, .slice none 0 0], []⟩).memory Tryz.f7.params.toList Rows.loginBackSpec.vars false (#[.slice none 0 0, .slice none 0 0] : Array Value).toList 8 = some ([.nil, .nil], [], places) :=
 ⟨[], by kernel_rfl⟩
set_option maxRecDepth 100000 in
theorem zzE (os : Os) (started : os.Started) (H : Type) (enc : TypeId × Value → H) (F : Stop.Interp) :
  ReturnsInHanded {} Tryz.checked os 7 .any ((Rows.OpenSpec.upto Rows.loginBackSpec).preRow enc Tryz.prog Tryz.f7 Rows.loginBackUptoRow.domain false Rows.loginBackUptoRow.laid) (((Rows.OpenSpec.upto Rows.loginBackSpec).at F).post enc Tryz.prog Tryz.f7 false true false false) := by
 obtain ⟨places, hx⟩ := yaY os enc
 refine returnsInHanded_of_row (C := Tryz.checked) (s := Rows.OpenSpec.upto Rows.loginBackSpec) yxC started (by kernel_rfl) Tryz.func7
  (witness_row_at (enc := enc) (C := Tryz.checked) false (ybP os) #[.slice none 0 0, .slice none 0 0] rfl (by kernel_rfl) (by kernel_rfl) (by kernel_rfl)
   (OpenSpec.preRow_of_cond 8 hx (by kernel_rfl) (fun k hk => by cases hk; kernel_rfl) (by kernel_rfl) (zwG os))) ?_
 intro W base args ds gs before hval hW _ hcond _ hL hsh _
 exact zxE H enc W base args ds gs before hval hW (hcond _ rfl) hsh hL
theorem yeY : Rows.LoginBackUptoSaid :=
 OpenClaim.holds_of_cond 7 Tryz.f7 rfl rfl rfl rfl rfl rfl rfl ⟨rfl, rfl, rfl, rfl, rfl⟩ rfl rfl rfl rfl rfl (by kernel_rfl) Tryz.func7 (by kernel_rfl)
  (of_decide_eq_true (by kernel_rfl)) (by unfold Func.isWrapper; first | (rw [if_pos (by decide +kernel)]; kernel_rfl) | (rw [if_neg (by decide +kernel)]; exact ⟨rfl, rfl⟩))
  (fun os started H enc _ F => by rw [OpenClaim.pre_eq_preRow]; exact zzE os started H enc F)
theorem yaI (f : FuncId) (fn : Func) (hf : Tryz.pinned.checked.prog.funcNamed "seneschal/seneschallaw15.LoginBack" = some f) (hfn : Tryz.pinned.checked.prog.funcs[f]? = some fn) :
  true = Tryz.pinned.checked.prog.looks [] ∧ ∀ (j : Nat) t, fn.params[j]? = some t → Tryz.pinned.checked.prog.wantsStandIn t = false := by
 obtain rfl : f = 7 := osi ((show Tryz.prog.funcNamed "seneschal/seneschallaw15.LoginBack" = some 7 by kernel_rfl).symm.trans hf) |>.symm
 obtain rfl : fn = Tryz.f7 := (osi (Tryz.func7.symm.trans hfn)).symm
 refine ⟨by kernel_rfl, fun j t ht => ?_⟩
 rw [Tryz.params7] at ht
 have hm : t ∈ [63, 63] := by simpa using Array.mem_of_getElem? ht
 have hall : ([63, 63].all fun u => !Tryz.prog.wantsStandIn u) = true := by kernel_rfl
 exact (show Tryz.prog.wantsStandIn t = false by simpa using List.all_eq_true.1 hall t hm)
theorem loginBack_said : Rows.LoginBackUptoCardSaid :=
 Claim7.holds_tied_plain_at .later [] _ _ _ _ yeY (fun _ h => by cases h) (by kernel_rfl) (fun _ h => by cases h) loginBackUpto_row_tie rfl ⟨rfl, rfl⟩ (by kernel_rfl) rfl yaI (by kernel_rfl)
end
end Go.Proofs.YtmkomlbiaebddaaGreatDoor
