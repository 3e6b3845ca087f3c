/- The document's forest is the program's: where a number stands, paths, who is live: plain laws. The document's forest is the program's: a node found, a node changed: plain laws. Numbers as texts, and back: plain laws. Which texts are numbers, and rows of texts: plain laws. Forests: what a script makes: plain laws. From a walk of a law to what is said of it: parts that the laws over texts share. What a law's arguments are, as plain values. Forests: who is killed takes all along that hangs on it, and no other one: plain law. The document's forest without nodes answers, whatever is called: plain laws. Rows of texts go there and back: plain laws. Forests: their rows: plain laws. Forests: their rows, told: plain laws. Forests: a row read again: plain laws. Forests: rows loaded again show the same: plain laws. What some functions compute, over plain values, and that they do. Rows of texts, and names, whatever they are: plain laws. Names, texts, scopes, principals: the program's and the document's are one: plain laws. Which nodes may be: the program's and the document's are one: plain law. The document's forest is the program's: lifted, noted, all of one killed: plain laws. Conditions: as each theorem says. -/
import Derived.Test.YtebbcofojchkpaaGreatDoorRows
import Derived.Test.YtebbcofojchkpaaGreatDoorTie
import Derived.Test.YtebbcofojchkpaaGreatDoorCards
import Derived.ProofKit
import Derived.OpenShut
import Derived.Carry
import Derived.JoinedCond
import Derived.ChangeMaps5
import Derived.Deep.SlicePairs
import Derived.Deep.DeepHandedRow
import Derived.Lib.LaidTab
import Derived.SevenTiedAt
import Derived.KernelRfl
import Derived.Test.YtebbcofojchkpaaGreatDoorQdK
namespace Go.Proofs.YtebbcofojchkpaaGreatDoor.Am
open Go Go.RowKit
section
theorem T.eq {α : Type} {o : Option α} {v : α} (h : T o fun r => r = v) : o = some v := by
 obtain ⟨r, h1, rfl⟩ := h; exact h1
def ds (es : Es) : List Nd := es.map (·.2)
theorem zdQ (es : Es) : (ds es).length = es.length := List.length_map ..
theorem zyD {es : Es} {k : Nat} (hk : k < (ds es).length) : (ds es)[k] = (es[k]'(by rw [← zdQ]; exact hk)).2 := List.getElem_map ..
variable {nx nx' : Int} {es : Es}
theorem ygB (h : Ok nx es) (id : Int) : T (zaH zaB id (ds es) nx') fun r => r.2 = (ds es, nx') ∧ ((r.1 = -1 ∧ mget keqI es id = none) ∨ ∃ (k : Nat) (hk : k < es.length) (n : Nd), r.1 = (k : Int) ∧ es[k] = (id, n) ∧ mget keqI es id = some n) := by
 refine (at_t (L := ds es) (nx := nx') (by rw [zdQ]; exact h.len) id).mono fun r hr => ⟨hr.1, ?_⟩
 rcases hr.2 with ⟨h1, h2⟩ | ⟨k, hk, h1, h2⟩
 ·left
  refine ⟨h1, ?_⟩
  cases hh : mhas keqI es id with
  | false => exact zoL hh
  | true =>
   obtain ⟨n, hn, hp⟩ := zgH hh
   have := (h.ids _ hp).1
   exact absurd this (h2 n (List.mem_map.2 ⟨_, hp, rfl⟩))
 ·right
  have hk' : k < es.length := by rw [← zdQ]; exact hk
  rw [zyD hk] at h2
  have hp := List.getElem_mem hk'
  have h3 := (h.ids _ hp).1
  have h4 : es[k] = (id, es[k].2) := Prod.ext (by rw [← h3, h2]) rfl
  exact ⟨k, hk', es[k].2, h1, h4, zfO h.rises (by rw [← h4]; exact hp)⟩
theorem zvO (h : Ok nx es) (id : Int) : zaD zaB id (ds es) nx' = some (zjA keqI es id zN, mhas keqI es id, ds es, nx') := by
 refine T.eq ?_
 unfold zaD
 refine (ygB h id).bind fun r hr => ?_
 obtain ⟨i, v⟩ := r
 obtain ⟨rfl, hr⟩ := hr
 simp only [] at hr ⊢
 rcases hr with ⟨rfl, h2⟩ | ⟨k, hk, n, rfl, h2, h3⟩
 ·rw [zcF (by omega)]
  refine T.ok ?_
  have : mhas keqI es id = false := by
   cases hh : mhas keqI es id with
   | false => rfl
   | true => obtain ⟨n, hn, _⟩ := zgH hh; rw [h2] at hn; cases hn
  rw [this, ydG this]
 ·rw [zcO (by omega), zbP rfl (by rw [zdQ]; exact hk), zaA]
  refine T.ok ?_
  rw [zfC h3, yhJ h3, zyD, h2]
theorem ydK (h : Ok nx es) (id : Int) : zaS zaB id (ds es) nx' = some (ds es, nx', zmN es id) := by
 have hl := h.len
 have hnx := h.next
 refine T.eq ?_
 unfold zaS
 refine (ygB h id).bind fun r hr => ?_
 obtain ⟨i, v⟩ := r
 obtain ⟨rfl, hr⟩ := hr
 simp only [] at hr ⊢
 refine T.bind (Q := fun r => r = (ds es, nx', zmN es id)) (T.iter (fun x => x.2.1 = ds es ∧ x.2.2.1 = nx' ∧ ((x.1 = -1 ∧ x.2.2.2 = zmN es id) ∨ ∃ (k : Nat) (hk : k < es.length), x.1 = (k : Int) ∧ x.2.2.2 ++ zmN es es[k].1 = zmN es id)) (fun x => if x.1 < 0 then 0 else (match es[x.1.toNat]? with | some p => p.1.toNat + 1 | none => 0)) _ (fun x hx => ?_) ⟨rfl, rfl, ?_⟩ ?_) fun r hr => T.ok hr
 ·obtain ⟨j, L', nx2, acc⟩ := x
  obtain ⟨e1, e2, hx⟩ := hx
  simp only at e1 e2 hx
  subst e1 e2
  unfold zhE
  simp only []
  rcases hx with ⟨rfl, ha⟩ | ⟨k, hk, rfl, ha⟩
  ·rw [zcO (by omega)]
   exact T.ok (by rw [ha])
  ·have hp := List.getElem_mem hk
   have hn := h.ids _ hp
   have hpar := h.par _ hp
   have hal := zqW h id
   rw [← ha, List.length_append] at hal
   rw [zcF (by omega), zbP rfl (by rw [zdQ]; exact hk), zaA, zgM (by simp; omega), zaA, zaA, zyD]
   have hself := ycQ h (zfO h.rises (show (es[k].1, es[k].2) ∈ es from hp))
   refine (ygB h _).bind fun r hr => ?_
   obtain ⟨i2, v⟩ := r
   obtain ⟨rfl, hr⟩ := hr
   simp only [] at hr
   rcases hr with ⟨rfl, h2⟩ | ⟨k2, hk2, n2, rfl, h2, h3⟩
   ·refine T.ok ⟨⟨rfl, rfl, .inl ⟨rfl, ?_⟩⟩, ?_⟩
    ·simp only []
     rw [← ha, hself, zuM h2, hn.1]
    ·simp only [Int.toNat_natCast]
     rw [if_pos (by omega), if_neg (by omega), List.getElem?_eq_getElem hk]
     simp only []
     omega
   ·refine T.ok ⟨⟨rfl, rfl, .inr ⟨k2, hk2, rfl, ?_⟩⟩, ?_⟩
    ·simp only []
     rw [← ha, hself, h2, hn.1, List.append_assoc]; rfl
    ·simp only [Int.toNat_natCast]
     rw [if_neg (by omega), if_neg (by omega), List.getElem?_eq_getElem hk2, List.getElem?_eq_getElem hk]
     simp only [h2]
     have := hpar.2
     unfold npar at this
     omega
 ·rcases hr with ⟨rfl, h2⟩ | ⟨k, hk, n, rfl, h2, h3⟩
  ·exact .inl ⟨rfl, by rw [zuM h2]⟩
  ·exact .inr ⟨k, hk, rfl, by rw [h2]; rfl⟩
 ·split
  ·omega
  ·split
   ·rename_i p hp
    have := h.ids _ (List.mem_of_getElem? hp)
    have h3 : p.1.toNat < 99999999 := by omega
    exact Nat.lt_of_lt_of_le (Nat.succ_lt_succ h3) (by decide)
   ·omega
theorem ygX (h : Ok nx es) (id : Int) : zaX zaB id (ds es) nx' = some (yaB es id, ds es, nx') := by
 refine T.eq ?_
 unfold zaX
 rw [ydK h, zaA]
 have hl := zqW h id
 generalize hle : zmN es id = l at *
 refine T.bind (Q := fun r => match r with
  | .inl v => v = (true, ds es, nx') ∧ l.any (zvZ es) = true
  | .inr v => v = (ds es, nx') ∧ l.any (zvZ es) = false) (T.iter (fun x => x.2 = (ds es, nx', l) ∧ 0 ≤ x.1 ∧ x.1 ≤ (l.length : Int) ∧ (l.take x.1.toNat).any (zvZ es) = false) (fun x => l.length - x.1.toNat) _ (fun x hx => ?_) ⟨rfl, Int.le_refl _, by simp, by simp⟩ (by simp; omega)) fun r hr => ?_
 ·obtain ⟨i, v⟩ := x
  obtain ⟨rfl, h8, h9, h10⟩ := hx
  simp only at h8 h9 h10
  obtain ⟨k, rfl⟩ : ∃ k : Nat, i = k := ⟨i.toNat, by omega⟩
  rw [Int.toNat_natCast] at h10
  unfold zgB
  simp only []
  refine T.dif (fun h2 => ?_) fun h2 => T.ok ⟨rfl, ?_⟩
  ·have hk : k < l.length := by omega
   rw [decide_eq_true (show (0 : Int) ≤ (k : Int) by omega), decide_eq_true h2, Bool.and_self, zoV rfl, zaA, zbP rfl hk, zaA, zvO h, zaA]
   refine T.bif (fun he => T.ok ⟨rfl, ysP hk he⟩) fun he => T.ok ⟨⟨rfl, ?_, ?_, ?_⟩, ?_⟩
   ·simp only []; rw [zbK (by omega)]; omega
   ·simp only []; rw [zbK (by omega)]; omega
   ·simp only []; rw [zbK (by omega), Int.toNat_natCast]; exact zyV hk h10 he
   ·simp only []; rw [zbK (by omega)]; omega
  ·rw [List.take_of_length_le (by omega)] at h10
   exact h10
 ·unfold yaB
  rw [hle]
  cases r with
  | inl v => obtain ⟨rfl, h2⟩ := hr; exact T.ok (by rw [h2])
  | inr v => obtain ⟨rfl, h2⟩ := hr; exact T.ok (by rw [h2])
theorem ydX (h : Ok nx es) (id now : Int) : zaQ zaB id now (ds es) nx' = some (zuS es id now, ds es, nx') := by
 unfold zaQ
 rw [zvO h, zaA]
 unfold zuS canB
 cases hh : mhas keqI es id with
 | false => rw [zoL hh]; rfl
 | true =>
  obtain ⟨n, hn, hp⟩ := zgH hh
  have hd : ybK n = true → yaB es id = true := fun hd => by
   unfold yaB
   rw [ycQ h hn, List.any_cons]
   unfold zvZ
   rw [zfC hn, hd, Bool.true_or]
  rw [hn, zfC hn]
  simp only [cond_true]
  cases hs : zxP n with
  | true =>
   rw [show n.2.2.2.2.2.2.2.2.2.2.1 = true from hs]
   simp
  | false =>
   rw [show n.2.2.2.2.2.2.2.2.2.2.1 = false from hs]
   simp only [Bool.not_false, cond_true, Bool.and_true]
   by_cases he : nexp n > now
   ·rw [decide_eq_true he]
    simp only [cond_true, Bool.and_true]
    rw [ygX h, zaA]
    cases hde : ybK n with
    | false => rfl
    | true => rw [hd hde]; rfl
   ·rw [decide_eq_false he]
    simp
theorem yvT (h : Ok nx es) (id on : Int) : zbW zaB id on (ds es) nx' = some ((zmN es id).contains on, ds es, nx') := by
 refine T.eq ?_
 unfold zbW
 rw [ydK h, zaA]
 have hl := zqW h id
 generalize zmN es id = l at *
 refine T.bind (Q := fun r => match r with
  | .inl v => v = (true, ds es, nx') ∧ l.contains on = true
  | .inr v => v = (ds es, nx') ∧ l.contains on = false) (T.iter (fun x => x.2 = (ds es, nx', l) ∧ 0 ≤ x.1 ∧ x.1 ≤ (l.length : Int) ∧ (l.take x.1.toNat).contains on = false) (fun x => l.length - x.1.toNat) _ (fun x hx => ?_) ⟨rfl, Int.le_refl _, by simp, by simp⟩ (by simp; omega)) fun r hr => ?_
 ·obtain ⟨i, v⟩ := x
  obtain ⟨rfl, h8, h9, h10⟩ := hx
  simp only at h8 h9 h10
  obtain ⟨k, rfl⟩ : ∃ k : Nat, i = k := ⟨i.toNat, by omega⟩
  rw [Int.toNat_natCast] at h10
  unfold zhD
  simp only []
  refine T.dif (fun h2 => ?_) fun h2 => T.ok ⟨rfl, ?_⟩
  ·have hk : k < l.length := by omega
   rw [decide_eq_true (show (0 : Int) ≤ (k : Int) by omega), decide_eq_true h2, Bool.and_self, zoV rfl, zaA, zbP rfl hk, zaA]
   refine T.bif (fun he => T.ok ⟨rfl, ?_⟩) fun he => T.ok ⟨⟨rfl, ?_, ?_, ?_⟩, ?_⟩
   ·rw [← beq_iff_eq.1 he]
    exact List.contains_iff_mem.2 (List.getElem_mem hk)
   ·simp only []; rw [zbK (by omega)]; omega
   ·simp only []; rw [zbK (by omega)]; omega
   ·simp only []
    rw [zbK (by omega), Int.toNat_natCast, List.take_succ_eq_append_getElem hk]
    cases hq : (l.take k ++ [l[k]]).contains on with
    | false => rfl
    | true =>
     rcases List.mem_append.1 (List.contains_iff_mem.1 hq) with hm | hm
     ·rw [List.contains_iff_mem.2 hm] at h10; cases h10
     ·rw [List.mem_singleton.1 hm, beq_self_eq_true] at he; cases he
   ·simp only []; rw [zbK (by omega)]; omega
  ·rw [List.take_of_length_le (by omega)] at h10
   exact h10
 ·cases r with
  | inl v => obtain ⟨rfl, h2⟩ := hr; exact T.ok (by rw [h2])
  | inr v => obtain ⟨rfl, h2⟩ := hr; exact T.ok (by rw [h2])
end
section
theorem ynT {α : Type} {p : α → Bool} : ∀ {l : List α} {k : Nat} (hk : k < l.length), (l.take k).any p = false → p l[k] = true → l.find? p = some l[k]
 | x :: l, 0, hk, _, h2 => by
  simp only [List.getElem_cons_zero] at h2 ⊢
  rw [List.find?_cons, h2]
 | x :: l, k + 1, hk, h1, h2 => by
  simp only [List.take_succ_cons, List.any_cons, Bool.or_eq_false_iff] at h1
  simp only [List.getElem_cons_succ] at h2 ⊢
  rw [List.find?_cons, h1.1]
  exact ynT (by simpa using hk) h1.2 h2
theorem yqR {α : Type} {p : α → Bool} {l : List α} (h : l.any p = false) : l.find? p = none := by
 rw [List.find?_eq_none]
 intro x hx hp
 rw [List.any_eq_true.2 ⟨x, hx, hp⟩] at h; cases h
variable {nx nx' : Int} {es : Es}
theorem ylB (h : Ok nx es) (sec : L8) : zbB zaB sec (ds es) nx' = some ((zpU es sec).getD zN, (zpU es sec).isSome, ds es, nx') := by
 have hl := h.len
 refine T.eq ?_
 unfold zbB
 refine T.bind (Q := fun r => match r with
  | .inl v => v.1 = true ∧ v.2.1 = ds es ∧ v.2.2.1 = nx' ∧ zpU es sec = some v.2.2.2
  | .inr v => v.1 = ds es ∧ v.2.1 = nx' ∧ zpU es sec = none) (T.iter (fun x => x.2.1 = ds es ∧ x.2.2.1 = nx' ∧ 0 ≤ x.1 ∧ x.1 ≤ (es.length : Int) ∧ (es.take x.1.toNat).any (fun p => nsec p.2 == sec) = false) (fun x => es.length - x.1.toNat) _ (fun x hx => ?_) ⟨rfl, rfl, Int.le_refl _, by simp, by simp⟩ (by simp; omega)) fun r hr => ?_
 ·obtain ⟨i, L', nx', v⟩ := x
  obtain ⟨e1, e2, h8, h9, h10⟩ := hx
  simp only at e1 e2 h8 h9 h10
  subst e1 e2
  obtain ⟨k, rfl⟩ : ∃ k : Nat, i = k := ⟨i.toNat, by omega⟩
  rw [Int.toNat_natCast] at h10
  unfold zhA
  simp only []
  refine T.dif (fun h2 => ?_) fun h2 => T.ok ⟨rfl, rfl, ?_⟩
  ·have hk : k < es.length := by rw [zdQ] at h2; omega
   rw [zbP rfl (by rw [zdQ]; exact hk), zaA, zyD]
   refine T.bif (fun he => ?_) fun he => T.ok ⟨⟨rfl, rfl, ?_, ?_, ?_⟩, ?_⟩
   ·rw [zaA]
    refine T.ok ⟨rfl, rfl, rfl, ?_⟩
    unfold zpU
    rw [ynT hk h10 he]; rfl
   ·simp only []; rw [zbK (by omega)]; omega
   ·simp only []; rw [zbK (by omega)]; omega
   ·simp only []; rw [zbK (by omega), Int.toNat_natCast]; exact zyV hk h10 he
   ·simp only []; rw [zbK (by omega)]; omega
  ·rw [zdQ] at h2
   rw [List.take_of_length_le (by omega)] at h10
   unfold zpU
   rw [yqR h10]; rfl
 ·cases r with
  | inl v =>
   obtain ⟨b, L', nx', n⟩ := v
   obtain ⟨e0, e1, e2, h⟩ := hr
   simp only at e0 e1 e2 h
   subst e0 e1 e2
   exact T.ok (by rw [h]; rfl)
  | inr v =>
   obtain ⟨L', nx', n⟩ := v
   obtain ⟨e1, e2, h⟩ := hr
   simp only at e1 e2 h
   subst e1 e2
   exact T.ok (by rw [h]; rfl)
theorem xfA (h : zmA es) {k : Nat} (hk : k < es.length) (g : Nd → Nd) : ds (chI es es[k].1 g) = (ds es).set k (g es[k].2) := by
 refine List.ext_getElem (by rw [zdQ, List.length_set, zdQ]; exact yhQ es _) fun j h1 h2 => ?_
 have hj : j < es.length := by rw [List.length_set, zdQ] at h2; exact h2
 rw [zyD h1, List.getElem_set]
 unfold chI chE
 rw [List.getElem_map]
 by_cases e : k = j
 ·subst e; simp
 ·rw [if_neg e, zyD]
  have : es[j].1 ≠ es[k].1 := fun e2 => by
   rcases Nat.lt_or_gt_of_ne e with hlt | hlt
   ·have := List.pairwise_iff_getElem.1 h k j hk hj hlt; omega
   ·have := List.pairwise_iff_getElem.1 h j k hj hk hlt; omega
  simp only [this, if_false]
theorem yzM (h : Ok nx es) {n m : Nd} (hm : mget keqI es n.1 = some m) : zaG zaB n (ds es) nx' = some (nx', ds (chI es n.1 fun _ => n)) := by
 have hl := h.len
 refine T.eq ?_
 unfold zaG
 refine (ygB h _).bind fun r hr => ?_
 obtain ⟨i, v⟩ := r
 obtain ⟨rfl, hr⟩ := hr
 simp only [] at hr ⊢
 rw [znN _ (by rw [zdQ]; omega), zaA]
 rcases hr with ⟨_, hn⟩ | ⟨k, hk, m2, rfl, h4, h5⟩
 ·rw [hm] at hn; cases hn
 ·rw [decide_eq_true (show (0 : Int) ≤ (k : Int) by omega), decide_eq_true (show (k : Int) < ((ds es).length : Int) by rw [zdQ]; omega), Bool.and_self, zoV rfl, zaA]
  have hs : setL (ds es) (k : Int) n = some ((ds es).set k n) := by
   unfold setL
   rw [decide_eq_true (show (0 : Int) ≤ (k : Int) by omega), decide_eq_true (show (k : Int) < ((ds es).length : Int) by rw [zdQ]; omega)]
   simp
  rw [hs, zaA]
  refine T.ok ?_
  have := xfA h.rises hk (fun _ => n)
  rw [h4] at this
  rw [this]
theorem yyU {id : Int} {n : Nd} (h : zmA es) (hm : mget keqI es id = some n) (g : Nd → Nd) : chI es id (fun _ => g n) = chI es id g := by
 unfold chI
 refine zqI fun p hp => ?_
 by_cases e : p.1 = id
 ·simp only [e, if_true]
  have : mget keqI es id = some p.2 := zfO h (by rw [← e]; exact hp)
  rw [hm] at this; cases this; rfl
 ·simp only [e, if_false]
theorem yuB {id : Int} {n : Nd} (h : zmA es) (hm : mget keqI es id = some n) {g : Nd → Nd} (hg : g n = n) : chI es id g = es := by
 rw [← yyU h hm g, hg]
 unfold chI chE
 conv => rhs; rw [← List.map_id es]
 refine List.map_congr_left fun p hp => ?_
 by_cases e : p.1 = id
 ·have : mget keqI es id = some p.2 := zfO h (by rw [← e]; exact hp)
  rw [hm] at this; cases this
  simp [e]
  rw [← e]
 ·simp [e]
theorem yhH (h : Ok nx es) {id : Int} {n : Nd} (hm : mget keqI es id = some n) (g : Nd → Nd) (hg : (g n).1 = n.1) : zaG zaB (g n) (ds es) nx' = some (nx', ds (chI es id g)) := by
 have hid : n.1 = id := (h.ids _ (znQ hm)).1
 have e : (g n).1 = id := hg.trans hid
 rw [yzM h (n := g n) (m := n) (by rw [e]; exact hm), e, yyU h.rises hm g]
theorem ykW (h : Ok nx es) (id : Int) : zbE zaB id (ds es) nx' = some (bif mhas keqI es id then (0, ds (chI es id zmL), nx') else (131, ds es, nx')) := by
 unfold zbE
 rw [zvO h, zaA]
 cases hh : mhas keqI es id with
 | false => rfl
 | true =>
  obtain ⟨n, hn, hp⟩ := zgH hh
  rw [zfC hn]
  simp only [Bool.not_true, cond_false, cond_true]
  have := yhH (nx' := nx') h hn zmL rfl
  rw [show ((n.1, n.2.1, n.2.2.1, n.2.2.2.1, n.2.2.2.2.1, n.2.2.2.2.2.1, n.2.2.2.2.2.2.1, n.2.2.2.2.2.2.2.1, n.2.2.2.2.2.2.2.2.1, true, n.2.2.2.2.2.2.2.2.2.2) : Nd) = zmL n from rfl, this, zaA]
theorem ytN (h : Ok nx es) (id now : Int) : zbR zaB id now (ds es) nx' = some ((zvV es id now).1, ds (zvV es id now).2, nx') := by
 unfold zbR zvV
 rw [zvO h, zaA]
 cases hh : mhas keqI es id with
 | false => rw [zoL hh]; rfl
 | true =>
  obtain ⟨n, hn, hp⟩ := zgH hh
  rw [hn, zfC hn]
  simp only [Bool.not_true, cond_false]
  cases hs : zxP n with
  | true =>
   rw [show n.2.2.2.2.2.2.2.2.2.2.1 = true from hs]
   simp only [cond_true]
   rw [ykW h, hh]
   rfl
  | false =>
   rw [show n.2.2.2.2.2.2.2.2.2.2.1 = false from hs]
   simp only [cond_false]
   rw [ydX h, zaA]
   cases zuS es id now with
   | false => rfl
   | true =>
    simp only [Bool.not_true, cond_false, cond_true]
    have := yhH (nx' := nx') h hn ygK rfl
    rw [show ((n.1, n.2.1, n.2.2.1, n.2.2.2.1, n.2.2.2.2.1, n.2.2.2.2.2.1, n.2.2.2.2.2.2.1, n.2.2.2.2.2.2.2.1, n.2.2.2.2.2.2.2.2.1, n.2.2.2.2.2.2.2.2.2.1, true, n.2.2.2.2.2.2.2.2.2.2.2) : Nd) = ygK n from rfl, this, zaA]
end
end Go.Proofs.YtebbcofojchkpaaGreatDoor.Am
namespace Go.Proofs.YtebbcofojchkpaaGreatDoor
open Go Go.RowKit
theorem yeJ (u : Nat) : Lib.decDigits u = if u < 10 then [UInt8.ofNat (48 + u)] else Lib.decDigits (u / 10) ++ [UInt8.ofNat (48 + u % 10)] := by
 rw [Lib.decDigits]
 by_cases h : u < 10
 ·rw [dif_pos h, if_pos h]
 ·rw [dif_neg h, if_neg h]
theorem znP : ∀ (k u : Nat), 0 < k → u < 10 ^ k → (Lib.decDigits u).length ≤ k
 | 0, _, h, _ => absurd h (Nat.lt_irrefl 0)
 | k + 1, u, _, h => by
  rw [yeJ]
  by_cases hu : u < 10
  ·rw [if_pos hu]; simp
  ·rw [if_neg hu]
   have hk : 0 < k := by
    rcases Nat.eq_zero_or_pos k with rfl | hk
    ·rw [Nat.zero_add, Nat.pow_one] at h; omega
    ·exact hk
   have := znP k (u / 10) hk (by rw [Nat.pow_succ] at h; omega)
   simp; omega
theorem zzK (u : Nat) (hu : u < 9223372036854775808) : yiP (u : Int) = some (Lib.decDigits u) := by
 unfold yiP yuA
 rw [decide_eq_true (show (-9223372036854775808 : Int) ≤ (u : Int) by omega), decide_eq_true (show (u : Int) ≤ 9223372036854775807 by omega)]
 simp only [Bool.and_self, cond_true]
 rw [decide_eq_false (show ¬ (u : Int) < 0 by omega)]
 simp only [cond_false, Int.toNat_natCast]
 rw [ydT 20 u (by omega) (by decide)]
theorem yeY {p : UInt8 → Bool} : ∀ {l : Bs}, (∀ b ∈ l, p b = true) → l.dropWhile p = []
 | [], _ => rfl
 | b :: l, h => by
  rw [List.dropWhile_cons, if_pos (h b List.mem_cons_self)]
  exact yeY fun b hb => h b (List.mem_cons_of_mem _ hb)
def zgC : List Bs → Bs
 | [] => []
 | t :: ts => Lib.decDigits t.length ++ 58 :: (t ++ zgC ts)
def digB (b : UInt8) : Bool := decide (48 ≤ b.toNat) && decide (b.toNat ≤ 57)
def valF (l : Bs) : Nat := l.foldl (fun a b => 10 * a + (b.toNat - 48)) 0
def numB (s : Bs) : Bool := s != [] && decide (s.length ≤ 15) && (s.head? != some 48 || s == [48]) && s.all digB
theorem ycN {p : UInt8 → Bool} : ∀ {l : Bs}, l.dropWhile p = [] → ∀ b ∈ l, p b = true
 | [], _, b, hb => by cases hb
 | c :: l, h, b, hb => by
  rw [List.dropWhile_cons] at h
  split at h
  ·rename_i hc
   rcases List.mem_cons.1 hb with rfl | hb
   ·exact hc
   ·exact ycN h b hb
  ·cases h
theorem yaN {p : UInt8 → Bool} : ∀ {l : Bs} {b : UInt8}, b ∈ l → p b = false → b ∈ l.dropWhile p
 | c :: l, b, hb, hp => by
  rw [List.dropWhile_cons]
  split
  ·rename_i hc
   rcases List.mem_cons.1 hb with rfl | hb
   ·rw [hp] at hc; cases hc
   ·exact yaN hb hp
  ·exact hb
theorem ytQ {l cs : Bs} : Lib.trimS l cs = [] ↔ ∀ b ∈ l, cs.contains b = true := by
 unfold Lib.trimS Lib.trimLeftS Lib.trimRightS
 constructor
 ·intro h b hb
  cases hc : cs.contains b with
  | true => rfl
  | false =>
   have h1 := yaN (List.mem_reverse.2 hb) hc
   have h2 := ycN h b (List.mem_reverse.2 h1)
   rw [hc] at h2; cases h2
 ·intro h
  rw [yeY (l := l.reverse) fun b hb => h b (List.mem_reverse.1 hb)]
  rfl
end Go.Proofs.YtebbcofojchkpaaGreatDoor
namespace Go.Proofs.YtebbcofojchkpaaGreatDoor.Am
open Go Go.RowKit
abbrev OpT : Type := Int × Int × Int × Int × L8 × Nd
def yfI (o : OpT) (nx : Int) (es : Es) : Int × Es :=
 bif o.2.1 == (0 : Int) then ((zkZ o.2.2.2.2.2 o.2.2.1 nx es).2.2.1, (zkZ o.2.2.2.2.2 o.2.2.1 nx es).2.2.2) else
 bif o.2.1 == (1 : Int) then (nx, es) else
 bif o.2.1 == (2 : Int) then (nx, (zvV es o.2.2.1 o.2.2.2.1).2) else
 bif o.2.1 == (3 : Int) then (nx, bif mhas keqI es o.2.2.1 then chI es o.2.2.1 zmL else es) else
 bif o.2.1 == (4 : Int) then (nx, zsG es o.2.2.2.2.1) else
 bif o.2.1 == (5 : Int) then (nx, (ydU es o.2.2.1 o.2.2.2.1).2) else
 bif o.2.1 == (6 : Int) then (nx, (ydZ es o.2.2.1 o.2.2.2.2.1).2) else
 bif o.2.1 == (7 : Int) then (nx, zbU es o.2.2.1) else (nx, es)
theorem Ok.kill {nx : Int} {es : Es} (h : Ok nx es) (i : Int) : Ok nx (bif mhas keqI es i then chI es i zmL else es) := by
 cases mhas keqI es i with
 | false => exact h
 | true => exact h.ch (zpH _)
theorem Ok.step {nx : Int} {es : Es} (h : Ok nx es) (o : OpT) : Ok (yfI o nx es).1 (yfI o nx es).2 := by
 unfold yfI
 cases o.2.1 == (0 : Int) with
 | true => exact h.plant _ _
 | false =>
  cases o.2.1 == (1 : Int) with
  | true => exact h
  | false =>
   cases o.2.1 == (2 : Int) with
   | true => exact h.spend _ _
   | false =>
    cases o.2.1 == (3 : Int) with
    | true => exact h.kill _
    | false =>
     cases o.2.1 == (4 : Int) with
     | true => exact h.killed _
     | false =>
      cases o.2.1 == (5 : Int) with
      | true => exact h.lift _ _
      | false =>
       cases o.2.1 == (6 : Int) with
       | true => exact h.note _ _
       | false =>
        cases o.2.1 == (7 : Int) with
        | true => exact h.pruned _
        | false => exact h
theorem yyL : Lst zN := ⟨by decide, by decide⟩
theorem ytG {nx : Int} {es : Es} (h : Ok nx es) (i : Int) : Lst (zjA keqI es i zN) := by
 cases hh : mhas keqI es i with
 | false => rw [ydG hh]; exact yyL
 | true =>
  obtain ⟨n, hn, hp⟩ := zgH hh
  rw [zfC hn]
  exact h.lst hp
theorem yrF {nx : Int} {es : Es} (h : Ok nx es) {s : L8} {n : Nd} (hf : zpU es s = some n) : Lst n := by
 unfold zpU at hf
 obtain ⟨p, hp, rfl⟩ := Option.map_eq_some_iff.1 hf
 exact h.lst (List.mem_of_find?_eq_some hp)
theorem xcH {s : Int × Int × List Nd × Int × Es × Int × Int × Int × L8 × L8 × L8 × Int × Int × Bool × Bool × Int × L8 × L8 × List L8 × List L8} (h0 : s.1 = 0) (h1 : (s.2.2.2.2.2.2.2.2.2.2.2.2.2.2.2.2.2.2.1).length ≤ 1048576) (h2 : (s.2.2.2.2.2.2.2.2.2.2.2.2.2.2.2.2.2.2.2).length ≤ 1048576) : T (iter (fun x => zhM zaB x.1 x.2.1 x.2.2.1 x.2.2.2.1 x.2.2.2.2.1 x.2.2.2.2.2.1 x.2.2.2.2.2.2.1 x.2.2.2.2.2.2.2.1 x.2.2.2.2.2.2.2.2.1 x.2.2.2.2.2.2.2.2.2.1 x.2.2.2.2.2.2.2.2.2.2.1 x.2.2.2.2.2.2.2.2.2.2.2.1 x.2.2.2.2.2.2.2.2.2.2.2.2.1 x.2.2.2.2.2.2.2.2.2.2.2.2.2.1 x.2.2.2.2.2.2.2.2.2.2.2.2.2.2.1 x.2.2.2.2.2.2.2.2.2.2.2.2.2.2.2.1 x.2.2.2.2.2.2.2.2.2.2.2.2.2.2.2.2.1 x.2.2.2.2.2.2.2.2.2.2.2.2.2.2.2.2.2.1 x.2.2.2.2.2.2.2.2.2.2.2.2.2.2.2.2.2.2.1 x.2.2.2.2.2.2.2.2.2.2.2.2.2.2.2.2.2.2.2) s) fun r => r.1 = s.2.1 ∧ r.2.1 = s.2.2.1 ∧ r.2.2.1 = s.2.2.2.1 ∧ r.2.2.2.1 = s.2.2.2.2.1 ∧ (r.2.2.2.2.2.2.2.2.2.2.2.2.2.2.2.2.2.2).length ≤ 1048576 := by
 refine T.iter (fun x => x.2.1 = s.2.1 ∧ x.2.2.1 = s.2.2.1 ∧ x.2.2.2.1 = s.2.2.2.1 ∧ x.2.2.2.2.1 = s.2.2.2.2.1 ∧ 0 ≤ x.1 ∧ x.1 ≤ ((x.2.2.2.2.2.2.2.2.2.2.2.2.2.2.2.2.2.2.1).length : Int) ∧ (x.2.2.2.2.2.2.2.2.2.2.2.2.2.2.2.2.2.2.1).length ≤ 1048576 ∧ (x.2.2.2.2.2.2.2.2.2.2.2.2.2.2.2.2.2.2.2).length ≤ 1048576) (fun x => (x.2.2.2.2.2.2.2.2.2.2.2.2.2.2.2.2.2.2.1).length - x.1.toNat) _ (fun x hx => ?_) ⟨rfl, rfl, rfl, rfl, by omega, by omega, h1, h2⟩ (by omega)
 obtain ⟨e1, e2, e3, e4, h5, h6, h7, h8⟩ := hx
 obtain ⟨k, hk⟩ : ∃ k : Nat, x.1 = k := ⟨x.1.toNat, by omega⟩
 unfold zhM
 rw [hk]
 rw [hk] at h5 h6
 refine T.dif (fun h9 => ?_) fun _ => T.ok ⟨e1, e2, e3, e4, h8⟩
 rw [decide_eq_true (show (0 : Int) ≤ (k : Int) by omega), decide_eq_true h9, Bool.and_self, zoV rfl, zaA]
 refine (yxN (by omega) h9).bind fun r hr => ?_
 obtain ⟨j, rfl⟩ := hr
 refine T.ok ⟨⟨e1, e2, e3, e4, ?_, ?_, ?_, h8⟩, ?_⟩
 ·rw [zbK (by omega)]; exact Int.natCast_nonneg _
 ·rw [zbK (by omega), List.length_set]; exact Int.ofNat_le.2 (by omega)
 ·rw [List.length_set]; exact h7
 ·rw [zbK (by omega), List.length_set, Int.toNat_natCast]; omega
theorem xcO {s : Int × Int × List Nd × Int × Es × Int × Int × Int × L8 × L8 × L8 × Int × Int × Bool × Bool × Int × L8 × L8 × List L8 × List L8} (h0 : s.1 = 0) (h2 : (s.2.2.2.2.2.2.2.2.2.2.2.2.2.2.2.2.2.2.2).length ≤ 1048576) : T (iter (fun x => zhI zaB x.1 x.2.1 x.2.2.1 x.2.2.2.1 x.2.2.2.2.1 x.2.2.2.2.2.1 x.2.2.2.2.2.2.1 x.2.2.2.2.2.2.2.1 x.2.2.2.2.2.2.2.2.1 x.2.2.2.2.2.2.2.2.2.1 x.2.2.2.2.2.2.2.2.2.2.1 x.2.2.2.2.2.2.2.2.2.2.2.1 x.2.2.2.2.2.2.2.2.2.2.2.2.1 x.2.2.2.2.2.2.2.2.2.2.2.2.2.1 x.2.2.2.2.2.2.2.2.2.2.2.2.2.2.1 x.2.2.2.2.2.2.2.2.2.2.2.2.2.2.2.1 x.2.2.2.2.2.2.2.2.2.2.2.2.2.2.2.2.1 x.2.2.2.2.2.2.2.2.2.2.2.2.2.2.2.2.2.1 x.2.2.2.2.2.2.2.2.2.2.2.2.2.2.2.2.2.2.1 x.2.2.2.2.2.2.2.2.2.2.2.2.2.2.2.2.2.2.2) s) fun r => r = (s.2.1, s.2.2.1, s.2.2.2.1, s.2.2.2.2.1) := by
 refine T.iter (fun x => x.2.1 = s.2.1 ∧ x.2.2.1 = s.2.2.1 ∧ x.2.2.2.1 = s.2.2.2.1 ∧ x.2.2.2.2.1 = s.2.2.2.2.1 ∧ 0 ≤ x.1 ∧ x.1 ≤ ((x.2.2.2.2.2.2.2.2.2.2.2.2.2.2.2.2.2.2.2).length : Int) ∧ (x.2.2.2.2.2.2.2.2.2.2.2.2.2.2.2.2.2.2.2).length ≤ 1048576) (fun x => (x.2.2.2.2.2.2.2.2.2.2.2.2.2.2.2.2.2.2.2).length - x.1.toNat) _ (fun x hx => ?_) ⟨rfl, rfl, rfl, rfl, by omega, by omega, h2⟩ (by omega)
 obtain ⟨e1, e2, e3, e4, h5, h6, h8⟩ := hx
 obtain ⟨k, hk⟩ : ∃ k : Nat, x.1 = k := ⟨x.1.toNat, by omega⟩
 unfold zhI
 rw [hk]
 rw [hk] at h5 h6
 refine T.dif (fun h9 => ?_) fun _ => T.ok (by rw [e1, e2, e3, e4])
 rw [decide_eq_true (show (0 : Int) ≤ (k : Int) by omega), decide_eq_true h9, Bool.and_self, zoV rfl, zaA]
 refine (yxN (by omega) h9).bind fun r hr => ?_
 obtain ⟨j, rfl⟩ := hr
 refine T.ok ⟨⟨e1, e2, e3, e4, ?_, ?_, ?_⟩, ?_⟩
 ·rw [zbK (by omega)]; exact Int.natCast_nonneg _
 ·rw [zbK (by omega), List.length_set]; exact Int.ofNat_le.2 (by omega)
 ·rw [List.length_set]; exact h8
 ·rw [zbK (by omega), List.length_set, Int.toNat_natCast]; omega
theorem xfJ : Ok 1 [] := ⟨List.Pairwise.nil, fun _ h => (by cases h), fun _ h => (by cases h), fun _ h => (by cases h), fun _ h => (by cases h), ⟨by decide, by decide⟩, by decide⟩
end Go.Proofs.YtebbcofojchkpaaGreatDoor.Am
namespace Go.Proofs.YtebbcofojchkpaaGreatDoor
open Go Go.RowKit
section
open Go Go.RowKit Go.ChangeShapes Go.WideShapes Go.ChangeAt
section
variable {H : Type} {enc : TypeId × Value → H} {P : Program} {W W' : World}
theorem yaF (hl : laidOutB P = true) (hx : Below W.heap.size W W') : ∀ {ts : List TypeId} {vs : LV} {ds : List (DataW H)} {ps : List MemPlace}, ts.all (fun t => P.readableRec t && decide (t < P.types.size)) = true →
  DataW.TrodAll enc P W 0 (fun _ => true) true ts vs ds ps → (∀ x ∈ ps, x.block < W.heap.size) → DataW.TrodAll enc P W' 0 (fun b => decide (b < W.heap.size)) true ts vs ds ps
 | [], vs, ds, ps, _, h, _ => by
  obtain ⟨rfl, rfl, rfl⟩ := trodAll_nil h
  exact trodAll_mk0
 | t :: ts, vs, ds, ps, ha, h, hlt => by
  obtain ⟨v, vs', d, ds', p, q, rfl, rfl, rfl, h0, hr⟩ := trodAll_cons h
  simp only [List.all_cons, Bool.and_eq_true, decide_eq_true_eq] at ha
  exact trodAll_cons_mk (Below.trod hl ha.1.1 ha.1.2 h0 hx fun x hx => hlt x (List.mem_append.2 (.inl hx)))
   (yaF hl hx ha.2 hr fun x hx => hlt x (List.mem_append.2 (.inr hx)))
theorem trodAll_length : ∀ {ts : List TypeId} {vs : LV} {ds : List (DataW H)} {ps : List MemPlace} {w : World} {b : Nat} {sp : Nat → Bool} {hd : Bool}, DataW.TrodAll enc P w b sp hd ts vs ds ps → vs.length = ts.length ∧ ds.length = ts.length
 | [], vs, ds, ps, _, _, _, _, h => by
  obtain ⟨rfl, rfl, rfl⟩ := trodAll_nil h
  exact ⟨rfl, rfl⟩
 | t :: ts, vs, ds, ps, _, _, _, _, h => by
  obtain ⟨v, vs', d, ds', p, q, rfl, rfl, rfl, h0, hr⟩ := trodAll_cons h
  have := trodAll_length hr
  simp [this.1, this.2]
theorem ywV {f : Func} {s : ChangeSpec} {args : Array Value} {ds gs : List (DataW H)} {before : List MemPlace} {B : TypeId} {n : Nat} (hl : laidOutB P = true) (hv : s.vars = [])
  (hp : f.params.toList.all (fun t => P.readableRec t && decide (t < P.types.size)) = true) (hn : f.params.toList.length = n) (hB : P.underlying B = some .bool) (hr : f.resultTypes = #[B])
  (hfn : ∀ ds : List (DataW H), ds.length = n → (s.fn H (ds ++ [])).results = [.lit (.bool true)] ∧ (s.fn H (ds ++ [])).args = ds ∧ (s.fn H (ds ++ [])).vars = [])
  (hW : DataW.Whole enc P f.params.toList s.vars false W args.toList ds gs before) (hx : Ext W W') : s.post enc P f false true false false W args (.bool true) W' := by
 have hW' := hW
 obtain ⟨p, q, hA, hV, rfl, _, _⟩ := hW
 rw [hv] at hV
 obtain ⟨rfl, rfl⟩ := trodVars_none hV
 have hA : DataW.TrodAll enc P W 0 (fun _ => true) true f.params.toList args.toList ds p := hA
 have hlen := trodAll_length hA
 obtain ⟨f1, f2, f3⟩ := hfn ds (hlen.2.trans hn)
 refine ⟨ds, [], p ++ [], [], p, [], hW', ?_, ?_, ?_, Below.frame hx _, fun h => by cases h⟩
 ·rw [f1, hr]
  exact trodAll_mk1 (shut_bool hB _)
 ·rw [f2]
  exact yaF hl hx hp hA fun x hxp => by simpa using hW'.lt x (by simp [hxp])
 ·rw [f3, hv]; exact rfl
variable {b0 : Nat} {T E : TypeId} {v : Value}
theorem ywB {fits : TypeId → Bool} : ∀ {d : Nat} {e : TypeId} {count off n : Nat}, rowAt P fits d e count off n = true → off ≤ count * P.cellsOf e
 | 0, _, _, _, _, h => by simp [rowAt] at h
 | d + 1, e, count, off, n, h => by
  unfold rowAt at h
  by_cases hs : P.cellsOf e = 0
  ·simp [hs] at h
  ·have hd := Nat.div_add_mod off (P.cellsOf e)
   have hm := Nat.mod_lt off (Nat.pos_of_ne_zero hs)
   simp only [hs, if_false, Bool.or_eq_true, Bool.and_eq_true, decide_eq_true_eq, beq_iff_eq] at h
   rcases h with ⟨⟨h1, h2⟩, _⟩ | ⟨h1, _⟩
   ·have h3 : P.cellsOf e * (off / P.cellsOf e) ≤ P.cellsOf e * count := Nat.mul_le_mul_left _ (by omega)
    rw [Nat.mul_comm count]; omega
   ·have h3 : P.cellsOf e * (off / P.cellsOf e + 1) ≤ P.cellsOf e * count := Nat.mul_le_mul_left _ (by omega)
    rw [Nat.mul_add, Nat.mul_one] at h3
    rw [Nat.mul_comm count]; omega
theorem ygN : ∀ {d : Nat} {e : TypeId} {count off : Nat} {u : TypeId} {n : Nat}, liesAt P d e count off u n = true → off ≤ count * P.cellsOf e
 | 0, _, _, _, _, _, h => by simp [liesAt] at h
 | d + 1, e, count, off, u, n, h => by
  unfold liesAt at h
  rw [Bool.or_eq_true] at h
  rcases h with h | h
  ·exact ywB h
  ·split at h
   ·exact ygN h
   ·cases h
theorem yuR {a : Addr} {len cap : Nat} (hu : P.underlying T = some (.slice E)) (h : Value.okWide P W .any b0 T (.slice (some a) len cap)) :
  a.spot = none ∧ ∃ cs R fz, W.heap[a.block]? = some (.cells cs R fz) ∧ a.off ≤ cs.size := by
 simp only [Value.okWide, Cell.okWide, Cell.ok, hu] at h
 obtain ⟨_, _, _, h2, row, cells, h3, h4⟩ := h
 refine ⟨h2, ?_⟩
 unfold World.shape? at h3
 split at h3
 ·rename_i c elem fz hb
  simp only [Option.some.injEq, Prod.mk.injEq] at h3
  obtain ⟨rfl, rfl⟩ := h3
  have h5 := ygN h4
  have h6 := Nat.div_mul_le_self c.size (P.cellsOf elem)
  exact ⟨c, _, fz, hb, by omega⟩
 ·cases h3
theorem ok_slice (hu : P.underlying T = some (.slice E)) (h : Value.okWide P W .any b0 T v) : v = .slice none 0 0 ∨ ∃ a len cap, v = .slice (some a) len cap := by
 simp only [Value.okWide, Cell.okWide, Cell.ok, hu] at h
 cases v with
 | slice a len cap =>
  cases a with
  | none =>
   left
   cases len with
   | zero => cases cap with
    | zero => rfl
    | succ n => simp at h
   | succ n => simp at h
  | some a => exact .inr ⟨a, len, cap, rfl⟩
 | _ => simp at h
theorem yjY {l r : List (DataW H)} : Rows.uptoBulkAll (l ++ r) = Rows.uptoBulkAll l + Rows.uptoBulkAll r := by
 induction l with
 | nil => simp [Rows.uptoBulkAll]
 | cons x l ih => simp only [List.cons_append, Rows.uptoBulkAll, ih]; omega
end
end
end Go.Proofs.YtebbcofojchkpaaGreatDoor
namespace Go.Proofs.YtebbcofojchkpaaGreatDoor.Am
open Go Go.RowKit Go.ChangeShapes Go.WideShapes Go.ChangeAt
def dsz : (t : Ty) → den t → Nat
 | .s, x => List.length x + 1
 | .pr a c, x => dsz a x.1 + dsz c x.2
 | .un, _ => 0
 | .sl e, x => (List.map (dsz e) x).sum + 1
 | _, _ => 1
def fOk (q : TypeId → Ty → Bool) (c : TypeId → Nat) : List Field → Nat → Ty → Bool
 | [], _, t => match t with
  | .un => true
  | _ => false
 | [f], off, t => (q f.type t && (Nat.beq f.offset off && Nat.beq (c f.type) (tsz t))) || (match t with
  | .pr a .un => q f.type a && (Nat.beq f.offset off && Nat.beq (c f.type) (tsz a))
  | _ => false)
 | f :: g :: fs, off, t => match t with
  | .pr a r => (q f.type a && (Nat.beq f.offset off && Nat.beq (c f.type) (tsz a))) && fOk q c (g :: fs) (off + tsz a) r
  | _ => false
def tyOk (P : Program) : Nat → TypeId → Ty → Bool
 | 0, _, _ => false
 | n + 1, T, t => match P.underlying T, t with
  | some (.int k), .i k' => (ikEq k k').isSome
  | some .bool, .b => true
  | some .string, .s => true
  | some (.slice E), .sl e => tyOk P n E e && (Nat.beq (P.cellsOf E) (tsz e) && Nat.blt 0 (tsz e))
  | some (.struct fs), t => (Nat.beq (P.cellsOf T) (tsz t) && !(one t)) && fOk (tyOk P n) P.cellsOf fs.toList 0 t
  | _, _ => false
section
variable {H : Type} {enc : TypeId × Value → H} {P : Program} {W : World} {sp : Nat → Bool} {S : Mem}
theorem toI_wf : ∀ {k : IntKind} {n : Int}, (Lit.int k n).wf = true → toI k (ofI k n) = n := fun {k n} h => by
 rw [yoH]
 cases k <;> simp [Lit.wf, IntKind.has, IntKind.min, IntKind.max, IntKind.signed, IntKind.bits] at h <;> simp [IntKind.wrap, IntKind.signed, IntKind.bits] <;> omega
theorem yhI {a c : Ty} {cs : LV} {x : den a} {y : den c} (hx : rep a S (cs.take (tsz a)) x) (hy : rep c S (cs.drop (tsz a)) y) : rep (.pr a c) S cs (x, y) :=
 ⟨_, _, (List.take_append_drop (tsz a) cs).symm, hx, hy⟩
theorem yyH : rep .un S ([] : LV) () := rfl
theorem yfQ {q : TypeId → Ty → Bool} {fuel : Nat} (hq : ∀ (T : TypeId) (t : Ty), q T t = true → ∀ cs d ps, DataW.trod enc P W 0 sp true fuel T cs = some (d, ps) → ∃ x : den t, rep t S cs x ∧ dsz t x ≤ Rows.uptoBulk d) {cs : LV} :
  ∀ (fs : List Field) (off : Nat) (t : Ty) (xs : List (DataW H × List MemPlace)), fOk q P.cellsOf fs off t = true → cs.length = off + tsz t →
   A2 (fun (f : Field) y => DataW.trod enc P W 0 sp true fuel f.type ((cs.drop f.offset).take (P.cellsOf f.type)) = some y) fs xs →
   ∃ x : den t, rep t S (cs.drop off) x ∧ dsz t x ≤ Rows.uptoBulkAll (xs.map (·.1))
 | [], off, t, xs, h, hl, hA => by
  cases t <;> simp only [fOk] at h <;> try (cases h; done)
  cases hA
  refine ⟨(), ?_, Nat.zero_le _⟩
  rw [List.drop_eq_nil_of_le (by rw [hl]; exact Nat.le_refl _)]
  exact yyH
 | [f], off, t, xs, h, hl, hA => by
  cases hA with
  | @cons _ y _ _ h1 h2 =>
   cases h2
   simp only [fOk, Bool.or_eq_true] at h
   rcases h with h | h
   ·rw [Bool.and_eq_true, Bool.and_eq_true] at h
    obtain ⟨h0, h2, h3⟩ := h
    have h2 := Nat.eq_of_beq_eq_true h2
    have h3 := Nat.eq_of_beq_eq_true h3
    obtain ⟨x, hx, hd⟩ := hq _ _ h0 _ _ _ h1
    refine ⟨x, ?_, by simp only [List.map_cons, List.map_nil, Rows.uptoBulkAll]; omega⟩
    rw [h2, h3, List.take_of_length_le (by rw [List.length_drop]; omega)] at hx
    exact hx
   ·cases t with
    | pr a c =>
     cases c with
     | un =>
      rw [Bool.and_eq_true, Bool.and_eq_true] at h
      obtain ⟨h0, h2, h3⟩ := h
      have h2 := Nat.eq_of_beq_eq_true h2
      have h3 := Nat.eq_of_beq_eq_true h3
      obtain ⟨x, hx, hd⟩ := hq _ _ h0 _ _ _ h1
      rw [h2, h3] at hx
      have hl : cs.length = off + tsz a := hl
      refine ⟨(x, ()), yhI hx ?_, by simp only [List.map_cons, List.map_nil, Rows.uptoBulkAll]; show dsz a x + 0 ≤ _; omega⟩
      rw [List.drop_eq_nil_of_le (by rw [List.length_drop]; omega)]
      exact yyH
     | _ => simp at h
    | _ => simp at h
 | f :: g :: fs, off, t, xs, h, hl, hA => by
  cases t with
  | pr a r =>
   simp only [fOk] at h
   rw [Bool.and_eq_true, Bool.and_eq_true, Bool.and_eq_true] at h
   obtain ⟨⟨h1, h2, h3⟩, h4⟩ := h
   have h2 := Nat.eq_of_beq_eq_true h2
   have h3 := Nat.eq_of_beq_eq_true h3
   have hl : cs.length = off + (tsz a + tsz r) := hl
   cases hA with
   | @cons _ y _ ys g1 g2 =>
    obtain ⟨x, hx, hd⟩ := hq _ _ h1 _ _ _ g1
    obtain ⟨z, hz, he⟩ := yfQ hq (g :: fs) (off + tsz a) r ys h4 (by omega) g2
    rw [h2, h3] at hx
    refine ⟨(x, z), yhI hx (by rw [List.drop_drop]; exact hz), ?_⟩
    simp only [List.map_cons, Rows.uptoBulkAll]
    show dsz a x + dsz r z ≤ _
    omega
  | _ => simp [fOk] at h
theorem yyK {α β : Type} {R : α → β → Prop} : ∀ {l : List α} {m : List β}, l.length = m.length → (∀ (i : Nat) (a : α) (b : β), l[i]? = some a → m[i]? = some b → R a b) → A2 R l m
 | [], [], _, _ => .nil
 | [], _ :: _, h, _ => by cases h
 | _ :: _, [], h, _ => by cases h
 | a :: l, b :: m, h, hR => .cons (hR 0 a b rfl rfl) (yyK (by simpa using h) fun i a b ha hb => hR (i + 1) a b (by simpa using ha) (by simpa using hb))
theorem yoE {e : Ty} : ∀ {xs : List (den e)} {cs ds : LV} {x : den e}, @RL (den e) (rpD e) S cs xs → rep e S ds x → @RL (den e) (rpD e) S (cs ++ ds) (xs ++ [x])
 | [], cs, ds, x, h, hx => by
  have h : cs = [] := h
  subst h
  exact ⟨ds, [], by simp, hx, rfl⟩
 | y :: xs, cs, ds, x, h, hx => by
  obtain ⟨c, d, rfl, h1, h2⟩ := h
  exact ⟨c, d ++ ds, by simp, h1, yoE h2 hx⟩
theorem sl_of {T E : TypeId} {e : Ty} {fuel : Nat} (hu : P.underlying T = some (.slice E)) (hc : P.cellsOf E = tsz e) (hz : 0 < tsz e) (hq : ∀ (m : Nat) (cs : LV) (d : DataW H) (ps : List MemPlace), DataW.trod enc P W 0 (fun _ => true) true m E cs = some (d, ps) → ∃ x : den e, rep e (zpF W) cs x ∧ dsz e x ≤ Rows.uptoBulk d) {cs : LV} {d : DataW H} {ps : List MemPlace} (hd : DataW.trod enc P W 0 (fun _ => true) true fuel T cs = some (d, ps)) :
  ∃ xs : List (den e), rep (.sl e) (zpF W) cs xs ∧ dsz (.sl e) xs ≤ Rows.uptoBulk d := by
 rcases DataW.trod_slice hu hd with ⟨rfl, h2⟩ | ⟨a, len, cap, elems, rest, m, rfl, rfl, h2, _, hlc, _, hel, hget, hrest, _⟩
 ·cases h2
  exact ⟨[], ⟨_, rfl, [], .inl ⟨⟨none, rfl⟩, rfl, rfl⟩, rfl⟩, Nat.le_refl _⟩
 ·cases h2
  by_cases hcap : cap = 0
  ·subst hcap
   obtain rfl : len = 0 := by omega
   refine ⟨[], ⟨_, rfl, [], .inl ⟨⟨some a, rfl⟩, rfl, rfl⟩, rfl⟩, ?_⟩
   show 0 + 1 ≤ _
   simp only [Rows.uptoBulk]
   omega
  have h0 : ∃ us, W.cells? 0 a (P.cellsOf E) = some us := by
   by_cases hl0 : len = 0
   ·subst hl0
    obtain ⟨g1, g2⟩ := hrest rfl
    have g3 := g2 0 (by omega)
    rw [List.getElem?_eq_getElem (by omega : 0 < rest.length)] at g3
    obtain ⟨us, hus, _⟩ := Option.bind_eq_some_iff.1 g3
    rw [show a.add ((0 + 0) * P.cellsOf E) = a by simp [Addr.add]] at hus
    exact ⟨us, hus⟩
   ·have g3 := hget 0 (by omega)
    rw [List.getElem?_eq_getElem (by omega : 0 < elems.length)] at g3
    obtain ⟨us, hus, _⟩ := Option.bind_eq_some_iff.1 g3
    rw [show a.add (0 * P.cellsOf E) = a by simp [Addr.add]] at hus
    exact ⟨us, hus⟩
  obtain ⟨us, hus⟩ := h0
  obtain ⟨_, hul, huc⟩ := World.cells?_some hus
  have hc0 := huc 0 (by omega)
  rw [show a.add 0 = a by simp [Addr.add], List.getElem?_eq_getElem (by omega : 0 < us.length)] at hc0
  obtain ⟨blk, off, spot⟩ := a
  obtain ⟨cs, R, fz, hb, hsp, ho⟩ : ∃ cs R fz, W.heap[blk]? = some (.cells cs R fz) ∧ spot = none ∧ off ≤ cs.size := by
   unfold World.cell? at hc0
   dsimp only at hc0
   split at hc0
   ·rename_i c R fz hb
    cases spot with
    | some s => simp at hc0
    | none =>
     rw [if_neg (by simp)] at hc0
     have := (Array.getElem?_eq_some_iff.1 hc0).1
     exact ⟨c, R, fz, hb, rfl, Nat.le_of_lt this⟩
   ·cases hc0
  subst hsp
  have ad : ∀ j, (⟨blk, off, none⟩ : Addr).add j = ⟨blk, off + j, none⟩ := fun j => by simp [Addr.add]
  have each : ∀ i, i < len → ∃ y x, elems[i]? = some y ∧ rep e (zpF W) (piece cs.toList (off + i * tsz e) (tsz e)) x ∧ dsz e x ≤ Rows.uptoBulk y.1 ∧ off + (i + 1) * tsz e ≤ cs.toList.length := fun i hi => by
   have hg := hget i hi
   obtain ⟨y, hy⟩ : ∃ y, elems[i]? = some y := ⟨_, List.getElem?_eq_getElem (by omega)⟩
   rw [hy] at hg
   obtain ⟨us, hus, hg⟩ := Option.bind_eq_some_iff.1 hg
   obtain ⟨_, hul, huc⟩ := World.cells?_some hus
   obtain ⟨x, hx, hdx⟩ := hq m us y.1 y.2 hg
   rw [hc, ad] at huc
   rw [hc] at hul
   have hcell : ∀ j, j < tsz e → cs.toList[off + i * tsz e + j]? = us[j]? := fun j hj => by
    have := huc j hj
    rw [show (⟨blk, off + i * tsz e, none⟩ : Addr).add j = ⟨blk, off + i * tsz e + j, none⟩ by simp [Addr.add]] at this
    simp only [World.cell?, hb, Option.isSome_none, if_neg (show ¬ (false = true) by decide)] at this
    simpa using this
   have hlen : off + (i + 1) * tsz e ≤ cs.toList.length := by
    have h1 := hcell (tsz e - 1) (by omega)
    rw [List.getElem?_eq_getElem (by omega : tsz e - 1 < us.length)] at h1
    have := (List.getElem?_eq_some_iff.1 h1).1
    rw [Nat.add_mul]; omega
   refine ⟨y, x, hy, ?_, hdx, hlen⟩
   have : piece cs.toList (off + i * tsz e) (tsz e) = us := by
    apply List.ext_getElem?
    intro j
    rw [zaI, List.getElem?_take]
    by_cases hj : j < tsz e
    ·rw [if_pos hj, List.getElem?_drop]; exact hcell j hj
    ·rw [if_neg hj, List.getElem?_eq_none (by omega)]
   rw [this]; exact hx
  have key : ∀ k, k ≤ len → ∃ xs : List (den e), xs.length = k ∧ @RL (den e) (rpD e) (zpF W) (piece cs.toList off (k * tsz e)) xs ∧ (List.map (dsz e) xs).sum ≤ Rows.uptoBulkAll ((elems.take k).map (·.1)) := by
   intro k
   induction k with
   | zero => intro _; exact ⟨[], rfl, by simp [piece, RL], Nat.zero_le _⟩
   | succ k ih =>
    intro hk
    obtain ⟨xs, h1, h2, h3⟩ := ih (by omega)
    obtain ⟨y, x, g1, g2, g3, _⟩ := each k (by omega)
    refine ⟨xs ++ [x], by simp [h1], ?_, ?_⟩
    ·have e2 : piece cs.toList off ((k + 1) * tsz e) = piece cs.toList off (k * tsz e) ++ piece cs.toList (off + k * tsz e) (tsz e) := by
      rw [zaI, zaI, zaI, Nat.add_mul, Nat.one_mul, List.take_add, List.drop_drop]
     rw [e2]
     exact yoE h2 g2
    ·rw [List.take_add_one, g1]
     simp only [Option.toList_some, List.map_append, List.map_cons, List.map_nil, List.sum_append, List.sum_cons, List.sum_nil, yjY, Rows.uptoBulkAll]
     omega
  obtain ⟨xs, h1, h2, h3⟩ := key len (Nat.le_refl _)
  have hfit : off + len * tsz e ≤ cs.toList.length := by
   rcases Nat.eq_zero_or_pos len with h0 | h0
   ·subst h0; rw [Array.length_toList]; omega
   ·obtain ⟨_, _, _, _, _, h4⟩ := each (len - 1) (by omega)
    rwa [Nat.sub_add_cancel h0] at h4
  refine ⟨xs, ⟨_, rfl, piece cs.toList off (len * tsz e), ?_, h2⟩, ?_⟩
  ·right
   refine ⟨blk, off, cap, cs.toList, R, fz, ?_, by rw [h1]; exact hlc, by simpa [zpF] using hb, ?_, ?_⟩
   ·rw [h1]
   ·rw [h1]; show _ + _ * (rpD e).sz ≤ _; rw [zlB]; exact hfit
   ·rw [h1]; show piece _ _ (_ * (rpD e).sz) = _; rw [zlB]
  ·rw [List.take_of_length_le (by omega)] at h3
   show (List.map (dsz e) xs).sum + 1 ≤ _
   simp only [Rows.uptoBulk]
   omega
theorem ycV : ∀ (n : Nat) (T : TypeId) (t : Ty), tyOk P n T t = true → ∀ (fuel : Nat) (cs : LV) (d : DataW H) (ps : List MemPlace), DataW.trod enc P W 0 (fun _ => true) true fuel T cs = some (d, ps) → ∃ x : den t, rep t (zpF W) cs x ∧ dsz t x ≤ Rows.uptoBulk d
 | 0, _, _, h, _, _, _, _, _ => by cases h
 | n + 1, T, t, h, fuel, cs, d, ps, hd => by
  unfold tyOk at h
  split at h
  ·rename_i k k' hu
   obtain ⟨hk, _⟩ := Option.isSome_iff_exists.1 h
   obtain rfl := hk.down
   obtain ⟨m, rfl, he, hw⟩ := DataW.trod_int hu hd
   cases he
   exact ⟨ofI _ m, (by show [Value.int _ m] = [.int _ (toI _ (ofI _ m))]; rw [toI_wf hw]), Nat.le_refl 1⟩
  ·rename_i hu
   obtain ⟨b, rfl, he⟩ := DataW.trod_bool hu hd
   cases he
   exact ⟨b, rfl, Nat.le_refl 1⟩
  ·rename_i hu
   obtain ⟨s, rfl, he, _⟩ := DataW.trod_string hu hd
   cases he
   exact ⟨s.data.toList, (by show [Value.string s] = [str s.data.toList]; simp [str]), Nat.le_refl _⟩
  ·rename_i E e hu
   rw [Bool.and_eq_true, Bool.and_eq_true] at h
   obtain ⟨h1, h2, h3⟩ := h
   exact sl_of hu (Nat.eq_of_beq_eq_true h2) (by rw [zkS] at h3; simpa using h3) (fun m cs d ps hd => ycV n E e h1 m cs d ps hd) hd
  ·rename_i fs hu
   rw [Bool.and_eq_true, Bool.and_eq_true] at h
   obtain ⟨⟨h1, _⟩, h2⟩ := h
   have h1 := Nat.eq_of_beq_eq_true h1
   obtain ⟨xs, fuel, rfl, he, hl, hxl, hm⟩ := DataW.trod_struct hu hd
   cases he
   obtain ⟨x, hx, hb⟩ := yfQ (S := zpF W) (fuel := fuel) (fun T' t' hq cs d ps => ycV n T' t' hq fuel cs d ps) fs.toList 0 _ xs h2 (by rw [hl, h1]; omega) (yyK (by simp [hxl]) fun i f y hf hy => (hm i f (by simpa using hf)).trans hy)
   exact ⟨x, by simpa using hx, by simp only [Rows.uptoBulk]; omega⟩
  ·cases h
variable {b0 : Nat} {T E : TypeId} {v : Value}
theorem ywX {n : Nat} {e : Ty} (hu : P.underlying T = some (.slice E)) (he : tyOk P n E e = true) (hc : P.cellsOf E = tsz e) (hz : 0 < tsz e) (h : Value.okWide P W .any b0 T v) {d : DataW H} {ps : List MemPlace} (hd : DataW.Trod enc P W 0 (fun _ => true) true T v d ps) :
  ∃ xs : List (den e), @RdS (den e) (rpD e) (zpF W) v xs ∧ dsz (.sl e) xs ≤ Rows.uptoBulk d := by
 obtain ⟨fuel, hf⟩ := hd
 have hv := ok_slice hu h
 have hcells : v.cells.toList = [v] := by
  rcases hv with rfl | ⟨a, len, cap, rfl⟩ <;> rfl
 rw [hcells] at hf
 rcases DataW.trod_slice hu hf with ⟨h1, h2⟩ | ⟨a, len, cap, elems, rest, m, rfl, h1, h2, _, hlc, _, hel, hget, _, _⟩
 ·simp only [List.cons.injEq, and_true] at h1
  subst h1
  cases h2
  exact ⟨[], ⟨[], .inl ⟨⟨none, rfl⟩, rfl, rfl⟩, rfl⟩, Nat.le_refl _⟩
 ·simp only [List.cons.injEq, and_true] at h1
  subst h1
  cases h2
  obtain ⟨hsp, cs, R, fz, hb, ho⟩ := yuR hu h
  obtain ⟨blk, off, spot⟩ := a
  dsimp only at hsp hb ho
  subst hsp
  have ad : ∀ j, (⟨blk, off, none⟩ : Addr).add j = ⟨blk, off + j, none⟩ := fun j => by simp [Addr.add]
  have each : ∀ i, i < len → ∃ y x, elems[i]? = some y ∧ rep e (zpF W) (piece cs.toList (off + i * tsz e) (tsz e)) x ∧ dsz e x ≤ Rows.uptoBulk y.1 ∧ off + (i + 1) * tsz e ≤ cs.toList.length := fun i hi => by
   have hg := hget i hi
   obtain ⟨y, hy⟩ : ∃ y, elems[i]? = some y := ⟨_, List.getElem?_eq_getElem (by omega)⟩
   rw [hy] at hg
   obtain ⟨us, hus, hg⟩ := Option.bind_eq_some_iff.1 hg
   obtain ⟨_, hul, huc⟩ := World.cells?_some hus
   obtain ⟨x, hx, hdx⟩ := ycV n E e he m us y.1 y.2 hg
   rw [hc, ad] at huc
   rw [hc] at hul
   have hcell : ∀ j, j < tsz e → cs.toList[off + i * tsz e + j]? = us[j]? := fun j hj => by
    have := huc j hj
    rw [show (⟨blk, off + i * tsz e, none⟩ : Addr).add j = ⟨blk, off + i * tsz e + j, none⟩ by simp [Addr.add]] at this
    simp only [World.cell?, hb, Option.isSome_none, if_neg (show ¬ (false = true) by decide)] at this
    simpa using this
   have hlen : off + (i + 1) * tsz e ≤ cs.toList.length := by
    have h1 := hcell (tsz e - 1) (by omega)
    rw [List.getElem?_eq_getElem (by omega : tsz e - 1 < us.length)] at h1
    have := (List.getElem?_eq_some_iff.1 h1).1
    rw [Nat.add_mul]; omega
   refine ⟨y, x, hy, ?_, hdx, hlen⟩
   have : piece cs.toList (off + i * tsz e) (tsz e) = us := by
    apply List.ext_getElem?
    intro j
    rw [zaI, List.getElem?_take]
    by_cases hj : j < tsz e
    ·rw [if_pos hj, List.getElem?_drop]; exact hcell j hj
    ·rw [if_neg hj, List.getElem?_eq_none (by omega)]
   rw [this]; exact hx
  have key : ∀ k, k ≤ len → ∃ xs : List (den e), xs.length = k ∧ @RL (den e) (rpD e) (zpF W) (piece cs.toList off (k * tsz e)) xs ∧ (List.map (dsz e) xs).sum ≤ Rows.uptoBulkAll ((elems.take k).map (·.1)) := by
   intro k
   induction k with
   | zero => intro _; exact ⟨[], rfl, by simp [piece, RL], Nat.zero_le _⟩
   | succ k ih =>
    intro hk
    obtain ⟨xs, h1, h2, h3⟩ := ih (by omega)
    obtain ⟨y, x, g1, g2, g3, _⟩ := each k (by omega)
    refine ⟨xs ++ [x], by simp [h1], ?_, ?_⟩
    ·have e2 : piece cs.toList off ((k + 1) * tsz e) = piece cs.toList off (k * tsz e) ++ piece cs.toList (off + k * tsz e) (tsz e) := by
      rw [zaI, zaI, zaI, Nat.add_mul, Nat.one_mul, List.take_add, List.drop_drop]
     rw [e2]
     exact yoE h2 g2
    ·rw [List.take_add_one, g1]
     simp only [Option.toList_some, List.map_append, List.map_cons, List.map_nil, List.sum_append, List.sum_cons, List.sum_nil, yjY, Rows.uptoBulkAll]
     omega
  obtain ⟨xs, h1, h2, h3⟩ := key len (Nat.le_refl _)
  have hfit : off + len * tsz e ≤ cs.toList.length := by
   rcases Nat.eq_zero_or_pos len with h0 | h0
   ·subst h0; rw [Array.length_toList]; omega
   ·obtain ⟨_, _, _, _, _, h4⟩ := each (len - 1) (by omega)
    rwa [Nat.sub_add_cancel h0] at h4
  refine ⟨xs, ⟨piece cs.toList off (len * tsz e), ?_, h2⟩, ?_⟩
  ·right
   refine ⟨blk, off, cap, cs.toList, R, fz, ?_, by rw [h1]; exact hlc, by simpa [zpF] using hb, ?_, ?_⟩
   ·rw [h1]
   ·rw [h1]; show _ + _ * (rpD e).sz ≤ _; rw [zlB]; exact hfit
   ·rw [h1]; show piece _ _ (_ * (rpD e).sz) = _; rw [zlB]
  ·rw [List.take_of_length_le (by omega)] at h3
   show (List.map (dsz e) xs).sum + 1 ≤ _
   simp only [Rows.uptoBulk]
   omega
def argOk (P : Program) (T : TypeId) (t : Ty) : Bool := match P.underlying T, t with
 | some (.slice E), .sl e => tyOk P 8 E e && (Nat.beq (P.cellsOf E) (tsz e) && Nat.blt 0 (tsz e))
 | _, t => tyOk P 8 T t
theorem argD_ok {t : Ty} (ha : argOk P T t = true) (h : Value.okWide P W .any b0 T v) {d : DataW H} {ps : List MemPlace} (hd : DataW.Trod enc P W 0 (fun _ => true) true T v d ps) :
  ∃ x : den t, rep1 t (zpF W) v x ∧ dsz t x ≤ Rows.uptoBulk d := by
 unfold argOk at ha
 split at ha
 ·rename_i E e hu
  rw [Bool.and_eq_true, Bool.and_eq_true] at ha
  obtain ⟨h1, h2, h3⟩ := ha
  obtain ⟨xs, g1, g2⟩ := ywX hu h1 (Nat.eq_of_beq_eq_true h2) (by rw [zkS] at h3; simpa using h3) h hd
  exact ⟨xs, ⟨v, rfl, g1⟩, g2⟩
 ·obtain ⟨fuel, hf⟩ := hd
  obtain ⟨x, hx, hb⟩ := ycV 8 T _ ha fuel _ _ _ hf
  refine ⟨x, ?_, hb⟩
  unfold rep1
  unfold tyOk at ha
  split at ha
  ·rename_i hu
   have hv : v.cells.toList = [v] := by
    simp only [Value.okWide, hu, Cell.okWide, Cell.ok] at h
    cases v <;> simp_all <;> rfl
   rw [hv] at hx
   rw [if_pos (show one (.i _) = true from rfl)]; exact hx
  ·rename_i hu
   have hv : v.cells.toList = [v] := by
    simp only [Value.okWide, hu, Cell.okWide, Cell.ok] at h
    cases v <;> simp_all <;> rfl
   rw [hv] at hx
   rw [if_pos (show one .b = true from rfl)]; exact hx
  ·rename_i hu
   have hv : v.cells.toList = [v] := by
    simp only [Value.okWide, hu, Cell.okWide, Cell.ok] at h
    cases v <;> simp_all <;> rfl
   rw [hv] at hx
   rw [if_pos (show one .s = true from rfl)]; exact hx
  ·rename_i hu hno
   exact (hno _ _ hu rfl).elim
  ·rename_i fs hu _
   rw [Bool.and_eq_true, Bool.and_eq_true] at ha
   simp only [Value.okWide, hu] at h
   obtain ⟨cs, rfl, _, _⟩ := h
   rw [if_neg (by simpa using ha.1.2)]
   exact ⟨cs.toList, by simp, hx⟩
  ·cases ha
def posT : Ty → Bool
 | .un => false
 | .pr a c => posT a || posT c
 | _ => true
theorem yiU : ∀ {e : Ty}, posT e = true → ∀ x : den e, 1 ≤ dsz e x
 | .i _, _, _ => Nat.le_refl 1
 | .b, _, _ => Nat.le_refl 1
 | .s, _, _ => Nat.le_add_left 1 _
 | .er, _, _ => Nat.le_refl 1
 | .sl _, _, _ => Nat.le_add_left 1 _
 | .mp _ _, _, _ => Nat.le_refl 1
 | .pr a c, h, x => by
  show 1 ≤ dsz a x.1 + dsz c x.2
  have h : (posT a || posT c) = true := h
  rw [Bool.or_eq_true] at h
  rcases h with h | h
  ·have := yiU h x.1; omega
  ·have := yiU h x.2; omega
theorem yeA {e : Ty} (he : posT e = true) : ∀ xs : List (den e), xs.length + 1 ≤ dsz (.sl e) xs
 | [] => Nat.le_refl 1
 | x :: xs => by
  have h1 := yiU he x
  have h2 : xs.length + 1 ≤ (List.map (dsz e) xs).sum + 1 := yeA he xs
  show (x :: xs).length + 1 ≤ (List.map (dsz e) (x :: xs)).sum + 1
  simp only [List.length_cons, List.map_cons, List.sum_cons]
  omega
theorem rep1_vr {t : Ty} {S : Mem} {E : List EI} {v : Value} {x : den t} (h : rep1 t S v x) : VR S E (svOf t x) v := yrY (l := [t]) h
end
end Go.Proofs.YtebbcofojchkpaaGreatDoor.Am
namespace Go.Proofs.YtebbcofojchkpaaGreatDoor.Am
open Go Go.RowKit
theorem nd_id {nx : Int} {es : Es} (h : Ok nx es) {k : Nat} (hk : k < es.length) : es[k].2.1 = es[k].1 := (h.ids _ (List.getElem_mem hk)).1
theorem ykL {e : Ty} {x : den e} : ∀ {xs : List (den e)}, x ∈ xs → dsz e x ≤ dsz (.sl e) xs
 | y :: ys, h => by
  show _ ≤ (List.map (dsz e) (y :: ys)).sum + 1
  simp only [List.map_cons, List.sum_cons]
  rcases List.mem_cons.1 h with rfl | h
  ·omega
  ·have : dsz e x ≤ (List.map (dsz e) ys).sum + 1 := ykL h
   omega
theorem xaD {n : Nd} (h : dsz zoD n ≤ 1048576) : NdOk n := by
 obtain ⟨a0, a1, a2, a3, a4, a5, a6, a7, a8, a9, a10, a11, a12, a13, a14⟩ := n
 have h : dsz (.i .i64) a0 + (dsz (.i .i64) a1 + (dsz (.i .i64) a2 + (dsz .s a3 + (dsz .s a4 + (dsz .s a5 + (dsz (.sl .s) a6 + (dsz (.i .i64) a7 + (dsz (.i .i64) a8 + (dsz .b a9 + (dsz .b a10 + (dsz (.sl .s) a11 + (dsz (.i .i64) a12 + (dsz .s a13 + dsz .s a14))))))))))))) ≤ 1048576 := h
 have e3 : dsz .s a3 = a3.length + 1 := rfl
 have e4 : dsz .s a4 = a4.length + 1 := rfl
 have e5 : dsz .s a5 = a5.length + 1 := rfl
 have h6 : a6.length + 1 ≤ dsz (.sl .s) a6 := yeA (e := .s) rfl a6
 have h11 : a11.length + 1 ≤ dsz (.sl .s) a11 := yeA (e := .s) rfl a11
 refine ⟨?_, ?_, ?_, ?_, fun s hs => ?_, ?_, fun s hs => ?_⟩
 ·show a3.length ≤ _; omega
 ·show a4.length ≤ _; omega
 ·show a5.length ≤ _; omega
 ·show a6.length ≤ _; omega
 ·have h1 := ykL (e := .s) hs
  have e : dsz .s s = s.length + 1 := rfl
  have h1 : s.length + 1 ≤ dsz (.sl .s) a6 := h1
  omega
 ·show a11.length ≤ _; omega
 ·have h1 : s.length + 1 ≤ dsz (.sl .s) a11 := ykL (e := .s) hs
  omega
theorem op_of {o : OpT} (h : dsz ydF o ≤ 1048576) : NdOk o.2.2.2.2.2 := by
 obtain ⟨a, b, c, d, e, n⟩ := o
 have h : dsz (.i .i64) a + (dsz (.i .i64) b + (dsz (.i .i64) c + (dsz (.i .i64) d + (dsz .s e + dsz zoD n)))) ≤ 1048576 := h
 have h2 : dsz zoD n ≤ 1048576 := by omega
 exact xaD h2
theorem ops_of {l : List OpT} (h : dsz (.sl ydF) l ≤ 1048576) : l.length ≤ 1048576 ∧ ∀ o ∈ l, NdOk o.2.2.2.2.2 := by
 have h1 : l.length + 1 ≤ dsz (.sl ydF) l := yeA (e := ydF) rfl l
 refine ⟨by omega, fun o ho => op_of ?_⟩
 have h2 : dsz ydF o ≤ dsz (.sl ydF) l := ykL (e := ydF) ho
 omega
theorem ztL : ∀ (a b : List Bs), zgC (a ++ b) = zgC a ++ zgC b
 | [], _ => rfl
 | t :: a, b => by
  show Lib.decDigits t.length ++ 58 :: (t ++ zgC (a ++ b)) = (Lib.decDigits t.length ++ 58 :: (t ++ zgC a)) ++ zgC b
  rw [ztL a b]; simp
theorem ytR (ts : List Bs) (hl : (zgC ts).length < 4294967281) (hn : ts.length < 1099511627776) : zkB ts = some (zgC ts) := by
 have key : ∀ (k : Nat), (zgC (ts.take k)).length ≤ (zgC ts).length := fun k => by
  have := ztL (ts.take k) (ts.drop k)
  rw [List.take_append_drop] at this
  rw [this, List.length_append]; omega
 have h : iter (ziA ts) ((((0 : Nat) : Int)), zgC (ts.take 0)) = some (zgC ts) := by
  refine zpB (fun k => ((k : Int), zgC (ts.take k))) ts.length hn (zgC ts) (fun k hk => ?_) ?_
  ·have ht : ts.take (k + 1) = ts.take k ++ [ts[k]] := by rw [List.take_succ_eq_append_getElem hk]
   have e : zgC (ts.take (k + 1)) = zgC (ts.take k) ++ (Lib.decDigits ts[k].length ++ 58 :: ts[k]) := by
    rw [ht, ztL]; simp [zgC]
   have h1 := key (k + 1)
   rw [e] at h1
   simp only [List.length_append, List.length_cons] at h1
   unfold ziA
   simp only []
   rw [zcF (by omega), zbP rfl hk, zaA, zzK _ (by omega), zaA, Am.zgM (by simp only [List.length_cons, List.length_nil]; omega), zaA, Am.zgM (by simp only [List.length_append, List.length_cons, List.length_nil]; omega), zaA]
   unfold zfS
   rw [show zkR (zgC (ts.take k)) = some _ from rfl, zaA, Am.zgM (by simp only [List.length_append, List.length_cons, List.length_nil]; omega), zaA, zaA, ziU (by omega) (by omega), e]
   simp
  ·unfold ziA
   simp only []
   rw [zcO (by omega), List.take_length]
 unfold zkB
 have h : iter (ziA ts) ((0 : Int), ([] : Bs)) = some (zgC ts) := h
 rw [h, zaA, zaA, zoV (decide_eq_true (by omega)), zaA]
theorem yyC {s : L8} {n : Int} {cs : L8} (h : zeO zaB s n cs = some true) : (s.length : Int) ≤ n := by
 unfold zeO at h
 by_cases hl : (s.length : Int) ≤ n
 ·exact hl
 ·rw [zcO hl] at h
  cases hb : s != ([] : L8) <;> rw [hb] at h <;> cases h
theorem ykD {s : L8} (h : nmB s = true) : s.length ≤ 24 := by
 have h1 := ysD s
 rw [h] at h1
 unfold zdM at h1
 cases ho : zeO zaB s 24 [97, 98, 99, 100, 101, 102, 103, 104, 105, 106, 107, 108, 109, 110, 111, 112, 113, 114, 115, 116, 117, 118, 119, 120, 121, 122, 48, 49, 50, 51, 52, 53, 54, 55, 56, 57, 46, 95, 45] with
 | none => rw [ho] at h1; cases h1
 | some b =>
  rw [ho] at h1
  cases h1
  have := yyC ho
  omega
theorem yqZ {s : L8} (h : scB s = true) : s.length ≤ 32 := by
 have h1 := ypX s
 rw [h] at h1
 unfold zeM at h1
 cases ho : zeO zaB s 32 [97, 98, 99, 100, 101, 102, 103, 104, 105, 106, 107, 108, 109, 110, 111, 112, 113, 114, 115, 116, 117, 118, 119, 120, 121, 122, 48, 49, 50, 51, 52, 53, 54, 55, 56, 57, 46, 95, 45, 58] with
 | none => rw [ho] at h1; cases h1
 | some b =>
  rw [ho] at h1
  cases h1
  have := yyC ho
  omega
theorem yvI {s : L8} (h : txB s = true) : s.length ≤ 128 := by
 have h1 := xaK s
 rw [h] at h1
 unfold zeK at h1
 by_cases hl : (s.length : Int) ≤ 128
 ·omega
 ·rw [zcO hl] at h1
  cases hb : s != ([] : L8) <;> rw [hb] at h1 <;> cases h1
theorem yjC {s : L8} (h : prB s = true) : s.length ≤ 26 := by
 have h1 := yvW s
 rw [h] at h1
 unfold zbI at h1
 by_cases hl : (s.length : Int) > 2
 ·rw [zcF hl, show subH s 2 = some (s.take 2) from yiY (n := 2) (by omega), zaA, show subL s 2 = some (s.drop 2) from yhO (n := 2) (by omega)] at h1
  have hd : (s.drop 2).length = s.length - 2 := List.length_drop ..
  simp only [zaA] at h1
  rw [ysD] at h1
  simp only [zaA] at h1
  cases hn : nmB (s.drop 2) with
  | true =>
   have := ykD hn
   omega
  | false =>
   rw [hn] at h1
   cases h2 : s.take 2 == ([117, 58] : L8) <;> cases h3 : s.take 2 == ([99, 58] : L8) <;> rw [h2] at h1 <;> simp only [cond_true, cond_false] at h1 <;> (try rw [h3] at h1) <;> cases h1
 ·rw [zcO hl] at h1
  cases h1
theorem ynW {l : List L8} (hl : l.length ≤ 1048576) : axB l = l.any fun s => !prB s := by
 have h : T (iter (zhR zaB l) (0 : Int)) fun r => match r with
   | .inl i => 0 ≤ i ∧ (l.any fun s => !prB s) = true
   | .inr _ => (l.any fun s => !prB s) = false := by
  refine T.iter (fun x => 0 ≤ x ∧ x ≤ (l.length : Int) ∧ ((l.take x.toNat).any fun s => !prB s) = false) (fun x => l.length - x.toNat) _ (fun x hx => ?_) ⟨Int.le_refl _, by omega, rfl⟩ (by omega)
  obtain ⟨h2, h3, h4⟩ := hx
  obtain ⟨k, rfl⟩ : ∃ k : Nat, x = k := ⟨x.toNat, by omega⟩
  rw [Int.toNat_natCast] at h4
  unfold zhR
  refine T.dif (fun h5 => ?_) fun h5 => T.ok ?_
  ·have hk : k < l.length := by omega
   rw [zbP rfl hk, zaA]
   unfold zkM
   rw [yvW, zaA, zaA]
   refine T.bif (fun h6 => T.ok ⟨by omega, ysP hk h6⟩) fun h6 => T.ok ⟨⟨?_, ?_, ?_⟩, ?_⟩
   ·rw [zbK (by omega)]; omega
   ·rw [zbK (by omega)]; omega
   ·rw [zbK (by omega), Int.toNat_natCast]
    exact zyV (p := fun s => !prB s) hk h4 h6
   ·rw [zbK (by omega)]; omega
  ·rw [List.take_of_length_le (by omega)] at h4
   exact h4
 obtain ⟨r, h1, h2⟩ := h
 have h3 := ax_ok hl
 unfold zaO ziX at h3
 rw [h1, zaA] at h3
 cases r with
 | inl i =>
  simp only [zaA] at h3
  rw [decide_eq_true (show i ≥ 0 from h2.1)] at h3
  rw [← osi h3, h2.2]
 | inr u =>
  simp only [zaA] at h3
  rw [← osi h3, show (l.any fun s => !prB s) = false from h2]
  rfl
theorem yoK {l : List L8} : ∀ (f i : Nat), f + i = l.length → scpF l f i = true → ∀ k, i ≤ k → (hk : k < l.length) → scB l[k] = true
 | 0, i, hf, _, k, hi, hk => by omega
 | f + 1, i, hf, h, k, hi, hk => by
  have hil : i < l.length := by omega
  unfold scpF at h
  rw [List.getElem?_eq_getElem hil] at h
  simp only [Bool.and_eq_true] at h
  by_cases e : k = i
  ·subst e; exact h.1.1
  ·exact yoK f (i + 1) (by omega) h.2 k (by omega) hk
theorem ytW (l : List (List L8)) (h : l.flatten.length ≤ 1000000) (hn : l.length ≤ 1000000) : zmB zaB l = some l.flatten := by
 have hp : ∀ k, (l.take k).flatten.length ≤ l.flatten.length := fun k => by
  have e : l.flatten = (l.take k).flatten ++ (l.drop k).flatten := by rw [← List.flatten_append, List.take_append_drop]
  rw [e, List.length_append]
  omega
 have hs : ∀ (k : Nat) (hk : k < l.length), (l.take (k + 1)).flatten = (l.take k).flatten ++ l[k] := fun k hk => by
  rw [List.take_succ_eq_append_getElem hk, List.flatten_append, List.flatten_singleton]
 have hI : iter (fun x => zkP zaB l x.1 x.2) ((0 : Int), (0 : Int)) = some (l.flatten.length : Int) := by
  refine zpB (fun k => (((l.take k).flatten.length : Int), (k : Int))) l.length (by omega) _ (fun k hk => ?_) ?_
  ·have h1 := hp (k + 1)
   rw [hs k hk, List.length_append] at h1
   unfold zkP
   simp only []
   rw [zcF (by omega), zbP rfl hk, zaA, ziU (by omega) (by omega), zcO (by omega), zbK (by omega), hs k hk, List.length_append]
   simp only [Int.natCast_add]
  ·unfold zkP
   simp only []
   rw [zcO (by omega), List.take_of_length_le (Nat.le_refl _)]
 have hI2 : iter (fun x => zkO zaB l x.1 x.2) ((0 : Int), ([] : List L8)) = some l.flatten := by
  refine zpB (fun k => ((k : Int), (l.take k).flatten)) l.length (by omega) _ (fun k hk => ?_) ?_
  ·have h1 := hp (k + 1)
   rw [hs k hk, List.length_append] at h1
   unfold zkO
   simp only []
   rw [zcF (by omega), zbP rfl hk, zaA, zgM (by omega), zaA, zbK (by omega), hs k hk]
  ·unfold zkO
   simp only []
   rw [zcO (by omega), List.take_of_length_le (Nat.le_refl _)]
 unfold zmB
 rw [show iter _ ((0 : Int), (0 : Int)) = _ from hI, zaA]
 unfold ymV
 rw [decide_eq_true (show (0 : Int) ≤ (l.flatten.length : Int) by omega), decide_eq_true (show (l.flatten.length : Int) ≤ 1048576 by omega)]
 simp only [Bool.and_self, cond_true, zaA]
 exact bind_ok hI2
theorem ykX (m : Nat) (hm : m < 1000000) : ∀ (ts : List L8), (∀ t ∈ ts, t.length ≤ m) → (zgC ts).length ≤ ts.length * (m + 16)
 | [], _ => Nat.zero_le _
 | t :: ts, h => by
  have h1 := ykX m hm ts fun t ht => h t (List.mem_cons_of_mem _ ht)
  have h2 := h t List.mem_cons_self
  have h3 := znP 15 t.length (by decide) (by omega)
  simp only [zgC, List.length_append, List.length_cons, Nat.add_mul]
  omega
abbrev decI (x : Int) : L8 := Lib.decDigits x.toNat
def yiV (b : Bool) : L8 := bif b then [49] else [48]
def zqR (n : Nd) : List L8 := ([([decI n.2.1, decI n.2.2.1, n.2.2.2.1, n.2.2.2.2.1, n.2.2.2.2.2.1] : List L8), Lib.decDigits (zdD n).length :: zdD n, ([decI n.2.2.2.2.2.2.2.1, decI (nexp n), yiV (ybK n), yiV (zxP n)] : List L8), Lib.decDigits (nact n).length :: nact n, ([decI (nlev n), nsec n, xbK n] : List L8)] : List (List L8)).flatten
def padE (i : Int) : L8 := Lib.repeatL [48] (8 - (decI i).length) ++ decI i
def rowE (p : Int × Nd) : L8 × L8 := ([110, 111, 100, 101, 47] ++ padE p.1, zgC (zqR p.2))
def yqY (nx : Int) (es : Es) : List (L8 × L8) := ([102, 111, 114, 101, 115, 116], zgC [decI nx]) :: es.map rowE
theorem yaP {x : Int} (h0 : 0 ≤ x) (h : x < 9223372036854775808) : zaB.itoa x = some (decI x) := by
 obtain ⟨k, rfl⟩ : ∃ k : Nat, x = k := ⟨x.toNat, by omega⟩
 exact zzK k (by omega)
theorem ydW {n : Nd} (h : mayB n = true) : (1 ≤ n.2.1 ∧ n.2.1 ≤ 5) ∧ (0 ≤ n.2.2.2.2.2.2.2.1 ∧ n.2.2.2.2.2.2.2.1 ≤ 1099511627776) ∧ (0 ≤ nexp n ∧ nexp n ≤ 1099511627776) ∧ (0 ≤ nlev n ∧ nlev n ≤ 3) := by
 unfold mayB inB at h
 simp only [Bool.and_eq_true, decide_eq_true_eq] at h
 exact ⟨by omega, by omega, ⟨h.1.1.1.1.1.2.1, h.1.1.1.1.1.2.2⟩, ⟨show 0 ≤ n.2.2.2.2.2.2.2.2.2.2.2.2.1 by omega, show n.2.2.2.2.2.2.2.2.2.2.2.2.1 ≤ 3 by omega⟩⟩
theorem yoV {n : Nd} (h : mayB n = true) : n.2.2.2.1.length ≤ 26 ∧ n.2.2.2.2.1.length ≤ 24 ∧ n.2.2.2.2.2.1.length ≤ 128 ∧ (∀ s ∈ zdD n, s.length ≤ 32) ∧ ∀ s ∈ nact n, s.length ≤ 26 := by
 have hl := ztU h
 unfold mayB at h
 simp only [Bool.and_eq_true] at h
 obtain ⟨⟨⟨⟨⟨⟨⟨⟨⟨⟨⟨⟨⟨h1, h2⟩, h3⟩, h4⟩, h5⟩, h6⟩, h7⟩, h8⟩, h9⟩, h10⟩, h11⟩, h12⟩, h13⟩, h14⟩ := h
 refine ⟨yjC h4, ?_, ?_, fun s hs => ?_, fun s hs => ?_⟩
 ·rcases Bool.or_eq_true _ _ ▸ h5 with h5 | h5
  ·rw [beq_iff_eq.1 h5]; exact Nat.zero_le _
  ·exact ykD h5
 ·rcases Bool.or_eq_true _ _ ▸ h6 with h6 | h6
  ·rw [beq_iff_eq.1 h6]; exact Nat.zero_le _
  ·exact yvI h6
 ·obtain ⟨k, hk, rfl⟩ := List.getElem_of_mem hs
  exact yqZ (yoK _ 0 (by omega) h1 k (Nat.zero_le _) hk)
 ·rw [ynW (by omega)] at h11
  have h11 : ((nact n).any fun s => !prB s) = false := by simpa using h11
  rw [List.any_eq_false] at h11
  have := h11 s hs
  exact yjC (by simpa using this)
theorem ygE {l : List L8} (h : l.length ≤ 1048576) : zjB zaB l = some (Lib.decDigits l.length :: l) := by
 unfold zjB
 rw [show zaB.itoa (l.length : Int) = some (Lib.decDigits l.length) from zzK _ (by omega), zaA, zgM (by simp; omega), zaA]
 rfl
theorem ynH (b : Bool) : zoW zaB b = some (yiV b) := by cases b <;> rfl
theorem dec8 {i : Int} (h0 : 0 ≤ i) (h : i < 100000000) : (decI i).length ≤ 8 := znP 8 i.toNat (by decide) (by omega)
theorem zvU {n : Nd} (h : mayB n = true) : (zqR n).length ≤ 34 := by
 have hl := ztU h
 unfold zqR
 simp only [List.flatten_cons, List.flatten_nil, List.length_append, List.length_cons, List.length_nil]
 omega
theorem zrN (x : Int) (h : x < 1000000000000000) : (decI x).length ≤ 15 := by
 by_cases h0 : 0 ≤ x
 ·exact znP 15 x.toNat (by decide) (by omega)
 ·rw [decI, show x.toNat = 0 by omega]; exact znP 15 0 (by decide) (by decide)
theorem ylY {n : Nd} (h : mayB n = true) (hp : npar n < 100000000) : ∀ t ∈ zqR n, t.length ≤ 256 := by
 have hl := ztU h
 have hn := ydW h
 have ht := yoV h
 intro t hm
 unfold zqR at hm
 simp only [List.flatten_cons, List.flatten_nil, List.append_nil, List.mem_append, List.mem_cons, List.not_mem_nil, or_false] at hm
 have d1 := zrN n.2.1 (by omega)
 have d2 := zrN n.2.2.1 (by have : n.2.2.1 < 100000000 := hp; omega)
 have d3 := zrN n.2.2.2.2.2.2.2.1 (by omega)
 have d4 := zrN (nexp n) (by omega)
 have d5 := zrN (nlev n) (by omega)
 have d6 := znP 15 (zdD n).length (by decide) (by omega)
 have d7 := znP 15 (nact n).length (by decide) (by omega)
 have d8 : ∀ b, (yiV b).length = 1 := fun b => by cases b <;> rfl
 rcases hm with (rfl | rfl | rfl | rfl | rfl) | (rfl | hm) | (rfl | rfl | rfl | rfl) | (rfl | hm) | (rfl | rfl | rfl)
 ·omega
 ·omega
 ·omega
 ·omega
 ·omega
 ·omega
 ·have := ht.2.2.2.1 t hm; omega
 ·omega
 ·omega
 ·rw [d8]; omega
 ·rw [d8]; omega
 ·omega
 ·have := ht.2.2.2.2 t hm; omega
 ·omega
 ·omega
 ·omega
theorem ycG {n : Nd} (h : mayB n = true) (hp : npar n < 100000000) : (zgC (zqR n)).length ≤ 10000 := by
 have h1 := ykX 256 (by decide) (zqR n) (ylY h hp)
 have h2 := zvU h
 have h3 : (zqR n).length * (256 + 16) ≤ 34 * 272 := Nat.mul_le_mul h2 (Nat.le_refl _)
 omega
theorem rows_ok {nx : Int} {es : Es} (h : Ok nx es) : zcT zaB nx es = some (yqY nx es, nx, es) := by
 have hnx := h.next
 have hlen := h.len
 have hd := zrN nx (by omega)
 unfold zcT
 rw [yaP (by omega) (by omega), zaA, show zaB.form [decI nx] = some (zgC [decI nx]) from ytR [decI nx] (by
  have := znP 15 (decI nx).length (by decide) (by omega)
  simp only [zgC, List.append_nil, List.length_append, List.length_cons]
  omega) (by simp), zaA, ydC h, zaA]
 have hI : iter (fun x => zfL zaB (nx, es, es.map (·.2)) x.1 x.2.1 x.2.2.1 x.2.2.2.1 x.2.2.2.2) ((0 : Int), nx, es, ([([102, 111, 114, 101, 115, 116], zgC [decI nx])] : List (L8 × L8)), es.map (·.2)) = some (nx, es, yqY nx es) := by
  refine zpB (fun k => ((k : Int), nx, es, ([102, 111, 114, 101, 115, 116], zgC [decI nx]) :: (es.take k).map rowE, es.map (·.2))) es.length (by omega) _ (fun k hk => ?_) ?_
  ·have hm := h.may _ (List.getElem_mem hk)
   have hid := h.ids _ (List.getElem_mem hk)
   have hpar := h.par _ (List.getElem_mem hk)
   have hl := ztU hm
   have hn := ydW hm
   have hp0 : 0 ≤ es[k].2.2.2.1 := hpar.1
   have hp1 : es[k].2.2.2.1 < es[k].1 := hpar.2
   have ht := ycG hm (by omega)
   have htc := zvU hm
   have he : 0 ≤ es[k].2.2.2.2.2.2.2.2.2.1 ∧ es[k].2.2.2.2.2.2.2.2.2.1 ≤ 1099511627776 := hn.2.2.1
   have hv : 0 ≤ es[k].2.2.2.2.2.2.2.2.2.2.2.2.2.1 ∧ es[k].2.2.2.2.2.2.2.2.2.2.2.2.2.1 ≤ 3 := hn.2.2.2
   have h8 := dec8 (i := es[k].1) (by omega) (by omega)
   unfold zfL
   simp only [List.length_map]
   rw [zcF (show (k : Int) < (es.length : Int) by omega), decide_eq_true (show (0 : Int) ≤ (k : Int) by omega), decide_eq_true (show (k : Int) < (es.length : Int) by omega), Bool.and_self, zoV rfl, zaA, zbP (i := k) rfl (by rw [List.length_map]; exact hk), zaA, List.getElem_map, nd_id h hk]
   rw [yaP (by omega) (by omega), zaA, yaP (by omega) (by omega), zaA, yaP hp0 (by omega), zaA, ygE (Nat.le_trans hl.1 (by decide)), zaA, yaP (by omega) (by omega), zaA, yaP he.1 (by omega), zaA, ynH, zaA, ynH, zaA, ygE (Nat.le_trans hl.2.1 (by decide)), zaA, yaP hv.1 (by omega), zaA]
   rw [ytW _ (by show (zqR es[k].2).length ≤ 1000000; omega) (by simp), zaA]
   have hw : w64 ((8 : Int) - ((decI es[k].1).length : Int)) = ((8 - (decI es[k].1).length : Nat) : Int) := by rw [ziU (by omega) (by omega)]; omega
   have hrl : (Lib.repeatL [48] (8 - (decI es[k].1).length)).length = 8 - (decI es[k].1).length := by rw [Lib.repeatL_length]; simp
   rw [hw, zcF (by omega)]
   rw [show zaB.rep [48] ((8 - (decI es[k].1).length : Nat) : Int) = some (Lib.repeatL [48] (8 - (decI es[k].1).length)) from by
    show zxF [48] _ = _
    unfold zxF
    rw [decide_eq_true (show (0 : Int) ≤ ((8 - (decI es[k].1).length : Nat) : Int) by omega), decide_eq_true (show ((8 - (decI es[k].1).length : Nat) : Int) ≤ 1048576 by omega)]
    simp only [List.length_cons, List.length_nil, Int.toNat_natCast]
    rfl, zaA]
   rw [zgM (by simp only [List.length_cons, List.length_nil]; omega), zaA, zgM (by simp only [List.length_append, List.length_cons, List.length_nil]; omega), zaA]
   refine (bind_ok (a := zgC (zqR es[k].2)) (by exact ytR (zqR es[k].2) (by omega) (by omega))).trans ?_
   rw [zgM (by simp; omega), zaA, zbK (by omega), List.take_succ_eq_append_getElem hk, List.map_append, List.cons_append]
   simp only [List.map_cons, List.map_nil, rowE, padE, List.append_assoc]
  ·unfold zfL
   simp only [List.length_map]
   rw [zcO (by omega), List.take_of_length_le (Nat.le_refl _)]
   rfl
 rw [show iter _ _ = _ from hI, zaA]
theorem Ok.take {nx : Int} {es : Es} (h : Ok nx es) (k : Nat) : Ok nx (es.take k) where
 rises := h.rises.sublist (List.take_sublist k es)
 ids p hp := h.ids p (List.mem_of_mem_take hp)
 par p hp := h.par p (List.mem_of_mem_take hp)
 may p hp := h.may p (List.mem_of_mem_take hp)
 uniq p hp q hq := h.uniq p (List.mem_of_mem_take hp) q (List.mem_of_mem_take hq)
 next := h.next
 len := Nat.le_trans (List.length_take_le' _ _) h.len
def τWkB : TE := [(3, ⟨.int .i64, 1, [.v (.i .i64) (show Int from 0)], (.i .i64), 8⟩),
 (4, ⟨.b, 1, [.v .b (show Bool from false)], .b, 1⟩),
 (9, ⟨.s, 1, [.v .s (show Bs from [])], .s, 16⟩),
 (22, ⟨.sl 24, 1, [.nils], (.sl (.pr .s .s)), 24⟩),
 (24, ⟨.st [(9, 0), (9, 1)], 2, [.v .s (show Bs from []), .v .s (show Bs from [])], (.pr .s .s), 32⟩),
 (25, ⟨.pt 75, 1, [.nilp], .un, 8⟩),
 (41, ⟨.sl 50, 1, [.nils], (.sl (.pr (.i .i64) (.pr (.i .i64) (.pr (.i .i64) (.pr (.i .i64) (.pr .s (.pr (.i .i64) (.pr (.i .i64) (.pr (.i .i64) (.pr .s (.pr .s (.pr .s (.pr (.sl .s) (.pr (.i .i64) (.pr (.i .i64) (.pr .b (.pr .b (.pr (.sl .s) (.pr (.i .i64) (.pr .s .s)))))))))))))))))))), 24⟩),
 (47, ⟨.st [(3, 0), (3, 1), (3, 2), (9, 3), (9, 4), (9, 5), (45, 6), (3, 7), (3, 8), (4, 9), (4, 10), (45, 11), (3, 12), (9, 13), (9, 14)], 15, [.v (.i .i64) (show Int from 0), .v (.i .i64) (show Int from 0), .v (.i .i64) (show Int from 0), .v .s (show Bs from []), .v .s (show Bs from []), .v .s (show Bs from []), .nils, .v (.i .i64) (show Int from 0), .v (.i .i64) (show Int from 0), .v .b (show Bool from false), .v .b (show Bool from false), .nils, .v (.i .i64) (show Int from 0), .v .s (show Bs from []), .v .s (show Bs from [])], (.pr (.i .i64) (.pr (.i .i64) (.pr (.i .i64) (.pr .s (.pr .s (.pr .s (.pr (.sl .s) (.pr (.i .i64) (.pr (.i .i64) (.pr .b (.pr .b (.pr (.sl .s) (.pr (.i .i64) (.pr .s .s)))))))))))))), 184⟩),
 (50, ⟨.st [(3, 0), (3, 1), (3, 2), (3, 3), (9, 4), (47, 5)], 20, [.v (.i .i64) (show Int from 0), .v (.i .i64) (show Int from 0), .v (.i .i64) (show Int from 0), .v (.i .i64) (show Int from 0), .v .s (show Bs from []), .v (.i .i64) (show Int from 0), .v (.i .i64) (show Int from 0), .v (.i .i64) (show Int from 0), .v .s (show Bs from []), .v .s (show Bs from []), .v .s (show Bs from []), .nils, .v (.i .i64) (show Int from 0), .v (.i .i64) (show Int from 0), .v .b (show Bool from false), .v .b (show Bool from false), .nils, .v (.i .i64) (show Int from 0), .v .s (show Bs from []), .v .s (show Bs from [])], (.pr (.i .i64) (.pr (.i .i64) (.pr (.i .i64) (.pr (.i .i64) (.pr .s (.pr (.i .i64) (.pr (.i .i64) (.pr (.i .i64) (.pr .s (.pr .s (.pr .s (.pr (.sl .s) (.pr (.i .i64) (.pr (.i .i64) (.pr .b (.pr .b (.pr (.sl .s) (.pr (.i .i64) (.pr .s .s))))))))))))))))))), 232⟩),
 (73, ⟨.map 3 81, 1, [.nilm], (.mp (.i .i64) (.pr (.i .i64) (.pr (.i .i64) (.pr (.i .i64) (.pr .s (.pr .s (.pr .s (.pr (.sl .s) (.pr (.i .i64) (.pr (.i .i64) (.pr .b (.pr .b (.pr (.sl .s) (.pr (.i .i64) (.pr .s .s))))))))))))))), 8⟩),
 (75, ⟨.st [(73, 0), (3, 1)], 2, [.nilm, .v (.i .i64) (show Int from 0)], (.pr (.mp (.i .i64) (.pr (.i .i64) (.pr (.i .i64) (.pr (.i .i64) (.pr .s (.pr .s (.pr .s (.pr (.sl .s) (.pr (.i .i64) (.pr (.i .i64) (.pr .b (.pr .b (.pr (.sl .s) (.pr (.i .i64) (.pr .s .s))))))))))))))) (.i .i64)), 16⟩),
 (81, ⟨.st [(47, 0)], 15, [.v (.i .i64) (show Int from 0), .v (.i .i64) (show Int from 0), .v (.i .i64) (show Int from 0), .v .s (show Bs from []), .v .s (show Bs from []), .v .s (show Bs from []), .nils, .v (.i .i64) (show Int from 0), .v (.i .i64) (show Int from 0), .v .b (show Bool from false), .v .b (show Bool from false), .nils, .v (.i .i64) (show Int from 0), .v .s (show Bs from []), .v .s (show Bs from [])], (.pr (.i .i64) (.pr (.i .i64) (.pr (.i .i64) (.pr .s (.pr .s (.pr .s (.pr (.sl .s) (.pr (.i .i64) (.pr (.i .i64) (.pr .b (.pr .b (.pr (.sl .s) (.pr (.i .i64) (.pr .s .s)))))))))))))), 184⟩)]
theorem τ_okWkB : TEok Tryz.prog τWkB := ygU (by kernel_rfl) (by kernel_rfl)
theorem yxP : Tryz.prog.follows .mixedOrders = true := by kernel_rfl
theorem fscWkB {G : List (Nat × Obj)} {o : Ops} [zmE G] [zkJ G o] {Γ : CT} {η : HT} {f : FuncId} {fn : Func} {c : SC} (hΓ : ∀ B, GB G B → CTok Tryz.prog Γ B) (hf : Tryz.prog.funcs[f]? = some fn) (i : (fn.name == "runtime.NumGoroutine") = false := by kernel_rfl) (j : fn.body.isNone = false := by kernel_rfl) (l : Nat.ble c.I.sl.length fn.ntmps = true := by kernel_rfl) (r : Nat.beq fn.results.toList.length c.nr = true := by kernel_rfl) (e : fnS τWkB Γ η fn c.I c.outs = c.p := by kernel_rfl) : SCok Tryz.prog G f c := witO (G := G) (o := o) <| ymU yxP τ_okWkB hΓ hf (isFn hf i j) l r e
theorem xdQ {G : List (Nat × Obj)} {o : Ops} [zmE G] [zkJ G o] {Γ : CT} {η : HT} {f : FuncId} {fn : Func} {c : PC} (hΓ : ∀ B, GB G B → CTok Tryz.prog Γ B) (hf : Tryz.prog.funcs[f]? = some fn) (i : (fn.name == "runtime.NumGoroutine") = false := by kernel_rfl) (j : fn.body.isNone = false := by kernel_rfl) (l : Nat.ble c.ash.length fn.ntmps = true := by kernel_rfl) (r : c.cl = false := by kernel_rfl) (e : fnP τWkB Γ η fn c.ash c.rts = c.p := by kernel_rfl) : PCok Tryz.prog G f c := witO (G := G) (o := o) <| ymK yxP τ_okWkB hΓ hf (isFn hf i j) l r e
section
variable {tabs : List (Nat × Obj)} [zmE tabs] {o : Ops} [zkJ tabs o]
def zcZ (o : Ops) (v0 : List (Bs × Bs)) (v1 : List (Bs × Bs)) (v2 : Int) : Option (Int ⊕ (Bool ⊕ Unit)) :=
 bif decide (v2 < (v0.length : Int)) then ((idx v0 v2).bind fun v3 => (idx v1 v2).bind fun v4 => bif (!((v3.1 == v4.1) && (v3.2 == v4.2))) then some (.inr (.inl false)) else some (.inl (w64 (v2 + 1)))) else some (.inr (.inr ()))
def zdL (o : Ops) (v0 : List (Bs × Bs)) (v1 : List (Bs × Bs)) : Option (Bool) :=
 bif ((v0.length : Int) != (v1.length : Int)) then (some false) else ((iter (zcZ o v0 v1) (0 : Int)).bind fun v5 => match v5 with
 | .inl v6 => (some v6)
 | .inr v7 => (some true))
def zkC (o : Ops) : PC := ⟨[(.h (.sl (.pr .s .s))), (.h (.sl (.pr .s .s)))], [.b], fun x => zdL o x.1 x.2, false⟩
theorem zqA : PCok Tryz.prog tabs 12 (zkC o) := xdQ (o := o) (η := [(200004, .loop [] ⟨[(5, hI)], []⟩ [0, 1] [(some 1000000, ⟨[(4, hB)], []⟩), (some 0, ⟨[], []⟩)]),
 (4000006, .sch [(.pu, 0, []), (.pu, 1, []), (.pu, 2, []), (.pu, 3, []), (.pu, 4, []), (.pu, 5, []), (.pu, 6, []), (.pu, 7, []), (.pu, 8, [])])]) (Γ := ⟨[], [], false, []⟩) (ctok trivial trivial) Tryz.func12
end
def τWkL : TE := [(3, ⟨.int .i64, 1, [.v (.i .i64) (show Int from 0)], (.i .i64), 8⟩),
 (4, ⟨.b, 1, [.v .b (show Bool from false)], .b, 1⟩),
 (5, ⟨.int .u8, 1, [.v (.i .u8) (show UInt8 from 0)], (.i .u8), 1⟩),
 (9, ⟨.s, 1, [.v .s (show Bs from [])], .s, 16⟩),
 (22, ⟨.sl 24, 1, [.nils], (.sl (.pr .s .s)), 24⟩),
 (24, ⟨.st [(9, 0), (9, 1)], 2, [.v .s (show Bs from []), .v .s (show Bs from [])], (.pr .s .s), 32⟩),
 (25, ⟨.pt 75, 1, [.nilp], .un, 8⟩),
 (29, ⟨.pt 38, 1, [.nilp], .un, 8⟩),
 (35, ⟨.sl 47, 1, [.nils], (.sl (.pr (.i .i64) (.pr (.i .i64) (.pr (.i .i64) (.pr .s (.pr .s (.pr .s (.pr (.sl .s) (.pr (.i .i64) (.pr (.i .i64) (.pr .b (.pr .b (.pr (.sl .s) (.pr (.i .i64) (.pr .s .s))))))))))))))), 24⟩),
 (38, ⟨.st [(35, 0), (3, 1)], 2, [.nils, .v (.i .i64) (show Int from 0)], (.pr (.sl (.pr (.i .i64) (.pr (.i .i64) (.pr (.i .i64) (.pr .s (.pr .s (.pr .s (.pr (.sl .s) (.pr (.i .i64) (.pr (.i .i64) (.pr .b (.pr .b (.pr (.sl .s) (.pr (.i .i64) (.pr .s .s))))))))))))))) (.i .i64)), 32⟩),
 (45, ⟨.sl 9, 1, [.nils], (.sl .s), 24⟩),
 (47, ⟨.st [(3, 0), (3, 1), (3, 2), (9, 3), (9, 4), (9, 5), (45, 6), (3, 7), (3, 8), (4, 9), (4, 10), (45, 11), (3, 12), (9, 13), (9, 14)], 15, [.v (.i .i64) (show Int from 0), .v (.i .i64) (show Int from 0), .v (.i .i64) (show Int from 0), .v .s (show Bs from []), .v .s (show Bs from []), .v .s (show Bs from []), .nils, .v (.i .i64) (show Int from 0), .v (.i .i64) (show Int from 0), .v .b (show Bool from false), .v .b (show Bool from false), .nils, .v (.i .i64) (show Int from 0), .v .s (show Bs from []), .v .s (show Bs from [])], (.pr (.i .i64) (.pr (.i .i64) (.pr (.i .i64) (.pr .s (.pr .s (.pr .s (.pr (.sl .s) (.pr (.i .i64) (.pr (.i .i64) (.pr .b (.pr .b (.pr (.sl .s) (.pr (.i .i64) (.pr .s .s)))))))))))))), 184⟩),
 (84, ⟨.st [(45, 0), (4, 1)], 2, [.nils, .v .b (show Bool from false)], (.pr (.sl .s) .b), 32⟩)]
theorem τ_okWkL : TEok Tryz.prog τWkL := ygU (by kernel_rfl) (by kernel_rfl)
theorem yxV : Tryz.prog.follows .mixedOrders = true := by kernel_rfl
theorem fscWkL {G : List (Nat × Obj)} {o : Ops} [zmE G] [zkJ G o] {Γ : CT} {η : HT} {f : FuncId} {fn : Func} {c : SC} (hΓ : ∀ B, GB G B → CTok Tryz.prog Γ B) (hf : Tryz.prog.funcs[f]? = some fn) (i : (fn.name == "runtime.NumGoroutine") = false := by kernel_rfl) (j : fn.body.isNone = false := by kernel_rfl) (l : Nat.ble c.I.sl.length fn.ntmps = true := by kernel_rfl) (r : Nat.beq fn.results.toList.length c.nr = true := by kernel_rfl) (e : fnS τWkL Γ η fn c.I c.outs = c.p := by kernel_rfl) : SCok Tryz.prog G f c := witO (G := G) (o := o) <| ymU yxV τ_okWkL hΓ hf (isFn hf i j) l r e
theorem xdV {G : List (Nat × Obj)} {o : Ops} [zmE G] [zkJ G o] {Γ : CT} {η : HT} {f : FuncId} {fn : Func} {c : PC} (hΓ : ∀ B, GB G B → CTok Tryz.prog Γ B) (hf : Tryz.prog.funcs[f]? = some fn) (i : (fn.name == "runtime.NumGoroutine") = false := by kernel_rfl) (j : fn.body.isNone = false := by kernel_rfl) (l : Nat.ble c.ash.length fn.ntmps = true := by kernel_rfl) (r : c.cl = false := by kernel_rfl) (e : fnP τWkL Γ η fn c.ash c.rts = c.p := by kernel_rfl) : PCok Tryz.prog G f c := witO (G := G) (o := o) <| ymK yxV τ_okWkL hΓ hf (isFn hf i j) l r e
abbrev yuG : Type := Int × Int × Int × Bs × Bs × Bs × (List Bs) × Int × Int × Bool × Bool × (List Bs) × Int × Bs × Bs
abbrev xeW : Ty := .pr (.i .i64) (.pr (.i .i64) (.pr (.i .i64) (.pr .s (.pr .s (.pr .s (.pr (.sl .s) (.pr (.i .i64) (.pr (.i .i64) (.pr .b (.pr .b (.pr (.sl .s) (.pr (.i .i64) (.pr .s .s)))))))))))))
section
variable {tabs : List (Nat × Obj)} [zmE tabs] {o : Ops} [zkJ tabs o]
def zeP (o : Ops) (v0 : List yuG) (v1 : List yuG) (v2 : Int) : Option (Int ⊕ (Bool ⊕ Unit)) :=
 bif decide (v2 < (v0.length : Int)) then ((idx v0 v2).bind fun v3 => (idx v1 v2).bind fun v4 => (zcD o v3 v4).bind fun v5 => bif (!v5) then some (.inr (.inl false)) else some (.inl (w64 (v2 + 1)))) else some (.inr (.inr ()))
def zcY (o : Ops) (v0 : List yuG) (v1 : List yuG) : Option (Bool) :=
 bif ((v0.length : Int) != (v1.length : Int)) then (some false) else ((iter (zeP o v0 v1) (0 : Int)).bind fun v6 => match v6 with
 | .inl v7 => (some v7)
 | .inr v8 => (some true))
def zjN (o : Ops) : PC := ⟨[(.h (.sl xeW)), (.h (.sl xeW))], [.b], fun x => zcY o x.1 x.2, false⟩
theorem zpX : PCok Tryz.prog tabs 14 (zjN o) := xdV (o := o) (η := [(200004, .loop [] ⟨[(5, hI)], []⟩ [0, 1] [(some 1000000, ⟨[(4, hB)], []⟩), (some 0, ⟨[], []⟩)]),
 (4000006, .sch [(.pu, 0, []), (.pu, 1, []), (.pu, 2, []), (.pu, 3, []), (.pu, 4, []), (.pu, 5, []), (.pu, 6, []), (.pu, 7, []), (.mn, 8, []), (.pu, 9, [])])]) (Γ := ⟨[(41, (ziC o))], [], false, []⟩) (ctok ⟨zmR, trivial⟩ trivial) Tryz.func14
end
def numR (s : L8) : Int × Bool := bif numB s then ((valF s : Int), true) else (0, false)
theorem yeR {α : Type} {l : List α} {p : α → Bool} {k : Nat} (hk : k < l.length) : (l.take (k + 1)).all p = ((l.take k).all p && p l[k]) := by
 rw [List.take_succ_eq_append_getElem hk, List.all_append, List.all_cons, List.all_nil, Bool.and_true]
theorem ypC {α : Type} {l : List α} {p : α → Bool} {k : Nat} (hk : k < l.length) (h : p l[k] = false) : l.all p = false := by
 cases ha : l.all p with
 | false => rfl
 | true => rw [List.all_eq_true.1 ha _ (List.getElem_mem hk)] at h; cases h
theorem is58 (b : UInt8) : ((b.toNat : Int) != ((58 : UInt8).toNat : Int)) = (b != 58) := by
 have := zyR (fun b => ((b.toNat : Int) != ((58 : UInt8).toNat : Int)) == (b != 58)) (by kernel_rfl) b
 simpa using this
theorem yhC {α R : Type} {l : List α} {p : α → Bool} {body : Int → Option (Int ⊕ R)} {bad good : R} (hl : l.length < 1099511627776)
  (hb : ∀ (k : Nat) (hk : k < l.length), body (k : Int) = some (bif p l[k] then .inl ((k + 1 : Nat) : Int) else .inr bad)) (he : body (l.length : Int) = some (.inr good)) : iter body (0 : Int) = some (bif l.all p then good else bad) := by
 have hT : T (iter body (0 : Int)) fun r => r = (bif l.all p then good else bad) := by
  refine T.iter (fun x => 0 ≤ x ∧ x ≤ (l.length : Int) ∧ (l.take x.toNat).all p = true) (fun x => l.length - x.toNat) _ (fun x hx => ?_) ⟨Int.le_refl _, by omega, rfl⟩ (by omega)
  obtain ⟨h1, h2, h3⟩ := hx
  obtain ⟨k, rfl⟩ : ∃ k : Nat, x = k := ⟨x.toNat, by omega⟩
  rw [Int.toNat_natCast] at h3
  by_cases hk : k < l.length
  ·rw [hb k hk]
   cases hp : p l[k] with
   | true => exact T.ok ⟨⟨by omega, by omega, by rw [Int.toNat_natCast, yeR hk, h3, hp]; rfl⟩, by omega⟩
   | false => exact T.ok (by rw [ypC hk hp]; rfl)
  ·obtain rfl : k = l.length := by omega
   rw [he]
   rw [List.take_of_length_le (Nat.le_refl _)] at h3
   exact T.ok (by rw [h3]; rfl)
 obtain ⟨r, h1, rfl⟩ := hT
 exact h1
theorem ygG {α : Type} {l : List α} {p q : α → Bool} (h : ∀ x ∈ l, p x = q x) : l.all p = l.all q := by
 induction l with
 | nil => rfl
 | cons x l ih => rw [List.all_cons, List.all_cons, h x List.mem_cons_self, ih fun y hy => h y (List.mem_cons_of_mem _ hy)]
theorem of_is {s cs : L8} {n : Int} (hn : n ≤ 1048576) (h2 : cs.length < 4294967281) (h3 : cs.all (fun b => decide (b.toNat < 128)) = true) : zeO zaB s n cs = some (s != [] && decide ((s.length : Int) ≤ n) && s.all (cs.contains ·)) := by
 unfold zeO
 cases h0 : s != ([] : L8) with
 | false => rfl
 | true =>
  simp only [cond_true, Bool.true_and]
  by_cases hl : (s.length : Int) ≤ n
  ·rw [zcF hl, decide_eq_true hl]
   have ht : zaB.trim s cs = some (Lib.trimS s cs) := by
    show yfC s cs = _
    unfold yfC
    rw [decide_eq_true (show s.length ≤ 9223372036854775807 by omega), decide_eq_true h2, h3]
    rfl
   rw [ht, zaA, Bool.true_and]
   congr 1
   rw [Bool.eq_iff_iff, beq_iff_eq, ytQ, List.all_eq_true]
  ·rw [zcO hl, decide_eq_false hl]
   rfl
abbrev yjU : L8 := [97, 98, 99, 100, 101, 102, 103, 104, 105, 106, 107, 108, 109, 110, 111, 112, 113, 114, 115, 116, 117, 118, 119, 120, 121, 122, 48, 49, 50, 51, 52, 53, 54, 55, 56, 57, 46, 95, 45]
def letB (b : UInt8) : Bool := (zaZ zaB b).getD false
theorem yfT (b : UInt8) : zaZ zaB b = some (letB b) := by
 have := zyR (fun b => (zaZ zaB b).isSome) (by kernel_rfl) b
 unfold letB
 cases h : zaZ zaB b with
 | none => rw [h] at this; cases this
 | some v => rfl
theorem xfH (b : UInt8) : yjU.contains b = letB b := by
 have := zyR (fun b => yjU.contains b == letB b) (by kernel_rfl) b
 simpa using this
abbrev yfU : L8 := [97, 98, 99, 100, 101, 102, 103, 104, 105, 106, 107, 108, 109, 110, 111, 112, 113, 114, 115, 116, 117, 118, 119, 120, 121, 122, 48, 49, 50, 51, 52, 53, 54, 55, 56, 57, 46, 95, 45, 58]
theorem yzR (b : UInt8) : yfU.contains b = (letB b || b == 58) := by
 have := zyR (fun b => yfU.contains b == (letB b || b == 58)) (by kernel_rfl) b
 simpa using this
theorem xfR (s : L8) : nmB s = (s != [] && decide (s.length ≤ 24) && s.all letB) := by
 have h := ysD s
 unfold zdM at h
 rw [of_is (by decide) (by decide) (by decide), zaA] at h
 rw [← osi h, ygG fun b _ => xfH b]
 congr 2
 rw [decide_eq_decide]
 omega
theorem ynG (s : L8) : decide ((s.length : Int) ≥ 1) = (s != []) := by
 cases s with
 | nil => rfl
 | cons b l => rw [decide_eq_true (by simp only [List.length_cons]; omega)]; rfl
theorem yjL {s : L8} (hs : s.length ≤ 1048576) : zcE zaB s = some (nmB s) := by
 unfold zcE
 rw [yhC (l := s) (p := letB) (bad := Sum.inl false) (good := Sum.inr ()) (by omega) (fun k hk => ?_) ?_, zaA, xfR]
 ·cases ha : s.all letB with
  | false => simp
  | true =>
   simp only [cond_true, Bool.and_true]
   rw [← ynG]
   by_cases h : (s.length : Int) ≥ 1
   ·rw [zcF h, decide_eq_true h, Bool.true_and]
    congr 1
    rw [decide_eq_decide]
    omega
   ·rw [zcO h, decide_eq_false h]; rfl
 ·unfold ziO
  rw [zcO (by omega)]
 ·unfold ziO
  rw [zcF (show (k : Int) < (s.length : Int) by omega), zbP rfl hk, zaA, yfT, zaA]
  cases letB s[k] with
  | false => rfl
  | true => simp only [Bool.not_true, cond_false, cond_true]; rw [zbK (by omega)]
theorem sc_is (s : L8) : scB s = (s != [] && decide (s.length ≤ 32) && s.all fun b => letB b || b == 58) := by
 have h := ypX s
 unfold zeM at h
 rw [of_is (by decide) (by decide) (by decide), zaA] at h
 rw [← osi h, ygG (q := fun b => letB b || b == 58) fun b _ => yzR b]
 congr 2
 rw [decide_eq_decide]
 omega
theorem ysQ {s : L8} (hs : s.length ≤ 1048576) : zdC zaB s = some (scB s) := by
 unfold zdC
 rw [yhC (l := s) (p := fun b => letB b || b == 58) (bad := Sum.inl false) (good := Sum.inr ()) (by omega) (fun k hk => ?_) ?_, zaA, sc_is]
 ·cases ha : s.all fun b => letB b || b == 58 with
  | false => simp
  | true =>
   simp only [cond_true, Bool.and_true]
   rw [← ynG]
   by_cases h : (s.length : Int) ≥ 1
   ·rw [zcF h, decide_eq_true h, Bool.true_and]
    congr 1
    rw [decide_eq_decide]
    omega
   ·rw [zcO h, decide_eq_false h]; rfl
 ·unfold zhL
  rw [zcO (by omega)]
 ·unfold zhL
  rw [zcF (show (k : Int) < (s.length : Int) by omega), zbP rfl hk, zaA, yfT, zaA]
  cases letB s[k] with
  | true => simp only [Bool.not_true, cond_false, cond_true, Bool.true_or]; rw [zbK (by omega)]
  | false =>
   simp only [Bool.not_false, cond_true, zaA, Bool.false_or]
   rw [is58]
   cases h58 : s[k] == 58 with
   | true => rw [show (s[k] != 58) = false by rw [bne, h58]; rfl]; simp only [cond_false, cond_true]; rw [zbK (by omega)]
   | false => rw [show (s[k] != 58) = true by rw [bne, h58]; rfl]; rfl
def okB (b : UInt8) : Bool := decide (33 ≤ b.toNat) && decide (b.toNat ≤ 126)
theorem ynM {l : L8} {k : Nat} (hk : k < l.length) (h : l[k].toNat < 128) : nxR l k = (l[k].toNat : Int) ∧ nxP l k = k + 1 := by
 have hg : ((⟨l.toArray⟩ : ByteArray).get! k) = l[k] := by
  simp [ByteArray.get!, hk]
 unfold nxR nxP dec Utf8.decode
 simp only [Nat.add_zero, hg]
 rw [if_pos h, zcF hk]
 exact ⟨rfl, rfl⟩
theorem yuZ {l : L8} {k : Nat} (hk : k < l.length) (h : 128 ≤ l[k].toNat) : nxR l k > 126 := by
 have hg : ((⟨l.toArray⟩ : ByteArray).get! k) = l[k] := by
  simp [ByteArray.get!, hk]
 have e : Utf8.runeError > 126 := by decide
 unfold nxR dec Utf8.decode
 simp only [Nat.add_zero, hg]
 rw [if_neg (by omega)]
 repeat' split
 all_goals first | (simp only []; omega) | (simp only []; rename_i h1; simp only [Bool.and_eq_true, decide_eq_true_eq] at h1; omega)
theorem okB_t {b : UInt8} (h : okB b = true) : 33 ≤ b.toNat ∧ b.toNat ≤ 126 := by
 unfold okB at h
 simp only [Bool.and_eq_true, decide_eq_true_eq] at h
 exact h
theorem yvK {s : L8} (hs : s.length ≤ 1048576) : zdF zaB s = some (!s.all okB) := by
 have hT : T (iter (fun x : L8 × Int => zgD zaB true x.1 x.2) (s, (0 : Int))) fun r => match r with
   | .inl i => 0 ≤ i ∧ s.all okB = false
   | .inr _ => s.all okB = true := by
  refine T.iter (fun x => x.1 = s ∧ 0 ≤ x.2 ∧ x.2 ≤ (s.length : Int) ∧ (s.take x.2.toNat).all okB = true) (fun x => s.length - x.2.toNat) _ (fun x hx => ?_) ⟨rfl, Int.le_refl _, by simp, rfl⟩ (by simp; omega)
  obtain ⟨v, i⟩ := x
  obtain ⟨e, h1, h2, h3⟩ := hx
  simp only at e h1 h2 h3
  subst e
  obtain ⟨k, rfl⟩ : ∃ k : Nat, i = k := ⟨i.toNat, by omega⟩
  rw [Int.toNat_natCast] at h3
  unfold zgD
  simp only [Int.toNat_natCast]
  refine T.dif (fun hk => ?_) fun hk => T.ok ?_
  ·have hp : zjJ zaB (nxR v k) = some (!okB v[k]) := by
    unfold zjJ
    rcases Nat.lt_or_ge v[k].toNat 128 with hlo | hhi
    ·rw [(ynM hk hlo).1]
     unfold okB
     by_cases h33 : (v[k].toNat : Int) < 33
     ·rw [zcF h33, decide_eq_false (show ¬ 33 ≤ v[k].toNat by omega)]; rfl
     ·rw [zcO h33, decide_eq_true (show 33 ≤ v[k].toNat by omega), Bool.true_and]
      congr 1
      by_cases h126 : (v[k].toNat : Int) > 126
      ·rw [decide_eq_true h126, decide_eq_false (show ¬ v[k].toNat ≤ 126 by omega)]; rfl
      ·rw [decide_eq_false h126, decide_eq_true (show v[k].toNat ≤ 126 by omega)]; rfl
    ·have := yuZ hk hhi
     rw [zcO (by omega), decide_eq_true this]
     unfold okB
     rw [decide_eq_false (show ¬ v[k].toNat ≤ 126 by omega), Bool.and_false]
     rfl
   rw [hp, zaA]
   cases hb : okB v[k] with
   | false =>
    refine T.bif (fun _ => T.ok ⟨by omega, ypC hk hb⟩) fun h => ?_
    cases h
   | true =>
    refine T.bif (fun h => ?_) fun _ => T.ok ?_
    ·cases h
    ·have hlt := okB_t hb
     rw [(ynM hk (by omega)).2]
     refine ⟨⟨rfl, by simp only []; omega, by simp only []; omega, ?_⟩, by simp only []; omega⟩
     simp only [Int.toNat_natCast]
     rw [yeR hk, h3, hb]
     rfl
  ·rw [List.take_of_length_le (by omega)] at h3
   exact h3
 obtain ⟨r, h1, h2⟩ := hT
 unfold zdF zhP zhH
 rw [h1]
 cases r with
 | inl i =>
  simp only [zaA]
  rw [decide_eq_true (show i ≥ 0 from h2.1), h2.2]
  rfl
 | inr u =>
  simp only [zaA]
  rw [show s.all okB = true from h2]
  rfl
theorem tx_is (s : L8) (hs : s.length ≤ 1048576) : txB s = (s != [] && decide (s.length ≤ 128) && s.all okB) := by
 have h := xaK s
 unfold zeK at h
 rw [yvK hs] at h
 cases h0 : s != ([] : L8) with
 | false => rw [h0] at h; rw [← osi h]; rfl
 | true =>
  rw [h0] at h
  simp only [cond_true, zaA, Bool.not_not] at h
  by_cases hl : (s.length : Int) ≤ 128
  ·rw [zcF hl] at h
   rw [← osi h, decide_eq_true (show s.length ≤ 128 by omega)]; rfl
  ·rw [zcO hl] at h
   rw [← osi h, decide_eq_false (show ¬ s.length ≤ 128 by omega)]; rfl
theorem ok_j (b : UInt8) {α : Type} (x y : Option α) : (bif decide ((b.toNat : Int) < ((33 : UInt8).toNat : Int)) then x else (bif decide ((b.toNat : Int) > ((126 : UInt8).toNat : Int)) then x else y)) = bif okB b then y else x := by
 have e1 : ((33 : UInt8).toNat : Int) = 33 := rfl
 have e2 : ((126 : UInt8).toNat : Int) = 126 := rfl
 rw [e1, e2]
 unfold okB
 by_cases h1 : (b.toNat : Int) < 33
 ·rw [zcF h1, decide_eq_false (show ¬ 33 ≤ b.toNat by omega)]; rfl
 ·rw [zcO h1, decide_eq_true (show 33 ≤ b.toNat by omega)]
  by_cases h2 : (b.toNat : Int) > 126
  ·rw [zcF h2, decide_eq_false (show ¬ b.toNat ≤ 126 by omega)]; rfl
  ·rw [zcO h2, decide_eq_true (show b.toNat ≤ 126 by omega)]; rfl
theorem ytX {s : L8} (hs : s.length ≤ 1048576) : zcG zaB s = some (txB s) := by
 unfold zcG
 rw [yhC (l := s) (p := okB) (bad := Sum.inl false) (good := Sum.inr ()) (by omega) (fun k hk => ?_) ?_, zaA, tx_is s hs]
 ·cases ha : s.all okB with
  | false => simp
  | true =>
   simp only [cond_true, Bool.and_true]
   rw [← ynG]
   by_cases h : (s.length : Int) ≥ 1
   ·rw [zcF h, decide_eq_true h, Bool.true_and]
    congr 1
    rw [decide_eq_decide]
    omega
   ·rw [zcO h, decide_eq_false h]; rfl
 ·unfold ziP
  rw [zcO (by omega)]
 ·unfold ziP
  rw [zcF (show (k : Int) < (s.length : Int) by omega), zbP rfl hk, zaA, zaA, ok_j]
  cases okB s[k] with
  | false => rfl
  | true => simp only [cond_true]; rw [zbK (by omega)]
theorem yjW {s : L8} (hs : s.length ≤ 1048576) : zbM zaB s = some (prB s) := by
 rw [← yvW]
 unfold zbM zbI
 by_cases hl : (s.length : Int) > 2
 ·rw [zcF hl, zcF hl, show subH s 2 = some (s.take 2) from yiY (n := 2) (by omega), zaA, zaA, show subL s 2 = some (s.drop 2) from yhO (n := 2) (by omega)]
  simp only [zaA]
  rw [yjL (by rw [List.length_drop]; omega), ysD]
 ·rw [zcO hl, zcO hl]
theorem yfJ {l : List L8} (h : l.length ≤ 1048576) (hs : ∀ s ∈ l, s.length ≤ 1048576) : ∀ (f i k : Nat), f + i = l.length → f < k →
  zqS (zcN zaB l 1) k (i : Int) = some (bif scpF l f i then .inr () else .inl false)
 | 0, i, k + 1, hf, _ => by
  rw [zfM (b := Sum.inr ())]
  ·rfl
  ·unfold zcN
   rw [zcO (show ¬ (i : Int) < (l.length : Int) by omega)]
 | f + 1, i, k + 1, hf, hk => by
  have hi : i < l.length := by omega
  have hb : zcN zaB l 1 (i : Int) = some (bif scB l[i] && (decide (i = 0) || !(match l[i - 1]? with | none => true | some q => Op.bytesLess l[i] q || l[i] == q)) then .inl ((i + 1 : Nat) : Int) else .inr (.inl false)) := by
   unfold zcN
   rw [zcF (show (i : Int) < (l.length : Int) by omega), show ((1 : Int) == 0) = false from rfl, show ((1 : Int) == 1) = true from rfl]
   simp only [cond_false, cond_true]
   rw [zbP rfl hi, zaA, ysQ (hs _ (List.getElem_mem hi)), zaA]
   cases scB l[i] with
   | false => rfl
   | true =>
    simp only [Bool.not_true, cond_false, Bool.true_and]
    by_cases h0 : i = 0
    ·subst h0
     rw [zcO (show ¬ ((0 : Nat) : Int) > 0 by omega), zbK (by omega)]
     rfl
    ·have hp : i - 1 < l.length := by omega
     rw [zcF (show (i : Int) > 0 by omega), zaA, ziU (by omega) (by omega), zbP (i := i - 1) (by omega) hp, zaA, List.getElem?_eq_getElem hp, decide_eq_false h0, Bool.false_or, zbK (by omega)]
     simp only []
     cases Op.bytesLess l[i] l[i - 1] || l[i] == l[i - 1] <;> rfl
  unfold scpF
  rw [List.getElem?_eq_getElem hi]
  simp only []
  cases hc : scB l[i] && (decide (i = 0) || !(match l[i - 1]? with | none => true | some q => Op.bytesLess l[i] q || l[i] == q)) with
  | false =>
   rw [hc] at hb
   rw [Bool.false_and]
   exact zfM hb
  | true =>
   rw [hc] at hb
   rw [Bool.true_and]
   refine (zeE hb).trans ?_
   exact yfJ h hs f (i + 1) k (by omega) (by omega)
theorem ynY {l : List L8} (h : l.length ≤ 1048576) (hs : ∀ s ∈ l, s.length ≤ 1048576) : zeW zaB l 16 1 = some (scpF l l.length 0 && decide ((l.length : Int) ≤ 16)) := by
 unfold zeW
 have := yfJ h hs l.length 0 FU (by omega) (by unfold FU; omega)
 rw [show iter _ (0 : Int) = _ from this, zaA]
 cases scpF l l.length 0 <;> rfl
theorem in_j {α : Type} (x a b : Int) (u v : α) : (bif decide (x < a) then u else (bif decide (x > b) then u else v)) = bif inB x a b then v else u := by
 unfold inB
 by_cases h1 : x < a
 ·rw [zcF h1, decide_eq_false (show ¬ a ≤ x by omega)]; rfl
 ·rw [zcO h1, decide_eq_true (show a ≤ x by omega), Bool.true_and]
  by_cases h2 : x > b
  ·rw [zcF h2, decide_eq_false (show ¬ x ≤ b by omega)]; rfl
  ·rw [zcO h2, decide_eq_true (show x ≤ b by omega)]; rfl
theorem in_k {α : Type} (x a b : Int) (u v : α) : (bif decide (x ≥ a) then (bif decide (x ≤ b) then v else u) else u) = bif inB x a b then v else u := by
 unfold inB
 by_cases h1 : x ≥ a
 ·rw [zcF h1, decide_eq_true (show a ≤ x from h1), Bool.true_and]
 ·rw [zcO h1, decide_eq_false (show ¬ a ≤ x from h1)]; rfl
theorem xdC {α R S : Type} {l : List α} {p : α → Bool} {s : S} {body : Int × S → Option ((Int × S) ⊕ R)} {bad good : R} (hl : l.length < 1099511627776)
  (hb : ∀ (k : Nat) (hk : k < l.length), body ((k : Int), s) = some (bif p l[k] then .inl (((k + 1 : Nat) : Int), s) else .inr bad)) (he : body ((l.length : Int), s) = some (.inr good)) : iter body ((0 : Int), s) = some (bif l.all p then good else bad) := by
 have hT : T (iter body ((0 : Int), s)) fun r => r = (bif l.all p then good else bad) := by
  refine T.iter (fun x => 0 ≤ x.1 ∧ x.1 ≤ (l.length : Int) ∧ (l.take x.1.toNat).all p = true ∧ x.2 = s) (fun x => l.length - x.1.toNat) _ (fun x hx => ?_) ⟨Int.le_refl _, by simp, rfl, rfl⟩ (by simp; omega)
  obtain ⟨i, s'⟩ := x
  obtain ⟨h1, h2, h3, h4⟩ := hx
  simp only at h1 h2 h3 h4
  subst h4
  obtain ⟨k, rfl⟩ : ∃ k : Nat, i = k := ⟨i.toNat, by omega⟩
  rw [Int.toNat_natCast] at h3
  by_cases hk : k < l.length
  ·rw [hb k hk]
   cases hp : p l[k] with
   | true => exact T.ok ⟨⟨by simp only []; omega, by simp only []; omega, by simp only [Int.toNat_natCast]; rw [yeR hk, h3, hp]; rfl, rfl⟩, by simp only []; omega⟩
   | false => exact T.ok (by rw [ypC hk hp]; rfl)
  ·obtain rfl : k = l.length := by omega
   rw [he]
   rw [List.take_of_length_le (Nat.le_refl _)] at h3
   exact T.ok (by rw [h3]; rfl)
 obtain ⟨r, h1, rfl⟩ := hT
 exact h1
theorem xdM {n : Nd} (h : NdOk n) : zjW zaB n = some (bif inB n.2.1 1 5 && decide (n.2.2.1 ≥ 0) && prB n.2.2.2.1 && (n.2.2.2.2.1 == ([] : L8) || nmB n.2.2.2.2.1) && (n.2.2.2.2.2.1 == ([] : L8) || txB n.2.2.2.2.2.1) then .inr n else .inl false) := by
 unfold zjW
 rw [in_j, yjW h.1, yjL h.2.1, ytX h.2.2.1]
 simp only [zaA]
 cases inB n.2.1 1 5 with
 | false => rfl
 | true =>
  by_cases hp : n.2.2.1 < 0
  ·rw [zcF hp, decide_eq_false (show ¬ n.2.2.1 ≥ 0 by omega)]; rfl
  ·rw [zcO hp, decide_eq_true (show n.2.2.1 ≥ 0 by omega)]
   unfold bne
   cases prB n.2.2.2.1 <;> cases (n.2.2.2.2.1 == ([] : L8)) <;> cases (n.2.2.2.2.2.1 == ([] : L8)) <;> cases nmB n.2.2.2.2.1 <;> cases txB n.2.2.2.2.2.1 <;> rfl
theorem xfE (n : Nd) : zjO zaB n = some (inB n.2.2.2.2.2.2.2.1 0 1099511627776 && inB n.2.2.2.2.2.2.2.2.1 0 1099511627776, n) := by
 unfold zjO
 rw [in_k]
 cases inB n.2.2.2.2.2.2.2.1 0 1099511627776 with
 | false => rfl
 | true =>
  simp only [cond_true, Bool.true_and]
  unfold inB
  by_cases h : n.2.2.2.2.2.2.2.2.1 ≥ 0
  ·rw [zcF h, decide_eq_true (show (0 : Int) ≤ n.2.2.2.2.2.2.2.2.1 from h), Bool.true_and]
  ·rw [zcO h, decide_eq_false (show ¬ (0 : Int) ≤ n.2.2.2.2.2.2.2.2.1 from h)]; rfl
theorem yrU : ∀ l : List L8, (!l.any fun s => !prB s) = l.all prB
 | [] => rfl
 | x :: l => by rw [List.any_cons, List.all_cons, ← yrU l]; cases prB x <;> rfl
theorem may_ac (s k p q c a l b e x g v t1 t2 d : Bool) : (s && k && p && q && c && a && l && b && e && x && g && v && (t1 && t2) && d) = (k && p && q && c && a && (g && ((b && e) && ((s && l) && (x && (v && (t1 && (t2 && d)))))))) := by ac_rfl
theorem yzC {n : Nd} (h : NdOk n) : zgI zaB n = some (mayB n) := by
 have ha : n.2.2.2.2.2.2.2.2.2.2.2.1.length ≤ 1048576 := h.2.2.2.2.2.1
 have hs : n.2.2.2.2.2.2.1.length ≤ 1048576 := h.2.2.2.1
 have hax : (!axB (nact n)) = (nact n).all prB := by rw [ynW ha, yrU]
 unfold zgI
 rw [xdM h, zaA]
 have hm : mayB n = (inB n.2.1 1 5 && decide (n.2.2.1 ≥ 0) && prB n.2.2.2.1 && (n.2.2.2.2.1 == ([] : L8) || nmB n.2.2.2.2.1) && (n.2.2.2.2.2.1 == ([] : L8) || txB n.2.2.2.2.2.1) && ((nact n).all prB && ((inB n.2.2.2.2.2.2.2.1 0 1099511627776 && inB n.2.2.2.2.2.2.2.2.1 0 1099511627776) && ((scpF n.2.2.2.2.2.2.1 n.2.2.2.2.2.2.1.length 0 && decide ((n.2.2.2.2.2.2.1.length : Int) ≤ 16)) && (decide ((n.2.2.2.2.2.2.2.2.2.2.2.1.length : Int) ≤ 4) && (inB n.2.2.2.2.2.2.2.2.2.2.2.2.1 0 3 && (decide ((n.2.2.2.2.2.2.2.2.2.2.2.2.2.1.length : Int) ≥ 1) && (decide ((n.2.2.2.2.2.2.2.2.2.2.2.2.2.1.length : Int) ≤ 64) && decide ((n.2.2.2.2.2.2.2.2.2.2.2.2.2.2.length : Int) ≤ 256))))))))) := by
  unfold mayB
  rw [hax]
  have e : inB ((nsec n).length : Int) 1 64 = (decide (((nsec n).length : Int) ≥ 1) && decide (((nsec n).length : Int) ≤ 64)) := rfl
  rw [e]
  exact may_ac _ _ _ _ _ _ _ _ _ _ _ _ _ _ _
 rw [hm]
 cases inB n.2.1 1 5 && decide (n.2.2.1 ≥ 0) && prB n.2.2.2.1 && (n.2.2.2.2.1 == ([] : L8) || nmB n.2.2.2.2.1) && (n.2.2.2.2.2.1 == ([] : L8) || txB n.2.2.2.2.2.1) with
 | false => rfl
 | true =>
  simp only [cond_true, Bool.true_and]
  rw [show iter _ ((0 : Int), n) = _ from xdC (l := nact n) (p := prB) (s := n) (bad := Sum.inl false) (good := Sum.inr n) (by show n.2.2.2.2.2.2.2.2.2.2.2.1.length < _; omega) (fun k hk => ?_) ?_, zaA]
  ·cases (nact n).all prB with
   | false => rfl
   | true =>
    simp only [cond_true, Bool.true_and]
    rw [xfE, zaA]
    cases inB n.2.2.2.2.2.2.2.1 0 1099511627776 && inB n.2.2.2.2.2.2.2.2.1 0 1099511627776 with
    | false => rfl
    | true =>
     simp only [cond_true, Bool.true_and]
     rw [ynY hs h.2.2.2.2.1, zaA, in_k]
     cases scpF n.2.2.2.2.2.2.1 n.2.2.2.2.2.2.1.length 0 && decide ((n.2.2.2.2.2.2.1.length : Int) ≤ 16) with
     | false => rfl
     | true =>
      simp only [cond_true, Bool.true_and]
      cases decide ((n.2.2.2.2.2.2.2.2.2.2.2.1.length : Int) ≤ 4) with
      | false => rfl
      | true =>
       simp only [cond_true, Bool.true_and]
       cases inB n.2.2.2.2.2.2.2.2.2.2.2.2.1 0 3 with
       | false => rfl
       | true =>
        simp only [cond_true, Bool.true_and]
        cases decide ((n.2.2.2.2.2.2.2.2.2.2.2.2.2.1.length : Int) ≥ 1) with
        | false => rfl
        | true =>
         simp only [cond_true, Bool.true_and]
         cases decide ((n.2.2.2.2.2.2.2.2.2.2.2.2.2.1.length : Int) ≤ 64) <;> rfl
  ·show zdU zaB (((nact n).length : Nat) : Int) n.1 n.2.1 n.2.2.1 n.2.2.2.1 n.2.2.2.2.1 n.2.2.2.2.2.1 n.2.2.2.2.2.2.1 n.2.2.2.2.2.2.2.1 n.2.2.2.2.2.2.2.2.1 n.2.2.2.2.2.2.2.2.2.1 n.2.2.2.2.2.2.2.2.2.2.1 n.2.2.2.2.2.2.2.2.2.2.2.1 n.2.2.2.2.2.2.2.2.2.2.2.2.1 n.2.2.2.2.2.2.2.2.2.2.2.2.2.1 n.2.2.2.2.2.2.2.2.2.2.2.2.2.2 = _
   unfold zdU
   rw [zcO (show ¬ (((nact n).length : Nat) : Int) < (n.2.2.2.2.2.2.2.2.2.2.2.1.length : Int) by show ¬ (n.2.2.2.2.2.2.2.2.2.2.2.1.length : Int) < _; omega)]
  ·have hk2 : k < n.2.2.2.2.2.2.2.2.2.2.2.1.length := hk
   show zdU zaB (k : Int) n.1 n.2.1 n.2.2.1 n.2.2.2.1 n.2.2.2.2.1 n.2.2.2.2.2.1 n.2.2.2.2.2.2.1 n.2.2.2.2.2.2.2.1 n.2.2.2.2.2.2.2.2.1 n.2.2.2.2.2.2.2.2.2.1 n.2.2.2.2.2.2.2.2.2.2.1 n.2.2.2.2.2.2.2.2.2.2.2.1 n.2.2.2.2.2.2.2.2.2.2.2.2.1 n.2.2.2.2.2.2.2.2.2.2.2.2.2.1 n.2.2.2.2.2.2.2.2.2.2.2.2.2.2 = _
   unfold zdU
   rw [zcF (show (k : Int) < (n.2.2.2.2.2.2.2.2.2.2.2.1.length : Int) by omega), zbP rfl hk2, zaA, yjW (h.2.2.2.2.2.2 _ (List.getElem_mem hk2)), zaA, zbK (by omega)]
   show _ = some (bif prB n.2.2.2.2.2.2.2.2.2.2.2.1[k] then _ else _)
   cases prB n.2.2.2.2.2.2.2.2.2.2.2.1[k] <;> rfl
section
variable {nx nx' : Int} {es : Es}
theorem yuO (h : Ok nx es) (id l : Int) : zbZ zaB id l (ds es) nx' = some ((ydU es id l).1, ds (ydU es id l).2, nx') := by
 unfold zbZ ydU
 rw [zvO h, zaA]
 cases hh : mhas keqI es id with
 | false => rw [zoL hh]; rfl
 | true =>
  obtain ⟨n, hn, hp⟩ := zgH hh
  rw [hn, zfC hn]
  unfold zhC
  simp only [Bool.not_true, cond_false]
  cases hk : (n.2.1 != (1 : Int)) with
  | true => rfl
  | false =>
   simp only [cond_false]
   unfold inB
   by_cases h1 : l < 1
   ·rw [zcF h1, zaA, decide_eq_false (show ¬ (1 : Int) ≤ l by omega)]; rfl
   ·rw [zcO h1]
    by_cases h3 : l > 3
    ·rw [zcF h3, zaA, decide_eq_true (show (1 : Int) ≤ l by omega), decide_eq_false (show ¬ l ≤ 3 by omega)]; rfl
    ·rw [zcO h3, zaA, decide_eq_true (show (1 : Int) ≤ l by omega), decide_eq_true (show l ≤ 3 by omega)]
     simp only [Bool.and_self, cond_true]
     by_cases hl : l > nlev n
     ·rw [zcF hl]
      have hs := yhH (nx' := nx') h hn (sLev l) rfl
      have he : sLev l n = (n.1, n.2.1, n.2.2.1, n.2.2.2.1, n.2.2.2.2.1, n.2.2.2.2.2.1, n.2.2.2.2.2.2.1, n.2.2.2.2.2.2.2.1, n.2.2.2.2.2.2.2.2.1, n.2.2.2.2.2.2.2.2.2.1, n.2.2.2.2.2.2.2.2.2.2.1, n.2.2.2.2.2.2.2.2.2.2.2.1, l, n.2.2.2.2.2.2.2.2.2.2.2.2.2) := by
       unfold sLev
       rw [decide_eq_true (show n.2.2.2.2.2.2.2.2.2.2.2.2.1 ≤ l by have hl : l > n.2.2.2.2.2.2.2.2.2.2.2.2.1 := hl; omega)]
       rfl
      rw [he] at hs
      rw [hs, zaA]
     ·rw [zcO hl]
      have he : sLev l n = n := by
       have hl : ¬ l > n.2.2.2.2.2.2.2.2.2.2.2.2.1 := hl
       unfold sLev
       by_cases e : n.2.2.2.2.2.2.2.2.2.2.2.2.1 ≤ l
       ·rw [decide_eq_true e]
        have e2 : l = n.2.2.2.2.2.2.2.2.2.2.2.2.1 := by omega
        rw [e2]; rfl
       ·rw [decide_eq_false e]; rfl
      rw [yuB h.rises hn he]
theorem yvY (h : Ok nx es) (id : Int) (d : L8) : zbV zaB id d (ds es) nx' = some ((ydZ es id d).1, ds (ydZ es id d).2, nx') := by
 unfold zbV ydZ
 rw [zvO h, zaA]
 unfold zhB
 cases hh : mhas keqI es id with
 | false => rfl
 | true =>
  obtain ⟨n, hn, hp⟩ := zgH hh
  rw [zfC hn]
  simp only [Bool.not_true, cond_false, Bool.true_and]
  by_cases hd : (d.length : Int) > 256
  ·rw [zcF hd, zaA, decide_eq_true hd]; rfl
  ·rw [zcO hd, zaA, decide_eq_false hd]
   simp only [Bool.not_false, cond_true]
   have hs := yhH (nx' := nx') h hn (yuU d) rfl
   exact (congrArg (fun o => Option.bind o fun v8 => some ((0 : Int), v8.2, v8.1)) hs).trans rfl
theorem ypR (s c : L8) : (c != ([] : L8) && (([99, 58] : L8) ++ c == s)) = ((cutC s).2 && ((cutC s).1 != ([] : L8) && c == (cutC s).1)) := by
 unfold cutC
 cases ht : (s.take 2 == ([99, 58] : L8)) with
 | true =>
  have ht := beq_iff_eq.1 ht
  simp only [cond_true, Bool.true_and]
  have hs : s = ([99, 58] : L8) ++ s.drop 2 := by rw [← ht]; exact (List.take_append_drop 2 s).symm
  by_cases e : c = s.drop 2
  ·rw [← e, beq_self_eq_true, Bool.and_true]
   have : (([99, 58] : L8) ++ c == s) = true := by rw [beq_iff_eq, e]; exact hs.symm
   rw [this, Bool.and_true]
  ·have h1 : (c == s.drop 2) = false := beq_eq_false_iff_ne.2 e
   have h2 : (([99, 58] : L8) ++ c == s) = false := beq_eq_false_iff_ne.2 fun e2 => e (by rw [← e2]; rfl)
   rw [h1, h2, Bool.and_false, Bool.and_false]
 | false =>
  simp only [cond_false, Bool.false_and]
  have h2 : (([99, 58] : L8) ++ c == s) = false := beq_eq_false_iff_ne.2 fun e2 => by
   rw [← e2] at ht
   cases ht
  rw [h2, Bool.and_false]
theorem ylT (h : Ok nx es) {p : Int × Nd} (hp : p ∈ es) : p.2.2.2.2.2.1.length ≤ 1048576 := by
 have hm := h.may p hp
 unfold mayB at hm
 simp only [Bool.and_eq_true, Bool.or_eq_true] at hm
 rcases hm.1.1.1.1.1.1.1.1.1.2 with hc | hc
 ·rw [beq_iff_eq.1 hc]; simp
 ·rw [xfR] at hc
  simp only [Bool.and_eq_true, decide_eq_true_eq] at hc
  omega
def kE (es : Es) (s : L8) (k : Nat) : Es := chE es fun p => if p ∈ es.take k ∧ hitB s p.2 = true then zmL p.2 else p.2
theorem kE_ok (h : Ok nx es) (s : L8) (k : Nat) : Ok nx (kE es s k) := h.ch (@zpH es (fun p => p ∈ es.take k ∧ hitB s p.2 = true) fun p => inferInstanceAs (Decidable (p ∈ es.take k ∧ hitB s p.2 = true)))
theorem yrH (h : zmA es) {k j : Nat} (hk : k < es.length) (hj : j ≤ k) : es[k] ∉ es.take j := fun hm => by
 obtain ⟨i, hi, e⟩ := List.mem_iff_getElem.1 hm
 rw [List.length_take] at hi
 rw [List.getElem_take] at e
 have := List.pairwise_iff_getElem.1 h i k (by omega) hk (by omega)
 rw [e] at this; omega
theorem ylX (h : Ok nx es) (s : L8) : zbL zaB s (ds es) nx' = some (((es.filter fun p => hitB s p.2).length : Int), ds (zsG es s), nx') := by
 have hl := h.len
 refine T.eq ?_
 unfold zbL
 have h0 : ds (kE es s 0) = ds es := by
  unfold ds kE chE
  rw [List.map_map]
  exact List.map_congr_left fun p hp => by simp
 refine T.bind (Q := fun r => r = (((es.filter fun p => hitB s p.2).length : Int), ds (zsG es s), nx')) (T.iter (fun x => 0 ≤ x.2.1 ∧ x.2.1 ≤ (es.length : Int) ∧ x.2.2 = (ds (kE es s x.2.1.toNat), nx') ∧ x.1 = (((es.take x.2.1.toNat).filter fun p => hitB s p.2).length : Int)) (fun x => es.length - x.2.1.toNat) _ (fun x hx => ?_) ⟨Int.le_refl _, by simp, by rw [Int.toNat_zero, h0], rfl⟩ (by simp; omega)) fun r hr => T.ok hr
 obtain ⟨m, i, v⟩ := x
 obtain ⟨h8, h9, e1, e2⟩ := hx
 simp only at h8 h9 e1 e2
 obtain ⟨k, rfl⟩ : ∃ k : Nat, i = k := ⟨i.toNat, by omega⟩
 rw [Int.toNat_natCast] at e1 e2
 subst e1 e2
 have hkl : (kE es s k).length = es.length := yhQ es _
 unfold zgN
 simp only []
 refine T.dif (fun h2 => ?_) fun h2 => T.ok ?_
 ·rw [zdQ, hkl] at h2
  have hk : k < es.length := by omega
  have hat : ∀ hk2 : k < (kE es s k).length, (kE es s k)[k] = (es[k].1, es[k].2) := fun hk2 => by
   have : (kE es s k)[k]? = some (es[k].1, es[k].2) := by
    show (es.map _)[k]? = _
    rw [List.getElem?_map, List.getElem?_eq_getElem hk, Option.map_some]
    show some (es[k].1, if es[k] ∈ es.take k ∧ hitB s es[k].2 = true then zmL es[k].2 else es[k].2) = _
    rw [if_neg (fun hc => yrH h.rises hk (Nat.le_refl k) hc.1)]
   rw [List.getElem?_eq_getElem hk2] at this
   exact osi this
  rw [zbP rfl (by rw [zdQ, hkl]; exact hk), zaA, zyD, hat]
  have hg : mget keqI (kE es s k) es[k].1 = some es[k].2 := by
   refine zfO (kE_ok h s k).rises ?_
   have hk2 : k < (kE es s k).length := by rw [hkl]; exact hk
   have := List.getElem_mem hk2
   rw [hat] at this; exact this
  have hcl := ylT h (List.getElem_mem hk)
  have hj : zdG zaB s (ds (kE es s k)) nx' es[k].2 = some ((es[k].2.2.2.2.2.1 != ([] : L8) && (([99, 58] : L8) ++ es[k].2.2.2.2.2.1 == s)), ds (kE es s k), nx', es[k].2) := by
   unfold zdG
   cases hc : (es[k].2.2.2.2.2.1 != ([] : L8)) with
   | true => simp only [cond_true, Bool.true_and]; rw [zgM (by simp; omega), zaA]
   | false => rfl
  have hj1 : zdI zaB s ((es[k].2.2.2.2.2.1 != ([] : L8) && (([99, 58] : L8) ++ es[k].2.2.2.2.2.1 == s)), ds (kE es s k), nx', es[k].2) = some (hitB s es[k].2, ds (kE es s k), nx', es[k].2) := by
   unfold zdI hitB yzS
   rw [ypR]
   show (bif !ybK es[k].2 then (bif (es[k].2.2.2.2.1 == s) then _ else _) else _) = _
   cases ybK es[k].2 <;> cases (es[k].2.2.2.2.1 == s) <;> rfl
  rw [hj, zaA, hj1, zaA]
  have hfl : ((es.take (k + 1)).filter fun p => hitB s p.2) = ((es.take k).filter fun p => hitB s p.2) ++ (bif hitB s es[k].2 then [es[k]] else []) := by
   rw [List.take_succ_eq_append_getElem hk, List.filter_append]
   congr 1
  have hmem : ∀ p ∈ es, (p ∈ es.take (k + 1) ↔ p ∈ es.take k ∨ p = es[k]) := fun p _ => by
   rw [List.take_succ_eq_append_getElem hk, List.mem_append, List.mem_singleton]
  cases hb : hitB s es[k].2 with
  | true =>
   simp only [cond_true]
   have hs := yhH (nx' := nx') (kE_ok h s k) hg zmL rfl
   have he : chI (kE es s k) es[k].1 zmL = kE es s (k + 1) := by
    unfold kE
    rw [ysG]
    refine zqI fun p hp => ?_
    by_cases e : p.1 = es[k].1
    ·have := ytF h.rises hp (List.getElem_mem hk) e
     subst this
     rw [if_pos rfl, if_neg (fun hc => yrH h.rises hk (Nat.le_refl k) hc.1), if_pos ⟨(hmem _ hp).2 (.inr rfl), hb⟩]
    ·rw [if_neg e]
     have hne : p ≠ es[k] := fun e2 => e (by rw [e2])
     by_cases hc : p ∈ es.take k ∧ hitB s p.2 = true
     ·rw [if_pos hc, if_pos ⟨(hmem p hp).2 (.inl hc.1), hc.2⟩]
     ·rw [if_neg hc, if_neg fun hc2 => hc ⟨((hmem p hp).1 hc2.1).resolve_right hne, hc2.2⟩]
   rw [he] at hs
   refine T.bind (Q := fun r => r = (nx', ds (kE es s (k + 1)))) ⟨_, hs, rfl⟩ fun r hr => ?_
   subst hr
   refine T.ok ⟨⟨?_, ?_, ?_, ?_⟩, ?_⟩
   ·simp only []; rw [zbK (by omega)]; omega
   ·simp only []; rw [zbK (by omega)]; omega
   ·simp only []; rw [zbK (by omega), Int.toNat_natCast]
   ·simp only []
    have := List.length_filter_le (fun p : Int × Nd => hitB s p.2) (es.take k)
    rw [List.length_take] at this
    rw [zbK (k := ((es.take k).filter fun p => hitB s p.2).length) (by omega), zbK (by omega), Int.toNat_natCast, hfl, hb]
    simp
   ·simp only []; rw [zbK (by omega)]; omega
  | false =>
   simp only [cond_false]
   have he : kE es s (k + 1) = kE es s k := by
    unfold kE
    refine zqI fun p hp => ?_
    by_cases hc : p ∈ es.take k ∧ hitB s p.2 = true
    ·rw [if_pos hc, if_pos ⟨(hmem p hp).2 (.inl hc.1), hc.2⟩]
    ·rw [if_neg hc, if_neg fun hc2 => ?_]
     rcases (hmem p hp).1 hc2.1 with h3 | h3
     ·exact hc ⟨h3, hc2.2⟩
     ·rw [h3, hb] at hc2; cases hc2.2
   refine T.ok ⟨⟨?_, ?_, ?_, ?_⟩, ?_⟩
   ·simp only []; rw [zbK (by omega)]; omega
   ·simp only []; rw [zbK (by omega)]; omega
   ·simp only []; rw [zbK (by omega), Int.toNat_natCast, he]
   ·simp only []; rw [zbK (by omega), Int.toNat_natCast, hfl, hb]; simp
   ·simp only []; rw [zbK (by omega)]; omega
 ·rw [zdQ, hkl] at h2
  have hke : k = es.length := by omega
  subst hke
  have he : kE es s es.length = zsG es s := by
   unfold kE zsG
   refine zqI fun p hp => ?_
   rw [List.take_length]
   by_cases hb : hitB s p.2 = true
   ·rw [if_pos ⟨hp, hb⟩, if_pos hb]
   ·rw [if_neg (fun hc => hb hc.2), if_neg hb]
  rw [he, List.take_length]
end
end Go.Proofs.YtebbcofojchkpaaGreatDoor.Am
