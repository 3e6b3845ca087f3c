/- The law 'seneschallaw13.ForestStays' holds of every input whose arguments hold together at most 1048576 values and letters, and its card. Conditions: the row's listed tables hold what the program's text lays; the arguments' bulk is at most 1048576. -/
import Derived.Test.YtebbcofojchkpaaGreatDoorRows
import Derived.Test.YtebbcofojchkpaaGreatDoorTie
import Derived.Test.YtebbcofojchkpaaGreatDoorCards
import Derived.ProofKit
import Derived.OpenShut
import Derived.Carry
import Derived.JoinedCond
import Derived.ChangeMaps5
import Derived.Deep.SlicePairs
import Derived.Deep.DeepHandedRow
import Derived.Lib.LaidTab
import Derived.SevenTiedAt
import Derived.KernelRfl
import Derived.Stop.LaidErr
import Derived.Test.YtebbcofojchkpaaGreatDoorQsK
namespace Go.Proofs.YtebbcofojchkpaaGreatDoor.Am
open Go Go.RowKit
theorem ynI {a b : List L8} (h : a.length ≤ 1048576) : T (zdG zaB a b) fun _ => True := by
 unfold zdG
 refine T.bif (fun _ => T.ok trivial) fun hl => ?_
 have hl : (a.length : Int) = (b.length : Int) := by simpa using hl
 refine T.bind (Q := fun _ => True) (T.places a.length (by omega) _ fun k hk => ?_) fun r _ => ?_
 ·unfold zlH
  exact T.dif (fun h2 => (T.ixn h2).bind fun _ _ => (T.ixn (by omega)).bind fun _ _ => T.bif (fun _ => T.ok trivial) fun _ => T.ok ⟨zbW (by omega), by omega⟩) fun _ => T.ok trivial
 ·cases r <;> exact T.ok trivial
theorem ytV {a b : Nd} (h : Lst a) : T (zdF zaB a b) fun _ => True := by
 unfold zdF
 refine T.bind (Q := fun _ => True) ?_ fun r _ => ?_
 ·unfold zlK
  exact (ynI h.1).bind fun _ _ => T.bif (fun _ => T.ok trivial) fun _ => (ynI h.2).bind fun _ _ => T.bif (fun _ => T.ok trivial) fun _ => T.ok trivial
 ·cases r with
  | inl _ => exact T.ok trivial
  | inr _ =>
   simp only []
   repeat' first | exact T.ok trivial | refine T.bif (fun _ => ?_) fun _ => ?_
theorem ykG {a b : List Int} (h : a.length ≤ 99999999) : T (zdN zaB a b) fun _ => True := by
 unfold zdN
 refine T.bif (fun _ => T.ok trivial) fun hl => ?_
 have hl : (a.length : Int) = (b.length : Int) := by simpa using hl
 refine T.bind (Q := fun _ => True) (T.places a.length (by omega) _ fun k hk => ?_) fun r _ => ?_
 ·unfold ziV
  exact T.dif (fun h2 => (T.ixn h2).bind fun _ _ => (T.ixn (by omega)).bind fun _ _ => T.bif (fun _ => T.ok trivial) fun _ => T.ok ⟨zbW (by omega), by omega⟩) fun _ => T.ok trivial
 ·cases r <;> exact T.ok trivial
abbrev OpT : Type := Int × Int × Int × Int × L8 × Nd
def zrH (o : OpT) (nx : Int) (es : Es) : Int × Es :=
 bif o.2.1 == (0 : Int) then ((zeR o.2.2.2.2.2 o.2.2.1 nx es).2.2.1, (zeR o.2.2.2.2.2 o.2.2.1 nx es).2.2.2) else
 bif o.2.1 == (1 : Int) then (nx, es) else
 bif o.2.1 == (2 : Int) then (nx, (zwC es o.2.2.1 o.2.2.2.1).2) else
 bif o.2.1 == (3 : Int) then (nx, bif mhas keqI es o.2.2.1 then chI es o.2.2.1 zoA else es) else
 bif o.2.1 == (4 : Int) then (nx, zyT es o.2.2.2.2.1) else
 bif o.2.1 == (5 : Int) then (nx, (ydT es o.2.2.1 o.2.2.2.1).2) else
 bif o.2.1 == (6 : Int) then (nx, (ydL es o.2.2.1 o.2.2.2.2.1).2) else
 bif o.2.1 == (7 : Int) then (nx, zbY es o.2.2.1) else (nx, es)
theorem Ok.kill {nx : Int} {es : Es} (h : Ok nx es) (i : Int) : Ok nx (bif mhas keqI es i then chI es i zoA else es) := by
 cases mhas keqI es i with
 | false => exact h
 | true => exact h.ch (znT _)
theorem Ok.step {nx : Int} {es : Es} (h : Ok nx es) (o : OpT) : Ok (zrH o nx es).1 (zrH o nx es).2 := by
 unfold zrH
 cases o.2.1 == (0 : Int) with
 | true => exact h.plant _ _
 | false =>
  cases o.2.1 == (1 : Int) with
  | true => exact h
  | false =>
   cases o.2.1 == (2 : Int) with
   | true => exact h.spend _ _
   | false =>
    cases o.2.1 == (3 : Int) with
    | true => exact h.kill _
    | false =>
     cases o.2.1 == (4 : Int) with
     | true => exact h.killed _
     | false =>
      cases o.2.1 == (5 : Int) with
      | true => exact h.lift _ _
      | false =>
       cases o.2.1 == (6 : Int) with
       | true => exact h.note _ _
       | false =>
        cases o.2.1 == (7 : Int) with
        | true => exact h.pruned _
        | false => exact h
theorem ysO : Lst zN := ⟨by decide, by decide⟩
theorem ypI {nx : Int} {es : Es} (h : Ok nx es) (i : Int) : Lst (zgZ keqI es i zN) := by
 cases hh : mhas keqI es i with
 | false => rw [ygO hh]; exact ysO
 | true =>
  obtain ⟨n, hn, hp⟩ := zlX hh
  rw [zhT hn]
  exact h.lst hp
theorem ynV {nx : Int} {es : Es} (h : Ok nx es) {s : L8} {n : Nd} (hf : zuE es s = some n) : Lst n := by
 unfold zuE at hf
 obtain ⟨p, hp, rfl⟩ := Option.map_eq_some_iff.1 hf
 exact h.lst (List.mem_of_find?_eq_some hp)
theorem yxM {s : Int × Int × List Nd × Int × Es × Int × Int × Int × L8 × L8 × L8 × Int × Int × Bool × Bool × Int × L8 × L8 × List L8 × List L8} (h0 : s.1 = 0) (h1 : (s.2.2.2.2.2.2.2.2.2.2.2.2.2.2.2.2.2.2.1).length ≤ 1048576) (h2 : (s.2.2.2.2.2.2.2.2.2.2.2.2.2.2.2.2.2.2.2).length ≤ 1048576) : T (iter (fun x => zgT zaB x.1 x.2.1 x.2.2.1 x.2.2.2.1 x.2.2.2.2.1 x.2.2.2.2.2.1 x.2.2.2.2.2.2.1 x.2.2.2.2.2.2.2.1 x.2.2.2.2.2.2.2.2.1 x.2.2.2.2.2.2.2.2.2.1 x.2.2.2.2.2.2.2.2.2.2.1 x.2.2.2.2.2.2.2.2.2.2.2.1 x.2.2.2.2.2.2.2.2.2.2.2.2.1 x.2.2.2.2.2.2.2.2.2.2.2.2.2.1 x.2.2.2.2.2.2.2.2.2.2.2.2.2.2.1 x.2.2.2.2.2.2.2.2.2.2.2.2.2.2.2.1 x.2.2.2.2.2.2.2.2.2.2.2.2.2.2.2.2.1 x.2.2.2.2.2.2.2.2.2.2.2.2.2.2.2.2.2.1 x.2.2.2.2.2.2.2.2.2.2.2.2.2.2.2.2.2.2.1 x.2.2.2.2.2.2.2.2.2.2.2.2.2.2.2.2.2.2.2) s) fun r => r.1 = s.2.1 ∧ r.2.1 = s.2.2.1 ∧ r.2.2.1 = s.2.2.2.1 ∧ r.2.2.2.1 = s.2.2.2.2.1 ∧ (r.2.2.2.2.2.2.2.2.2.2.2.2.2.2.2.2.2.2).length ≤ 1048576 := by
 refine T.iter (fun x => x.2.1 = s.2.1 ∧ x.2.2.1 = s.2.2.1 ∧ x.2.2.2.1 = s.2.2.2.1 ∧ x.2.2.2.2.1 = s.2.2.2.2.1 ∧ 0 ≤ x.1 ∧ x.1 ≤ ((x.2.2.2.2.2.2.2.2.2.2.2.2.2.2.2.2.2.2.1).length : Int) ∧ (x.2.2.2.2.2.2.2.2.2.2.2.2.2.2.2.2.2.2.1).length ≤ 1048576 ∧ (x.2.2.2.2.2.2.2.2.2.2.2.2.2.2.2.2.2.2.2).length ≤ 1048576) (fun x => (x.2.2.2.2.2.2.2.2.2.2.2.2.2.2.2.2.2.2.1).length - x.1.toNat) _ (fun x hx => ?_) ⟨rfl, rfl, rfl, rfl, by omega, by omega, h1, h2⟩ (by omega)
 obtain ⟨e1, e2, e3, e4, h5, h6, h7, h8⟩ := hx
 obtain ⟨k, hk⟩ : ∃ k : Nat, x.1 = k := ⟨x.1.toNat, by omega⟩
 unfold zgT
 rw [hk]
 rw [hk] at h5 h6
 refine T.dif (fun h9 => ?_) fun _ => T.ok ⟨e1, e2, e3, e4, h8⟩
 rw [decide_eq_true (show (0 : Int) ≤ (k : Int) by omega), decide_eq_true h9, Bool.and_self, zqU rfl, zaA]
 refine (ynJ (by omega) h9).bind fun r hr => ?_
 obtain ⟨j, rfl⟩ := hr
 refine T.ok ⟨⟨e1, e2, e3, e4, ?_, ?_, ?_, h8⟩, ?_⟩
 ·rw [zbW (by omega)]; exact Int.natCast_nonneg _
 ·rw [zbW (by omega), List.length_set]; exact Int.ofNat_le.2 (by omega)
 ·rw [List.length_set]; exact h7
 ·rw [zbW (by omega), List.length_set, Int.toNat_natCast]; omega
theorem yvC {s : Int × Int × List Nd × Int × Es × Int × Int × Int × L8 × L8 × L8 × Int × Int × Bool × Bool × Int × L8 × L8 × List L8 × List L8} (h0 : s.1 = 0) (h2 : (s.2.2.2.2.2.2.2.2.2.2.2.2.2.2.2.2.2.2.2).length ≤ 1048576) : T (iter (fun x => zgK zaB x.1 x.2.1 x.2.2.1 x.2.2.2.1 x.2.2.2.2.1 x.2.2.2.2.2.1 x.2.2.2.2.2.2.1 x.2.2.2.2.2.2.2.1 x.2.2.2.2.2.2.2.2.1 x.2.2.2.2.2.2.2.2.2.1 x.2.2.2.2.2.2.2.2.2.2.1 x.2.2.2.2.2.2.2.2.2.2.2.1 x.2.2.2.2.2.2.2.2.2.2.2.2.1 x.2.2.2.2.2.2.2.2.2.2.2.2.2.1 x.2.2.2.2.2.2.2.2.2.2.2.2.2.2.1 x.2.2.2.2.2.2.2.2.2.2.2.2.2.2.2.1 x.2.2.2.2.2.2.2.2.2.2.2.2.2.2.2.2.1 x.2.2.2.2.2.2.2.2.2.2.2.2.2.2.2.2.2.1 x.2.2.2.2.2.2.2.2.2.2.2.2.2.2.2.2.2.2.1 x.2.2.2.2.2.2.2.2.2.2.2.2.2.2.2.2.2.2.2) s) fun r => r = (s.2.1, s.2.2.1, s.2.2.2.1, s.2.2.2.2.1) := by
 refine T.iter (fun x => x.2.1 = s.2.1 ∧ x.2.2.1 = s.2.2.1 ∧ x.2.2.2.1 = s.2.2.2.1 ∧ x.2.2.2.2.1 = s.2.2.2.2.1 ∧ 0 ≤ x.1 ∧ x.1 ≤ ((x.2.2.2.2.2.2.2.2.2.2.2.2.2.2.2.2.2.2.2).length : Int) ∧ (x.2.2.2.2.2.2.2.2.2.2.2.2.2.2.2.2.2.2.2).length ≤ 1048576) (fun x => (x.2.2.2.2.2.2.2.2.2.2.2.2.2.2.2.2.2.2.2).length - x.1.toNat) _ (fun x hx => ?_) ⟨rfl, rfl, rfl, rfl, by omega, by omega, h2⟩ (by omega)
 obtain ⟨e1, e2, e3, e4, h5, h6, h8⟩ := hx
 obtain ⟨k, hk⟩ : ∃ k : Nat, x.1 = k := ⟨x.1.toNat, by omega⟩
 unfold zgK
 rw [hk]
 rw [hk] at h5 h6
 refine T.dif (fun h9 => ?_) fun _ => T.ok (by rw [e1, e2, e3, e4])
 rw [decide_eq_true (show (0 : Int) ≤ (k : Int) by omega), decide_eq_true h9, Bool.and_self, zqU rfl, zaA]
 refine (ynJ (by omega) h9).bind fun r hr => ?_
 obtain ⟨j, rfl⟩ := hr
 refine T.ok ⟨⟨e1, e2, e3, e4, ?_, ?_, ?_⟩, ?_⟩
 ·rw [zbW (by omega)]; exact Int.natCast_nonneg _
 ·rw [zbW (by omega), List.length_set]; exact Int.ofNat_le.2 (by omega)
 ·rw [List.length_set]; exact h8
 ·rw [zbW (by omega), List.length_set, Int.toNat_natCast]; omega
def Did (nx : Int) (es : Es) : Bool × Int × List Nd × Int × Es → Prop := fun r => (r.2.1, r.2.2.2.2) = (nx, es) ∧ RY r.2.2.1 r.2.2.2.1
theorem ytO {nx ny : Int} {es : Es} {L : List Nd} (h : Ok nx es) (hy : RY L ny) (o : OpT) (ho : NdOk o.2.2.2.2.2) : T (zcT zaB o nx L ny es) (Did (zrH o nx es).1 (zrH o nx es).2) := by
 unfold zcT zrH
 have h4 : o.2.2.2.2.2.2.2.2.2.2.2.1.length ≤ 1048576 := ho.2.2.2.1
 have h6 : o.2.2.2.2.2.2.2.2.2.2.2.2.2.2.2.2.1.length ≤ 1048576 := ho.2.2.2.2.2.1
 cases o.2.1 == (0 : Int) with
 | true =>
  simp only [cond_true]
  rw [zmA _ (by omega), zaA, zmA _ (by omega), zaA]
  rw [show zcV zaB _ _ _ _ _ _ _ _ _ _ _ _ _ _ _ _ _ _ = _ from ykH h o.2.2.2.2.2 o.2.2.1 ⟨h4, h6⟩, zaA]
  refine (yrQ hy ho o.2.2.1).bind fun r hr => ?_
  refine T.bind (yxM (by exact rfl) (by exact h4) (by exact h6)) fun v hv => ?_
  obtain ⟨e1, e2, e3, e4, h7⟩ := hv
  refine T.bind (yvC (by exact rfl) (by exact h7)) fun v2 hv2 => ?_
  simp only at e1 e2 e3 e4
  rw [e1, e2, e3, e4] at hv2
  subst hv2
  exact T.bif (fun _ => T.ok ⟨rfl, hr⟩) fun _ => T.ok ⟨rfl, hr⟩
 | false =>
  cases o.2.1 == (1 : Int) with
  | true =>
   simp only [cond_true, cond_false]
   rw [yfE h, zaA]
   refine (zzF hy.len _).bind fun r hr => ?_
   obtain ⟨n1, b1, v⟩ := r
   obtain ⟨rfl, _⟩ := hr
   simp only []
   rw [ztA h, zaA]
   have hql : Lst ((zuE es o.2.2.2.2.1).getD zN) := by
    cases hf : zuE es o.2.2.2.2.1 with
    | none => exact ysO
    | some n => exact ynV h hf
   refine (ylJ hy.len _).bind fun r hr => ?_
   obtain ⟨n2, b2, v⟩ := r
   obtain ⟨rfl, _⟩ := hr
   simp only []
   have hok : ∀ b : Bool, Did nx es (b, nx, L, ny, es) := fun b => ⟨rfl, hy⟩
   refine T.bif (fun _ => T.bif (fun _ => (ytV (ypI h _)).bind fun _ _ => T.bif (fun _ => (ytV hql).bind fun _ _ => T.bif (fun _ => ?_) fun _ => T.ok (hok _)) fun _ => T.ok (hok _)) fun _ => T.ok (hok _)) fun _ => T.ok (hok _)
   rw [zwB h, zaA]
   refine (ygB hy _ _).bind fun r hr => ?_
   obtain ⟨b3, v⟩ := r
   simp only at hr
   subst hr
   refine T.bif (fun _ => ?_) fun _ => T.ok (hok _)
   rw [ycP h, zaA]
   refine (ygL hy _).bind fun r hr => ?_
   obtain ⟨L', ny', l⟩ := r
   obtain ⟨e1, e2, _⟩ := hr
   simp only at e1 e2
   subst e1 e2
   exact (ykG (zvC h _)).bind fun _ _ => T.ok (hok _)
  | false =>
   cases o.2.1 == (2 : Int) with
   | true =>
    simp only [cond_true, cond_false]
    rw [ypV h, zaA]
    exact (yqK hy _ _).bind fun r hr => T.ok ⟨rfl, hr⟩
   | false =>
    cases o.2.1 == (3 : Int) with
    | true =>
     simp only [cond_true, cond_false]
     rw [ywK h, zaA]
     refine (ymN hy _).bind fun r hr => T.ok ⟨?_, hr⟩
     cases mhas keqI es o.2.2.1 <;> rfl
    | false =>
     cases o.2.1 == (4 : Int) with
     | true =>
      simp only [cond_true, cond_false]
      rw [ykF h, zaA]
      exact (yoF hy _).bind fun r hr => T.ok ⟨rfl, hr⟩
     | false =>
      cases o.2.1 == (5 : Int) with
      | true =>
       simp only [cond_true, cond_false]
       rw [yuK h, zaA]
       exact (yvJ hy _ _).bind fun r hr => T.ok ⟨rfl, hr⟩
      | false =>
       cases o.2.1 == (6 : Int) with
       | true =>
        simp only [cond_true, cond_false]
        rw [yxF h, zaA]
        exact (yuA hy _ _).bind fun r hr => T.ok ⟨rfl, hr⟩
       | false =>
        cases o.2.1 == (7 : Int) with
        | true =>
         simp only [cond_true, cond_false]
         rw [zvH h, zaA]
         refine (yiU hy _).bind fun r hr => T.ok ⟨rfl, ?_⟩
         obtain ⟨m, nx', out⟩ := r
         obtain ⟨e1, hsub, hlen⟩ := hr
         simp only at e1 hsub hlen
         subst e1
         exact ⟨fun q hq => hy.ids q (hsub q hq), fun q hq => hy.ok q (hsub q hq), hy.next, Nat.le_trans hlen hy.len⟩
        | false => exact T.ok ⟨rfl, hy⟩
def zxN (l : List OpT) : Int × Es := l.foldl (fun s o => zrH o s.1 s.2) (1, [])
theorem ysW : Ok 1 [] := ⟨List.Pairwise.nil, fun _ h => (by cases h), fun _ h => (by cases h), fun _ h => (by cases h), fun _ h => (by cases h), ⟨by decide, by decide⟩, by decide⟩
theorem ycQ : ∀ (l : List OpT) (s : Int × Es), Ok s.1 s.2 → Ok (l.foldl (fun s o => zrH o s.1 s.2) s).1 (l.foldl (fun s o => zrH o s.1 s.2) s).2
 | [], _, h => h
 | o :: l, s, h => ycQ l (zrH o s.1 s.2) (h.step o)
theorem ykY (l : List OpT) : Ok (zxN l).1 (zxN l).2 := ycQ l (1, []) ysW
theorem yuI {l : List OpT} (hl : l.length ≤ 1048576) (ho : ∀ o ∈ l, NdOk o.2.2.2.2.2) : zeZ zaB l = some (zxN l) := by
 have h : T (iter (fun x => zhN zaB l x.1 x.2.1 x.2.2.1 x.2.2.2.1 x.2.2.2.2) ((0 : Int), 1, ([] : List Nd), 1, ([] : Es))) fun r => r = zxN l := by
  refine T.iter (fun x => 0 ≤ x.1 ∧ x.1 ≤ (l.length : Int) ∧ (x.2.1, x.2.2.2.2) = (l.take x.1.toNat).foldl (fun s o => zrH o s.1 s.2) (1, []) ∧ RY x.2.2.1 x.2.2.2.1) (fun x => l.length - x.1.toNat) _ (fun x hx => ?_) ⟨Int.le_refl _, by simp, rfl, ⟨fun _ h => (by cases h), fun _ h => (by cases h), ⟨by decide, by decide⟩, by decide⟩⟩ (by simp; omega)
  obtain ⟨i, nx, L, ny, es⟩ := x
  obtain ⟨h1, h2, h3, hy⟩ := hx
  simp only at h1 h2 h3 hy
  obtain ⟨k, rfl⟩ : ∃ k : Nat, i = k := ⟨i.toNat, by omega⟩
  rw [Int.toNat_natCast] at h3
  unfold zhN
  simp only []
  refine T.dif (fun h4 => ?_) fun h4 => T.ok ?_
  ·have hk : k < l.length := by omega
   rw [zmM rfl hk, zaA]
   have hO := ycQ (l.take k) (1, []) ysW
   rw [← h3] at hO
   refine (ytO hO hy l[k] (ho _ (List.getElem_mem hk))).bind fun r hr => ?_
   obtain ⟨b, nx', L', ny', es'⟩ := r
   obtain ⟨h5, h6⟩ := hr
   refine T.ok ⟨⟨?_, ?_, ?_, h6⟩, ?_⟩
   ·simp only []; rw [zbW (by omega)]; omega
   ·simp only []; rw [zbW (by omega)]; omega
   ·simp only []
    rw [zbW (by omega), Int.toNat_natCast, List.take_succ_eq_append_getElem hk, List.foldl_append, ← h3]
    exact h5
   ·simp only []; rw [zbW (by omega)]; omega
  ·rw [List.take_of_length_le (by omega)] at h3
   exact h3
 obtain ⟨r, h1, rfl⟩ := h
 unfold zeZ ziC zdT
 rw [zaA, zaA]
 rw [show iter _ _ = _ from h1, zaA]
end Go.Proofs.YtebbcofojchkpaaGreatDoor.Am
namespace Go.Proofs.YtebbcofojchkpaaGreatDoor
open Go Go.RowKit
section
open Go Go.RowKit Go.ChangeShapes Go.WideShapes Go.ChangeAt
section
variable {H : Type} {enc : TypeId × Value → H} {P : Program} {W W' : World}
theorem zzE (hl : laidOutB P = true) (hx : Below W.heap.size W W') : ∀ {ts : List TypeId} {vs : LV} {ds : List (DataW H)} {ps : List MemPlace}, ts.all (fun t => P.readableRec t && decide (t < P.types.size)) = true →
  DataW.TrodAll enc P W 0 (fun _ => true) true ts vs ds ps → (∀ x ∈ ps, x.block < W.heap.size) → DataW.TrodAll enc P W' 0 (fun b => decide (b < W.heap.size)) true ts vs ds ps
 | [], vs, ds, ps, _, h, _ => by
  obtain ⟨rfl, rfl, rfl⟩ := trodAll_nil h
  exact trodAll_mk0
 | t :: ts, vs, ds, ps, ha, h, hlt => by
  obtain ⟨v, vs', d, ds', p, q, rfl, rfl, rfl, h0, hr⟩ := trodAll_cons h
  simp only [List.all_cons, Bool.and_eq_true, decide_eq_true_eq] at ha
  exact trodAll_cons_mk (Below.trod hl ha.1.1 ha.1.2 h0 hx fun x hx => hlt x (List.mem_append.2 (.inl hx)))
   (zzE hl hx ha.2 hr fun x hx => hlt x (List.mem_append.2 (.inr hx)))
theorem trodAll_length : ∀ {ts : List TypeId} {vs : LV} {ds : List (DataW H)} {ps : List MemPlace} {w : World} {b : Nat} {sp : Nat → Bool} {hd : Bool}, DataW.TrodAll enc P w b sp hd ts vs ds ps → vs.length = ts.length ∧ ds.length = ts.length
 | [], vs, ds, ps, _, _, _, _, h => by
  obtain ⟨rfl, rfl, rfl⟩ := trodAll_nil h
  exact ⟨rfl, rfl⟩
 | t :: ts, vs, ds, ps, _, _, _, _, h => by
  obtain ⟨v, vs', d, ds', p, q, rfl, rfl, rfl, h0, hr⟩ := trodAll_cons h
  have := trodAll_length hr
  simp [this.1, this.2]
theorem yqP {f : Func} {s : ChangeSpec} {args : Array Value} {ds gs : List (DataW H)} {before : List MemPlace} {B : TypeId} {n : Nat} (hl : laidOutB P = true) (hv : s.vars = [])
  (hp : f.params.toList.all (fun t => P.readableRec t && decide (t < P.types.size)) = true) (hn : f.params.toList.length = n) (hB : P.underlying B = some .bool) (hr : f.resultTypes = #[B])
  (hfn : ∀ ds : List (DataW H), ds.length = n → (s.fn H (ds ++ [])).results = [.lit (.bool true)] ∧ (s.fn H (ds ++ [])).args = ds ∧ (s.fn H (ds ++ [])).vars = [])
  (hW : DataW.Whole enc P f.params.toList s.vars false W args.toList ds gs before) (hx : Ext W W') : s.post enc P f false true false false W args (.bool true) W' := by
 have hW' := hW
 obtain ⟨p, q, hA, hV, rfl, _, _⟩ := hW
 rw [hv] at hV
 obtain ⟨rfl, rfl⟩ := trodVars_none hV
 have hA : DataW.TrodAll enc P W 0 (fun _ => true) true f.params.toList args.toList ds p := hA
 have hlen := trodAll_length hA
 obtain ⟨f1, f2, f3⟩ := hfn ds (hlen.2.trans hn)
 refine ⟨ds, [], p ++ [], [], p, [], hW', ?_, ?_, ?_, Below.frame hx _, fun h => by cases h⟩
 ·rw [f1, hr]
  exact trodAll_mk1 (shut_bool hB _)
 ·rw [f2]
  exact zzE hl hx hp hA fun x hxp => by simpa using hW'.lt x (by simp [hxp])
 ·rw [f3, hv]; exact rfl
variable {b0 : Nat} {T E : TypeId} {v : Value}
theorem yrH {fits : TypeId → Bool} : ∀ {d : Nat} {e : TypeId} {count off n : Nat}, rowAt P fits d e count off n = true → off ≤ count * P.cellsOf e
 | 0, _, _, _, _, h => by simp [rowAt] at h
 | d + 1, e, count, off, n, h => by
  unfold rowAt at h
  by_cases hs : P.cellsOf e = 0
  ·simp [hs] at h
  ·have hd := Nat.div_add_mod off (P.cellsOf e)
   have hm := Nat.mod_lt off (Nat.pos_of_ne_zero hs)
   simp only [hs, if_false, Bool.or_eq_true, Bool.and_eq_true, decide_eq_true_eq, beq_iff_eq] at h
   rcases h with ⟨⟨h1, h2⟩, _⟩ | ⟨h1, _⟩
   ·have h3 : P.cellsOf e * (off / P.cellsOf e) ≤ P.cellsOf e * count := Nat.mul_le_mul_left _ (by omega)
    rw [Nat.mul_comm count]; omega
   ·have h3 : P.cellsOf e * (off / P.cellsOf e + 1) ≤ P.cellsOf e * count := Nat.mul_le_mul_left _ (by omega)
    rw [Nat.mul_add, Nat.mul_one] at h3
    rw [Nat.mul_comm count]; omega
theorem ydF : ∀ {d : Nat} {e : TypeId} {count off : Nat} {u : TypeId} {n : Nat}, liesAt P d e count off u n = true → off ≤ count * P.cellsOf e
 | 0, _, _, _, _, _, h => by simp [liesAt] at h
 | d + 1, e, count, off, u, n, h => by
  unfold liesAt at h
  rw [Bool.or_eq_true] at h
  rcases h with h | h
  ·exact yrH h
  ·split at h
   ·exact ydF h
   ·cases h
theorem ypW {a : Addr} {len cap : Nat} (hu : P.underlying T = some (.slice E)) (h : Value.okWide P W .any b0 T (.slice (some a) len cap)) :
  a.spot = none ∧ ∃ cs R fz, W.heap[a.block]? = some (.cells cs R fz) ∧ a.off ≤ cs.size := by
 simp only [Value.okWide, Cell.okWide, Cell.ok, hu] at h
 obtain ⟨_, _, _, h2, row, cells, h3, h4⟩ := h
 refine ⟨h2, ?_⟩
 unfold World.shape? at h3
 split at h3
 ·rename_i c elem fz hb
  simp only [Option.some.injEq, Prod.mk.injEq] at h3
  obtain ⟨rfl, rfl⟩ := h3
  have h5 := ydF h4
  have h6 := Nat.div_mul_le_self c.size (P.cellsOf elem)
  exact ⟨c, _, fz, hb, by omega⟩
 ·cases h3
theorem ok_slice (hu : P.underlying T = some (.slice E)) (h : Value.okWide P W .any b0 T v) : v = .slice none 0 0 ∨ ∃ a len cap, v = .slice (some a) len cap := by
 simp only [Value.okWide, Cell.okWide, Cell.ok, hu] at h
 cases v with
 | slice a len cap =>
  cases a with
  | none =>
   left
   cases len with
   | zero => cases cap with
    | zero => rfl
    | succ n => simp at h
   | succ n => simp at h
  | some a => exact .inr ⟨a, len, cap, rfl⟩
 | _ => simp at h
theorem yhF {l r : List (DataW H)} : Rows.uptoBulkAll (l ++ r) = Rows.uptoBulkAll l + Rows.uptoBulkAll r := by
 induction l with
 | nil => simp [Rows.uptoBulkAll]
 | cons x l ih => simp only [List.cons_append, Rows.uptoBulkAll, ih]; omega
end
end
end Go.Proofs.YtebbcofojchkpaaGreatDoor
namespace Go.Proofs.YtebbcofojchkpaaGreatDoor.Am
open Go Go.RowKit Go.ChangeShapes Go.WideShapes Go.ChangeAt
def dsz : (t : Ty) → den t → Nat
 | .s, x => List.length x + 1
 | .pr a c, x => dsz a x.1 + dsz c x.2
 | .un, _ => 0
 | .sl e, x => (List.map (dsz e) x).sum + 1
 | _, _ => 1
def fOk (q : TypeId → Ty → Bool) (c : TypeId → Nat) : List Field → Nat → Ty → Bool
 | [], _, t => match t with
  | .un => true
  | _ => false
 | [f], off, t => (q f.type t && (Nat.beq f.offset off && Nat.beq (c f.type) (tsz t))) || (match t with
  | .pr a .un => q f.type a && (Nat.beq f.offset off && Nat.beq (c f.type) (tsz a))
  | _ => false)
 | f :: g :: fs, off, t => match t with
  | .pr a r => (q f.type a && (Nat.beq f.offset off && Nat.beq (c f.type) (tsz a))) && fOk q c (g :: fs) (off + tsz a) r
  | _ => false
def tyOk (P : Program) : Nat → TypeId → Ty → Bool
 | 0, _, _ => false
 | n + 1, T, t => match P.underlying T, t with
  | some (.int k), .i k' => (ikEq k k').isSome
  | some .bool, .b => true
  | some .string, .s => true
  | some (.slice E), .sl e => tyOk P n E e && (Nat.beq (P.cellsOf E) (tsz e) && Nat.blt 0 (tsz e))
  | some (.struct fs), t => (Nat.beq (P.cellsOf T) (tsz t) && !(one t)) && fOk (tyOk P n) P.cellsOf fs.toList 0 t
  | _, _ => false
section
variable {H : Type} {enc : TypeId × Value → H} {P : Program} {W : World} {sp : Nat → Bool} {S : Mem}
theorem yyZ : ∀ {k : IntKind} {n : Int}, (Lit.int k n).wf = true → toI k (ofI k n) = n := fun {k n} h => by
 rw [ykN]
 cases k <;> simp [Lit.wf, IntKind.has, IntKind.min, IntKind.max, IntKind.signed, IntKind.bits] at h <;> simp [IntKind.wrap, IntKind.signed, IntKind.bits] <;> omega
theorem yeW {a c : Ty} {cs : LV} {x : den a} {y : den c} (hx : rep a S (cs.take (tsz a)) x) (hy : rep c S (cs.drop (tsz a)) y) : rep (.pr a c) S cs (x, y) :=
 ⟨_, _, (List.take_append_drop (tsz a) cs).symm, hx, hy⟩
theorem ysR : rep .un S ([] : LV) () := rfl
theorem ydV {q : TypeId → Ty → Bool} {fuel : Nat} (hq : ∀ (T : TypeId) (t : Ty), q T t = true → ∀ cs d ps, DataW.trod enc P W 0 sp true fuel T cs = some (d, ps) → ∃ x : den t, rep t S cs x ∧ dsz t x ≤ Rows.uptoBulk d) {cs : LV} :
  ∀ (fs : List Field) (off : Nat) (t : Ty) (xs : List (DataW H × List MemPlace)), fOk q P.cellsOf fs off t = true → cs.length = off + tsz t →
   A2 (fun (f : Field) y => DataW.trod enc P W 0 sp true fuel f.type ((cs.drop f.offset).take (P.cellsOf f.type)) = some y) fs xs →
   ∃ x : den t, rep t S (cs.drop off) x ∧ dsz t x ≤ Rows.uptoBulkAll (xs.map (·.1))
 | [], off, t, xs, h, hl, hA => by
  cases t <;> simp only [fOk] at h <;> try (cases h; done)
  cases hA
  refine ⟨(), ?_, Nat.zero_le _⟩
  rw [List.drop_eq_nil_of_le (by rw [hl]; exact Nat.le_refl _)]
  exact ysR
 | [f], off, t, xs, h, hl, hA => by
  cases hA with
  | @cons _ y _ _ h1 h2 =>
   cases h2
   simp only [fOk, Bool.or_eq_true] at h
   rcases h with h | h
   ·rw [Bool.and_eq_true, Bool.and_eq_true] at h
    obtain ⟨h0, h2, h3⟩ := h
    have h2 := Nat.eq_of_beq_eq_true h2
    have h3 := Nat.eq_of_beq_eq_true h3
    obtain ⟨x, hx, hd⟩ := hq _ _ h0 _ _ _ h1
    refine ⟨x, ?_, by simp only [List.map_cons, List.map_nil, Rows.uptoBulkAll]; omega⟩
    rw [h2, h3, List.take_of_length_le (by rw [List.length_drop]; omega)] at hx
    exact hx
   ·cases t with
    | pr a c =>
     cases c with
     | un =>
      rw [Bool.and_eq_true, Bool.and_eq_true] at h
      obtain ⟨h0, h2, h3⟩ := h
      have h2 := Nat.eq_of_beq_eq_true h2
      have h3 := Nat.eq_of_beq_eq_true h3
      obtain ⟨x, hx, hd⟩ := hq _ _ h0 _ _ _ h1
      rw [h2, h3] at hx
      have hl : cs.length = off + tsz a := hl
      refine ⟨(x, ()), yeW hx ?_, by simp only [List.map_cons, List.map_nil, Rows.uptoBulkAll]; show dsz a x + 0 ≤ _; omega⟩
      rw [List.drop_eq_nil_of_le (by rw [List.length_drop]; omega)]
      exact ysR
     | _ => simp at h
    | _ => simp at h
 | f :: g :: fs, off, t, xs, h, hl, hA => by
  cases t with
  | pr a r =>
   simp only [fOk] at h
   rw [Bool.and_eq_true, Bool.and_eq_true, Bool.and_eq_true] at h
   obtain ⟨⟨h1, h2, h3⟩, h4⟩ := h
   have h2 := Nat.eq_of_beq_eq_true h2
   have h3 := Nat.eq_of_beq_eq_true h3
   have hl : cs.length = off + (tsz a + tsz r) := hl
   cases hA with
   | @cons _ y _ ys g1 g2 =>
    obtain ⟨x, hx, hd⟩ := hq _ _ h1 _ _ _ g1
    obtain ⟨z, hz, he⟩ := ydV hq (g :: fs) (off + tsz a) r ys h4 (by omega) g2
    rw [h2, h3] at hx
    refine ⟨(x, z), yeW hx (by rw [List.drop_drop]; exact hz), ?_⟩
    simp only [List.map_cons, Rows.uptoBulkAll]
    show dsz a x + dsz r z ≤ _
    omega
  | _ => simp [fOk] at h
theorem ytD {α β : Type} {R : α → β → Prop} : ∀ {l : List α} {m : List β}, l.length = m.length → (∀ (i : Nat) (a : α) (b : β), l[i]? = some a → m[i]? = some b → R a b) → A2 R l m
 | [], [], _, _ => .nil
 | [], _ :: _, h, _ => by cases h
 | _ :: _, [], h, _ => by cases h
 | a :: l, b :: m, h, hR => .cons (hR 0 a b rfl rfl) (ytD (by simpa using h) fun i a b ha hb => hR (i + 1) a b (by simpa using ha) (by simpa using hb))
theorem ynP {e : Ty} : ∀ {xs : List (den e)} {cs ds : LV} {x : den e}, @RL (den e) (rpD e) S cs xs → rep e S ds x → @RL (den e) (rpD e) S (cs ++ ds) (xs ++ [x])
 | [], cs, ds, x, h, hx => by
  have h : cs = [] := h
  subst h
  exact ⟨ds, [], by simp, hx, rfl⟩
 | y :: xs, cs, ds, x, h, hx => by
  obtain ⟨c, d, rfl, h1, h2⟩ := h
  exact ⟨c, d ++ ds, by simp, h1, ynP h2 hx⟩
theorem xbV {T E : TypeId} {e : Ty} {fuel : Nat} (hu : P.underlying T = some (.slice E)) (hc : P.cellsOf E = tsz e) (hz : 0 < tsz e) (hq : ∀ (m : Nat) (cs : LV) (d : DataW H) (ps : List MemPlace), DataW.trod enc P W 0 (fun _ => true) true m E cs = some (d, ps) → ∃ x : den e, rep e (znN W) cs x ∧ dsz e x ≤ Rows.uptoBulk d) {cs : LV} {d : DataW H} {ps : List MemPlace} (hd : DataW.trod enc P W 0 (fun _ => true) true fuel T cs = some (d, ps)) :
  ∃ xs : List (den e), rep (.sl e) (znN W) cs xs ∧ dsz (.sl e) xs ≤ Rows.uptoBulk d := by
 rcases DataW.trod_slice hu hd with ⟨rfl, h2⟩ | ⟨a, len, cap, elems, rest, m, rfl, rfl, h2, _, hlc, _, hel, hget, hrest, _⟩
 ·cases h2
  exact ⟨[], ⟨_, rfl, [], .inl ⟨⟨none, rfl⟩, rfl, rfl⟩, rfl⟩, Nat.le_refl _⟩
 ·cases h2
  by_cases hcap : cap = 0
  ·subst hcap
   obtain rfl : len = 0 := by omega
   refine ⟨[], ⟨_, rfl, [], .inl ⟨⟨some a, rfl⟩, rfl, rfl⟩, rfl⟩, ?_⟩
   show 0 + 1 ≤ _
   simp only [Rows.uptoBulk]
   omega
  have h0 : ∃ us, W.cells? 0 a (P.cellsOf E) = some us := by
   by_cases hl0 : len = 0
   ·subst hl0
    obtain ⟨g1, g2⟩ := hrest rfl
    have g3 := g2 0 (by omega)
    rw [List.getElem?_eq_getElem (by omega : 0 < rest.length)] at g3
    obtain ⟨us, hus, _⟩ := Option.bind_eq_some_iff.1 g3
    rw [show a.add ((0 + 0) * P.cellsOf E) = a by simp [Addr.add]] at hus
    exact ⟨us, hus⟩
   ·have g3 := hget 0 (by omega)
    rw [List.getElem?_eq_getElem (by omega : 0 < elems.length)] at g3
    obtain ⟨us, hus, _⟩ := Option.bind_eq_some_iff.1 g3
    rw [show a.add (0 * P.cellsOf E) = a by simp [Addr.add]] at hus
    exact ⟨us, hus⟩
  obtain ⟨us, hus⟩ := h0
  obtain ⟨_, hul, huc⟩ := World.cells?_some hus
  have hc0 := huc 0 (by omega)
  rw [show a.add 0 = a by simp [Addr.add], List.getElem?_eq_getElem (by omega : 0 < us.length)] at hc0
  obtain ⟨blk, off, spot⟩ := a
  obtain ⟨cs, R, fz, hb, hsp, ho⟩ : ∃ cs R fz, W.heap[blk]? = some (.cells cs R fz) ∧ spot = none ∧ off ≤ cs.size := by
   unfold World.cell? at hc0
   dsimp only at hc0
   split at hc0
   ·rename_i c R fz hb
    cases spot with
    | some s => simp at hc0
    | none =>
     rw [if_neg (by simp)] at hc0
     have := (Array.getElem?_eq_some_iff.1 hc0).1
     exact ⟨c, R, fz, hb, rfl, Nat.le_of_lt this⟩
   ·cases hc0
  subst hsp
  have ad : ∀ j, (⟨blk, off, none⟩ : Addr).add j = ⟨blk, off + j, none⟩ := fun j => by simp [Addr.add]
  have each : ∀ i, i < len → ∃ y x, elems[i]? = some y ∧ rep e (znN W) (piece cs.toList (off + i * tsz e) (tsz e)) x ∧ dsz e x ≤ Rows.uptoBulk y.1 ∧ off + (i + 1) * tsz e ≤ cs.toList.length := fun i hi => by
   have hg := hget i hi
   obtain ⟨y, hy⟩ : ∃ y, elems[i]? = some y := ⟨_, List.getElem?_eq_getElem (by omega)⟩
   rw [hy] at hg
   obtain ⟨us, hus, hg⟩ := Option.bind_eq_some_iff.1 hg
   obtain ⟨_, hul, huc⟩ := World.cells?_some hus
   obtain ⟨x, hx, hdx⟩ := hq m us y.1 y.2 hg
   rw [hc, ad] at huc
   rw [hc] at hul
   have hcell : ∀ j, j < tsz e → cs.toList[off + i * tsz e + j]? = us[j]? := fun j hj => by
    have := huc j hj
    rw [show (⟨blk, off + i * tsz e, none⟩ : Addr).add j = ⟨blk, off + i * tsz e + j, none⟩ by simp [Addr.add]] at this
    simp only [World.cell?, hb, Option.isSome_none, if_neg (show ¬ (false = true) by decide)] at this
    simpa using this
   have hlen : off + (i + 1) * tsz e ≤ cs.toList.length := by
    have h1 := hcell (tsz e - 1) (by omega)
    rw [List.getElem?_eq_getElem (by omega : tsz e - 1 < us.length)] at h1
    have := (List.getElem?_eq_some_iff.1 h1).1
    rw [Nat.add_mul]; omega
   refine ⟨y, x, hy, ?_, hdx, hlen⟩
   have : piece cs.toList (off + i * tsz e) (tsz e) = us := by
    apply List.ext_getElem?
    intro j
    rw [zaG, List.getElem?_take]
    by_cases hj : j < tsz e
    ·rw [if_pos hj, List.getElem?_drop]; exact hcell j hj
    ·rw [if_neg hj, List.getElem?_eq_none (by omega)]
   rw [this]; exact hx
  have key : ∀ k, k ≤ len → ∃ xs : List (den e), xs.length = k ∧ @RL (den e) (rpD e) (znN W) (piece cs.toList off (k * tsz e)) xs ∧ (List.map (dsz e) xs).sum ≤ Rows.uptoBulkAll ((elems.take k).map (·.1)) := by
   intro k
   induction k with
   | zero => intro _; exact ⟨[], rfl, by simp [piece, RL], Nat.zero_le _⟩
   | succ k ih =>
    intro hk
    obtain ⟨xs, h1, h2, h3⟩ := ih (by omega)
    obtain ⟨y, x, g1, g2, g3, _⟩ := each k (by omega)
    refine ⟨xs ++ [x], by simp [h1], ?_, ?_⟩
    ·have e2 : piece cs.toList off ((k + 1) * tsz e) = piece cs.toList off (k * tsz e) ++ piece cs.toList (off + k * tsz e) (tsz e) := by
      rw [zaG, zaG, zaG, Nat.add_mul, Nat.one_mul, List.take_add, List.drop_drop]
     rw [e2]
     exact ynP h2 g2
    ·rw [List.take_add_one, g1]
     simp only [Option.toList_some, List.map_append, List.map_cons, List.map_nil, List.sum_append, List.sum_cons, List.sum_nil, yhF, Rows.uptoBulkAll]
     omega
  obtain ⟨xs, h1, h2, h3⟩ := key len (Nat.le_refl _)
  have hfit : off + len * tsz e ≤ cs.toList.length := by
   rcases Nat.eq_zero_or_pos len with h0 | h0
   ·subst h0; rw [Array.length_toList]; omega
   ·obtain ⟨_, _, _, _, _, h4⟩ := each (len - 1) (by omega)
    rwa [Nat.sub_add_cancel h0] at h4
  refine ⟨xs, ⟨_, rfl, piece cs.toList off (len * tsz e), ?_, h2⟩, ?_⟩
  ·right
   refine ⟨blk, off, cap, cs.toList, R, fz, ?_, by rw [h1]; exact hlc, by simpa [znN] using hb, ?_, ?_⟩
   ·rw [h1]
   ·rw [h1]; show _ + _ * (rpD e).sz ≤ _; rw [zjK]; exact hfit
   ·rw [h1]; show piece _ _ (_ * (rpD e).sz) = _; rw [zjK]
  ·rw [List.take_of_length_le (by omega)] at h3
   show (List.map (dsz e) xs).sum + 1 ≤ _
   simp only [Rows.uptoBulk]
   omega
theorem ycU : ∀ (n : Nat) (T : TypeId) (t : Ty), tyOk P n T t = true → ∀ (fuel : Nat) (cs : LV) (d : DataW H) (ps : List MemPlace), DataW.trod enc P W 0 (fun _ => true) true fuel T cs = some (d, ps) → ∃ x : den t, rep t (znN W) cs x ∧ dsz t x ≤ Rows.uptoBulk d
 | 0, _, _, h, _, _, _, _, _ => by cases h
 | n + 1, T, t, h, fuel, cs, d, ps, hd => by
  unfold tyOk at h
  split at h
  ·rename_i k k' hu
   obtain ⟨hk, _⟩ := Option.isSome_iff_exists.1 h
   obtain rfl := hk.down
   obtain ⟨m, rfl, he, hw⟩ := DataW.trod_int hu hd
   cases he
   exact ⟨ofI _ m, (by show [Value.int _ m] = [.int _ (toI _ (ofI _ m))]; rw [yyZ hw]), Nat.le_refl 1⟩
  ·rename_i hu
   obtain ⟨b, rfl, he⟩ := DataW.trod_bool hu hd
   cases he
   exact ⟨b, rfl, Nat.le_refl 1⟩
  ·rename_i hu
   obtain ⟨s, rfl, he, _⟩ := DataW.trod_string hu hd
   cases he
   exact ⟨s.data.toList, (by show [Value.string s] = [str s.data.toList]; simp [str]), Nat.le_refl _⟩
  ·rename_i E e hu
   rw [Bool.and_eq_true, Bool.and_eq_true] at h
   obtain ⟨h1, h2, h3⟩ := h
   exact xbV hu (Nat.eq_of_beq_eq_true h2) (by rw [zkE] at h3; simpa using h3) (fun m cs d ps hd => ycU n E e h1 m cs d ps hd) hd
  ·rename_i fs hu
   rw [Bool.and_eq_true, Bool.and_eq_true] at h
   obtain ⟨⟨h1, _⟩, h2⟩ := h
   have h1 := Nat.eq_of_beq_eq_true h1
   obtain ⟨xs, fuel, rfl, he, hl, hxl, hm⟩ := DataW.trod_struct hu hd
   cases he
   obtain ⟨x, hx, hb⟩ := ydV (S := znN W) (fuel := fuel) (fun T' t' hq cs d ps => ycU n T' t' hq fuel cs d ps) fs.toList 0 _ xs h2 (by rw [hl, h1]; omega) (ytD (by simp [hxl]) fun i f y hf hy => (hm i f (by simpa using hf)).trans hy)
   exact ⟨x, by simpa using hx, by simp only [Rows.uptoBulk]; omega⟩
  ·cases h
variable {b0 : Nat} {T E : TypeId} {v : Value}
theorem ypX {n : Nat} {e : Ty} (hu : P.underlying T = some (.slice E)) (he : tyOk P n E e = true) (hc : P.cellsOf E = tsz e) (hz : 0 < tsz e) (h : Value.okWide P W .any b0 T v) {d : DataW H} {ps : List MemPlace} (hd : DataW.Trod enc P W 0 (fun _ => true) true T v d ps) :
  ∃ xs : List (den e), @RdS (den e) (rpD e) (znN W) v xs ∧ dsz (.sl e) xs ≤ Rows.uptoBulk d := by
 obtain ⟨fuel, hf⟩ := hd
 have hv := ok_slice hu h
 have hcells : v.cells.toList = [v] := by
  rcases hv with rfl | ⟨a, len, cap, rfl⟩ <;> rfl
 rw [hcells] at hf
 rcases DataW.trod_slice hu hf with ⟨h1, h2⟩ | ⟨a, len, cap, elems, rest, m, rfl, h1, h2, _, hlc, _, hel, hget, _, _⟩
 ·simp only [List.cons.injEq, and_true] at h1
  subst h1
  cases h2
  exact ⟨[], ⟨[], .inl ⟨⟨none, rfl⟩, rfl, rfl⟩, rfl⟩, Nat.le_refl _⟩
 ·simp only [List.cons.injEq, and_true] at h1
  subst h1
  cases h2
  obtain ⟨hsp, cs, R, fz, hb, ho⟩ := ypW hu h
  obtain ⟨blk, off, spot⟩ := a
  dsimp only at hsp hb ho
  subst hsp
  have ad : ∀ j, (⟨blk, off, none⟩ : Addr).add j = ⟨blk, off + j, none⟩ := fun j => by simp [Addr.add]
  have each : ∀ i, i < len → ∃ y x, elems[i]? = some y ∧ rep e (znN W) (piece cs.toList (off + i * tsz e) (tsz e)) x ∧ dsz e x ≤ Rows.uptoBulk y.1 ∧ off + (i + 1) * tsz e ≤ cs.toList.length := fun i hi => by
   have hg := hget i hi
   obtain ⟨y, hy⟩ : ∃ y, elems[i]? = some y := ⟨_, List.getElem?_eq_getElem (by omega)⟩
   rw [hy] at hg
   obtain ⟨us, hus, hg⟩ := Option.bind_eq_some_iff.1 hg
   obtain ⟨_, hul, huc⟩ := World.cells?_some hus
   obtain ⟨x, hx, hdx⟩ := ycU n E e he m us y.1 y.2 hg
   rw [hc, ad] at huc
   rw [hc] at hul
   have hcell : ∀ j, j < tsz e → cs.toList[off + i * tsz e + j]? = us[j]? := fun j hj => by
    have := huc j hj
    rw [show (⟨blk, off + i * tsz e, none⟩ : Addr).add j = ⟨blk, off + i * tsz e + j, none⟩ by simp [Addr.add]] at this
    simp only [World.cell?, hb, Option.isSome_none, if_neg (show ¬ (false = true) by decide)] at this
    simpa using this
   have hlen : off + (i + 1) * tsz e ≤ cs.toList.length := by
    have h1 := hcell (tsz e - 1) (by omega)
    rw [List.getElem?_eq_getElem (by omega : tsz e - 1 < us.length)] at h1
    have := (List.getElem?_eq_some_iff.1 h1).1
    rw [Nat.add_mul]; omega
   refine ⟨y, x, hy, ?_, hdx, hlen⟩
   have : piece cs.toList (off + i * tsz e) (tsz e) = us := by
    apply List.ext_getElem?
    intro j
    rw [zaG, List.getElem?_take]
    by_cases hj : j < tsz e
    ·rw [if_pos hj, List.getElem?_drop]; exact hcell j hj
    ·rw [if_neg hj, List.getElem?_eq_none (by omega)]
   rw [this]; exact hx
  have key : ∀ k, k ≤ len → ∃ xs : List (den e), xs.length = k ∧ @RL (den e) (rpD e) (znN W) (piece cs.toList off (k * tsz e)) xs ∧ (List.map (dsz e) xs).sum ≤ Rows.uptoBulkAll ((elems.take k).map (·.1)) := by
   intro k
   induction k with
   | zero => intro _; exact ⟨[], rfl, by simp [piece, RL], Nat.zero_le _⟩
   | succ k ih =>
    intro hk
    obtain ⟨xs, h1, h2, h3⟩ := ih (by omega)
    obtain ⟨y, x, g1, g2, g3, _⟩ := each k (by omega)
    refine ⟨xs ++ [x], by simp [h1], ?_, ?_⟩
    ·have e2 : piece cs.toList off ((k + 1) * tsz e) = piece cs.toList off (k * tsz e) ++ piece cs.toList (off + k * tsz e) (tsz e) := by
      rw [zaG, zaG, zaG, Nat.add_mul, Nat.one_mul, List.take_add, List.drop_drop]
     rw [e2]
     exact ynP h2 g2
    ·rw [List.take_add_one, g1]
     simp only [Option.toList_some, List.map_append, List.map_cons, List.map_nil, List.sum_append, List.sum_cons, List.sum_nil, yhF, Rows.uptoBulkAll]
     omega
  obtain ⟨xs, h1, h2, h3⟩ := key len (Nat.le_refl _)
  have hfit : off + len * tsz e ≤ cs.toList.length := by
   rcases Nat.eq_zero_or_pos len with h0 | h0
   ·subst h0; rw [Array.length_toList]; omega
   ·obtain ⟨_, _, _, _, _, h4⟩ := each (len - 1) (by omega)
    rwa [Nat.sub_add_cancel h0] at h4
  refine ⟨xs, ⟨piece cs.toList off (len * tsz e), ?_, h2⟩, ?_⟩
  ·right
   refine ⟨blk, off, cap, cs.toList, R, fz, ?_, by rw [h1]; exact hlc, by simpa [znN] using hb, ?_, ?_⟩
   ·rw [h1]
   ·rw [h1]; show _ + _ * (rpD e).sz ≤ _; rw [zjK]; exact hfit
   ·rw [h1]; show piece _ _ (_ * (rpD e).sz) = _; rw [zjK]
  ·rw [List.take_of_length_le (by omega)] at h3
   show (List.map (dsz e) xs).sum + 1 ≤ _
   simp only [Rows.uptoBulk]
   omega
def yzT (P : Program) (T : TypeId) (t : Ty) : Bool := match P.underlying T, t with
 | some (.slice E), .sl e => tyOk P 8 E e && (Nat.beq (P.cellsOf E) (tsz e) && Nat.blt 0 (tsz e))
 | _, t => tyOk P 8 T t
theorem xbW {t : Ty} (ha : yzT P T t = true) (h : Value.okWide P W .any b0 T v) {d : DataW H} {ps : List MemPlace} (hd : DataW.Trod enc P W 0 (fun _ => true) true T v d ps) :
  ∃ x : den t, rep1 t (znN W) v x ∧ dsz t x ≤ Rows.uptoBulk d := by
 unfold yzT at ha
 split at ha
 ·rename_i E e hu
  rw [Bool.and_eq_true, Bool.and_eq_true] at ha
  obtain ⟨h1, h2, h3⟩ := ha
  obtain ⟨xs, g1, g2⟩ := ypX hu h1 (Nat.eq_of_beq_eq_true h2) (by rw [zkE] at h3; simpa using h3) h hd
  exact ⟨xs, ⟨v, rfl, g1⟩, g2⟩
 ·obtain ⟨fuel, hf⟩ := hd
  obtain ⟨x, hx, hb⟩ := ycU 8 T _ ha fuel _ _ _ hf
  refine ⟨x, ?_, hb⟩
  unfold rep1
  unfold tyOk at ha
  split at ha
  ·rename_i hu
   have hv : v.cells.toList = [v] := by
    simp only [Value.okWide, hu, Cell.okWide, Cell.ok] at h
    cases v <;> simp_all <;> rfl
   rw [hv] at hx
   rw [if_pos (show one (.i _) = true from rfl)]; exact hx
  ·rename_i hu
   have hv : v.cells.toList = [v] := by
    simp only [Value.okWide, hu, Cell.okWide, Cell.ok] at h
    cases v <;> simp_all <;> rfl
   rw [hv] at hx
   rw [if_pos (show one .b = true from rfl)]; exact hx
  ·rename_i hu
   have hv : v.cells.toList = [v] := by
    simp only [Value.okWide, hu, Cell.okWide, Cell.ok] at h
    cases v <;> simp_all <;> rfl
   rw [hv] at hx
   rw [if_pos (show one .s = true from rfl)]; exact hx
  ·rename_i hu hno
   exact (hno _ _ hu rfl).elim
  ·rename_i fs hu _
   rw [Bool.and_eq_true, Bool.and_eq_true] at ha
   simp only [Value.okWide, hu] at h
   obtain ⟨cs, rfl, _, _⟩ := h
   rw [if_neg (by simpa using ha.1.2)]
   exact ⟨cs.toList, by simp, hx⟩
  ·cases ha
def posT : Ty → Bool
 | .un => false
 | .pr a c => posT a || posT c
 | _ => true
theorem yfF : ∀ {e : Ty}, posT e = true → ∀ x : den e, 1 ≤ dsz e x
 | .i _, _, _ => Nat.le_refl 1
 | .b, _, _ => Nat.le_refl 1
 | .s, _, _ => Nat.le_add_left 1 _
 | .er, _, _ => Nat.le_refl 1
 | .sl _, _, _ => Nat.le_add_left 1 _
 | .mp _ _, _, _ => Nat.le_refl 1
 | .pr a c, h, x => by
  show 1 ≤ dsz a x.1 + dsz c x.2
  have h : (posT a || posT c) = true := h
  rw [Bool.or_eq_true] at h
  rcases h with h | h
  ·have := yfF h x.1; omega
  ·have := yfF h x.2; omega
theorem ycC {e : Ty} (he : posT e = true) : ∀ xs : List (den e), xs.length + 1 ≤ dsz (.sl e) xs
 | [] => Nat.le_refl 1
 | x :: xs => by
  have h1 := yfF he x
  have h2 : xs.length + 1 ≤ (List.map (dsz e) xs).sum + 1 := ycC he xs
  show (x :: xs).length + 1 ≤ (List.map (dsz e) (x :: xs)).sum + 1
  simp only [List.length_cons, List.map_cons, List.sum_cons]
  omega
theorem xdT {t : Ty} {S : Mem} {E : List EI} {v : Value} {x : den t} (h : rep1 t S v x) : VR S E (svOf t x) v := yoC (l := [t]) h
end
end Go.Proofs.YtebbcofojchkpaaGreatDoor.Am
namespace Go.Proofs.YtebbcofojchkpaaGreatDoor.Am
open Go Go.RowKit
theorem xaO {nx : Int} {es : Es} (h : Ok nx es) {k : Nat} (hk : k < es.length) : es[k].2.1 = es[k].1 := (h.ids _ (List.getElem_mem hk)).1
theorem yhA {e : Ty} {x : den e} : ∀ {xs : List (den e)}, x ∈ xs → dsz e x ≤ dsz (.sl e) xs
 | y :: ys, h => by
  show _ ≤ (List.map (dsz e) (y :: ys)).sum + 1
  simp only [List.map_cons, List.sum_cons]
  rcases List.mem_cons.1 h with rfl | h
  ·omega
  ·have : dsz e x ≤ (List.map (dsz e) ys).sum + 1 := yhA h
   omega
theorem ywJ {n : Nd} (h : dsz zmE n ≤ 1048576) : NdOk n := by
 obtain ⟨a0, a1, a2, a3, a4, a5, a6, a7, a8, a9, a10, a11, a12, a13, a14⟩ := n
 have h : dsz (.i .i64) a0 + (dsz (.i .i64) a1 + (dsz (.i .i64) a2 + (dsz .s a3 + (dsz .s a4 + (dsz .s a5 + (dsz (.sl .s) a6 + (dsz (.i .i64) a7 + (dsz (.i .i64) a8 + (dsz .b a9 + (dsz .b a10 + (dsz (.sl .s) a11 + (dsz (.i .i64) a12 + (dsz .s a13 + dsz .s a14))))))))))))) ≤ 1048576 := h
 have e3 : dsz .s a3 = a3.length + 1 := rfl
 have e4 : dsz .s a4 = a4.length + 1 := rfl
 have e5 : dsz .s a5 = a5.length + 1 := rfl
 have h6 : a6.length + 1 ≤ dsz (.sl .s) a6 := ycC (e := .s) rfl a6
 have h11 : a11.length + 1 ≤ dsz (.sl .s) a11 := ycC (e := .s) rfl a11
 refine ⟨?_, ?_, ?_, ?_, fun s hs => ?_, ?_, fun s hs => ?_⟩
 ·show a3.length ≤ _; omega
 ·show a4.length ≤ _; omega
 ·show a5.length ≤ _; omega
 ·show a6.length ≤ _; omega
 ·have h1 := yhA (e := .s) hs
  have e : dsz .s s = s.length + 1 := rfl
  have h1 : s.length + 1 ≤ dsz (.sl .s) a6 := h1
  omega
 ·show a11.length ≤ _; omega
 ·have h1 : s.length + 1 ≤ dsz (.sl .s) a11 := yhA (e := .s) hs
  omega
theorem xcS {o : OpT} (h : dsz zxW o ≤ 1048576) : NdOk o.2.2.2.2.2 := by
 obtain ⟨a, b, c, d, e, n⟩ := o
 have h : dsz (.i .i64) a + (dsz (.i .i64) b + (dsz (.i .i64) c + (dsz (.i .i64) d + (dsz .s e + dsz zmE n)))) ≤ 1048576 := h
 have h2 : dsz zmE n ≤ 1048576 := by omega
 exact ywJ h2
theorem ysT {l : List OpT} (h : dsz (.sl zxW) l ≤ 1048576) : l.length ≤ 1048576 ∧ ∀ o ∈ l, NdOk o.2.2.2.2.2 := by
 have h1 : l.length + 1 ≤ dsz (.sl zxW) l := ycC (e := zxW) rfl l
 refine ⟨by omega, fun o ho => xcS ?_⟩
 have h2 : dsz zxW o ≤ dsz (.sl zxW) l := yhA (e := zxW) ho
 omega
def zjA (es : Es) (i : Int) : Bool := match mget keqI es i with
 | none => true
 | some n => zpH n || zpP es i
theorem zzM {es : Es} {i : Int} (h : zjA es i = true) (now : Int) : zuU es i now = false := by
 unfold zjA at h
 unfold zuU
 cases hm : mget keqI es i with
 | none => rfl
 | some n =>
  rw [hm] at h
  simp only [] at h ⊢
  unfold canB
  cases hs : zpH n <;> cases hd : zpP es i <;> simp_all
theorem yvV {es : Es} {f : Int × Nd → Nd} (k : zyF es f) (hd : ∀ p ∈ es, ycI p.2 = true → ycI (f p) = true) (hs : ∀ p ∈ es, zpH p.2 = true → zpH (f p) = true) {i : Int} (h : zjA es i = true) : zjA (chE es f) i = true := by
 have hD : zpP es i = true → zpP (chE es f) i = true := fun hD => by
  unfold zpP at hD ⊢
  rw [yqE k]
  obtain ⟨j, hj, h2⟩ := List.any_eq_true.1 hD
  refine List.any_eq_true.2 ⟨j, hj, ?_⟩
  unfold zvI at h2 ⊢
  obtain ⟨n, hn, hp⟩ := zlX (yfY _ _ _ hj)
  rw [zhT hn] at h2
  rw [zhT (v := f (j, n)) (by rw [ycM, hn]; rfl)]
  exact hd _ hp h2
 unfold zjA at h ⊢
 rw [ycM]
 cases hm : mget keqI es i with
 | none => rfl
 | some n =>
  rw [hm] at h
  simp only [Option.map_some, Bool.or_eq_true] at h ⊢
  rcases h with h | h
  ·exact .inl (hs _ (zfJ hm) h)
  ·exact .inr (hD h)
theorem ycG {es : Es} (q : Int × Nd → Prop) [DecidablePred q] {g : Nd → Nd} (k : zyF es fun p => if q p then g p.2 else p.2) (hd : ∀ n, ycI n = true → ycI (g n) = true) (hs : ∀ n, zpH n = true → zpH (g n) = true) {i : Int} (h : zjA es i = true) : zjA (chE es fun p => if q p then g p.2 else p.2) i = true :=
 yvV k (fun p _ h => by split; exact hd _ h; exact h) (fun p _ h => by split; exact hs _ h; exact h) h
theorem ysN {nx : Int} {es : Es} (h : Ok nx es) : ∀ (f : Nat) (i j : Int), i.toNat ≤ f → j ∈ pth es f i → ∀ k ∈ ziN es j, k ∈ pth es f i
 | 0, _, _, _, hj => by cases hj
 | f + 1, i, j, hf, hj => by
  rw [zzS] at hj ⊢
  cases hm : mget keqI es i with
  | none => rw [hm] at hj; cases hj
  | some n =>
   rw [hm] at hj
   have hp := zfJ hm
   have h1 := (h.par _ hp).2
   have h2 := (h.ids _ hp).2.1
   simp only at h1 h2 hj ⊢
   rcases List.mem_cons.1 hj with rfl | hj
   ·intro k hk
    rw [yjX h hm] at hk
    unfold ziN at hk
    rw [ybM h (npar n).toNat f (npar n) (Nat.le_refl _) (by omega)] at hk
    exact hk
   ·intro k hk
    exact List.mem_cons_of_mem _ (ysN h f (npar n) j (by omega) hj k hk)
theorem ygV {es fs : Es} : ∀ (f : Nat) (i : Int), (∀ k ∈ pth es f i, mget keqI fs k = mget keqI es k) → (∀ k, mget keqI es k = none → mget keqI fs k = none) → pth fs f i = pth es f i
 | 0, _, _, _ => rfl
 | f + 1, i, h, h0 => by
  rw [zzS, zzS]
  cases hm : mget keqI es i with
  | none => rw [h0 i hm]
  | some n =>
   have h1 : ∀ k, k = i ∨ k ∈ pth es f (npar n) → mget keqI fs k = mget keqI es k := fun k hk => h k (by
    rw [zzS, hm]
    exact List.mem_cons.2 hk)
   rw [h1 i (.inl rfl), hm]
   simp only []
   rw [ygV f (npar n) (fun k hk => h1 k (.inr hk)) h0]
theorem zuH {nx : Int} {es : Es} (h : Ok nx es) (now : Int) {i : Int} (hg : zjA es i = true) : zjA (zbY es now) i = true := by
 have hmg : ∀ k, mget keqI (zbY es now) k = (mget keqI es k).filter fun _ => zrW es now k := fun k => yfK h.rises (fun p => zrW es now p.1) k
 unfold zjA at hg ⊢
 cases hn : zrW es now i with
 | false =>
  rw [hmg, hn]
  cases mget keqI es i <;> rfl
 | true =>
  obtain ⟨p, hp, h2⟩ := List.any_eq_true.1 hn
  rw [Bool.and_eq_true, List.contains_iff_mem] at h2
  have hneed : ∀ k ∈ ziN es i, zrW es now k = true := fun k hk => List.any_eq_true.2 ⟨p, hp, by
   rw [Bool.and_eq_true, List.contains_iff_mem]
   exact ⟨h2.1, ysN h _ p.1 i (Nat.le_refl _) h2.2 k hk⟩⟩
  have hsame : ∀ k ∈ ziN es i, mget keqI (zbY es now) k = mget keqI es k := fun k hk => by
   rw [hmg, hneed k hk]
   cases mget keqI es k <;> rfl
  have hpath : ziN (zbY es now) i = ziN es i := ygV _ _ hsame fun k hk => by rw [hmg, hk]; rfl
  have hdead : zpP (zbY es now) i = zpP es i := by
   unfold zpP
   rw [hpath]
   refine zxT fun k hk => ?_
   unfold zvI zgZ
   rw [hsame k hk]
  rw [hmg, hn, hdead]
  cases hm : mget keqI es i with
  | none => rfl
  | some n =>
   rw [hm] at hg
   exact hg
theorem zxK (nx : Int) (v : Nd) (k : Int) (hk : k ≠ nx) : ∀ (es : Es), mget keqI (es ++ [(nx, v)]) k = mget keqI es k
 | [] => by
  show (bif keqI nx k then some v else none) = none
  rw [yeU fun e => hk e.symm]; rfl
 | (k', v') :: m => by
  show (bif keqI k' k then some v' else mget keqI (m ++ [(nx, v)]) k) = bif keqI k' k then some v' else mget keqI m k
  rw [zxK nx v k hk m]
theorem yqF {nx : Int} {es : Es} (h : Ok nx es) (v : Nd) {i : Int} (hi : i < nx) (hg : zjA es i = true) : zjA (es ++ [(nx, v)]) i = true := by
 have hlow : ∀ (f : Nat) (j : Int), j < nx → pth (es ++ [(nx, v)]) f j = pth es f j ∧ ∀ k ∈ pth es f j, k < nx := by
  intro f
  induction f with
  | zero => intro j _; exact ⟨rfl, fun _ hk => by cases hk⟩
  | succ f ih =>
   intro j hj
   rw [zzS, zzS, zxK nx v j (by omega)]
   cases hm : mget keqI es j with
   | none => exact ⟨rfl, fun _ hk => by cases hk⟩
   | some n =>
    have h1 := (h.par _ (zfJ hm)).2
    simp only at h1
    obtain ⟨e, h2⟩ := ih (npar n) (by omega)
    simp only []
    rw [e]
    refine ⟨rfl, fun k hk => ?_⟩
    rcases List.mem_cons.1 hk with rfl | hk
    ·exact hj
    ·exact h2 k hk
 obtain ⟨hpath, hk⟩ := hlow i.toNat i hi
 have hdead : zpP (es ++ [(nx, v)]) i = zpP es i := by
  unfold zpP
  rw [show ziN (es ++ [(nx, v)]) i = ziN es i from hpath]
  refine zxT fun k hk2 => ?_
  have := hk k hk2
  unfold zvI zgZ
  rw [zxK nx v k (by omega)]
 unfold zjA at hg ⊢
 rw [zxK nx v i (by omega), hdead]
 exact hg
theorem ybK {nx : Int} {es : Es} (h : Ok nx es) (n : Nd) (now : Int) {i : Int} (hi : i < nx) (hg : zjA es i = true) : zjA (zeR n now nx es).2.2.2 i = true := by
 unfold zeR
 cases mayB n with
 | false => exact hg
 | true =>
  simp only [Bool.not_true, cond_false]
  cases (zuE es (nsec n)).isSome with
  | true => exact hg
  | false =>
   simp only [cond_false]
   cases zuS es (npar n) with
   | true => exact hg
   | false =>
    simp only [cond_false]
    cases decide ((zbY es now).length ≥ 256) || decide (nx ≥ 99999999) with
    | true => exact zuH h now hg
    | false => exact yqF (h.pruned now) _ hi (zuH h now hg)
theorem ybH (n : Nd) (now nx : Int) (es : Es) : nx ≤ (zeR n now nx es).2.2.1 ∧ ((zeR n now nx es).2.1 = 0 → (zeR n now nx es).1 = nx ∧ (zeR n now nx es).2.2.1 = nx + 1) ∧ ((zeR n now nx es).2.1 ≠ 0 → (zeR n now nx es).1 = 0) := by
 unfold zeR
 cases mayB n with
 | false => exact ⟨Int.le_refl _, fun h => (by cases h), fun _ => rfl⟩
 | true =>
  cases (zuE es (nsec n)).isSome with
  | true => exact ⟨Int.le_refl _, fun h => (by cases h), fun _ => rfl⟩
  | false =>
   cases zuS es (npar n) with
   | true => exact ⟨Int.le_refl _, fun h => (by cases h), fun _ => rfl⟩
   | false =>
    cases decide ((zbY es now).length ≥ 256) || decide (nx ≥ 99999999) with
    | true => exact ⟨Int.le_refl _, fun h => (by cases h), fun _ => rfl⟩
    | false => exact ⟨by show nx ≤ nx + 1; omega, fun _ => ⟨rfl, rfl⟩, fun h => absurd rfl h⟩
theorem ypC {nx : Int} {es : Es} (h : Ok nx es) (o : OpT) {i : Int} (hi : i < nx) (hg : zjA es i = true) : zjA (zrH o nx es).2 i = true := by
 have hdead : ∀ (q : Int × Nd → Prop) [DecidablePred q], zjA (chE es fun p => if q p then zoA p.2 else p.2) i = true := fun q _ => ycG q (znT q) (fun _ _ => rfl) (fun _ h => h) hg
 unfold zrH
 cases o.2.1 == (0 : Int) with
 | true => exact ybK h _ _ hi hg
 | false =>
  cases o.2.1 == (1 : Int) with
  | true => exact hg
  | false =>
   cases o.2.1 == (2 : Int) with
   | true =>
    show zjA (zwC es _ _).2 i = true
    unfold zwC
    cases mget keqI es o.2.2.1 with
    | none => exact hg
    | some n =>
     simp only []
     cases zpH n with
     | true => exact hdead _
     | false => cases zuU es o.2.2.1 o.2.2.2.1 with
      | true => exact ycG _ (zzI _) (fun _ h => h) (fun _ _ => rfl) hg
      | false => exact hg
   | false =>
    cases o.2.1 == (3 : Int) with
    | true =>
     show zjA (bif mhas keqI es o.2.2.1 then chI es o.2.2.1 zoA else es) i = true
     cases mhas keqI es o.2.2.1 with
     | true => exact hdead _
     | false => exact hg
    | false =>
     cases o.2.1 == (4 : Int) with
     | true => exact hdead _
     | false =>
      cases o.2.1 == (5 : Int) with
      | true =>
       show zjA (ydT es _ _).2 i = true
       unfold ydT
       cases mget keqI es o.2.2.1 with
       | none => exact hg
       | some n =>
        simp only []
        cases (n.2.1 != (1 : Int)) with
        | true => exact hg
        | false =>
         cases hl : inB o.2.2.2.1 1 3 with
         | false => exact hg
         | true =>
          unfold inB at hl
          simp only [Bool.and_eq_true, decide_eq_true_eq] at hl
          exact ycG _ (ydX _ hl.1 hl.2) (fun _ h => h) (fun _ h => h) hg
      | false =>
       cases o.2.1 == (6 : Int) with
       | true =>
        show zjA (ydL es _ _).2 i = true
        unfold ydL
        cases hc : mhas keqI es o.2.2.1 && !decide ((o.2.2.2.2.1.length : Int) > 256) with
        | false => exact hg
        | true =>
         simp only [Bool.and_eq_true, Bool.not_eq_true', decide_eq_false_iff_not] at hc
         exact ycG _ (yaU _ (by omega)) (fun _ h => h) (fun _ h => h) hg
       | false =>
        cases o.2.1 == (7 : Int) with
        | true => exact zuH h _ hg
        | false => exact hg
def τWkS : TE := [(3, ⟨.int .i64, 1, [.v (.i .i64) (show Int from 0)], (.i .i64), 8⟩),
 (4, ⟨.b, 1, [.v .b (show Bool from false)], .b, 1⟩),
 (9, ⟨.s, 1, [.v .s (show Bs from [])], .s, 16⟩),
 (25, ⟨.pt 75, 1, [.nilp], .un, 8⟩),
 (35, ⟨.sl 47, 1, [.nils], (.sl (.pr (.i .i64) (.pr (.i .i64) (.pr (.i .i64) (.pr .s (.pr .s (.pr .s (.pr (.sl .s) (.pr (.i .i64) (.pr (.i .i64) (.pr .b (.pr .b (.pr (.sl .s) (.pr (.i .i64) (.pr .s .s))))))))))))))), 24⟩),
 (41, ⟨.sl 50, 1, [.nils], (.sl (.pr (.i .i64) (.pr (.i .i64) (.pr (.i .i64) (.pr (.i .i64) (.pr .s (.pr (.i .i64) (.pr (.i .i64) (.pr (.i .i64) (.pr .s (.pr .s (.pr .s (.pr (.sl .s) (.pr (.i .i64) (.pr (.i .i64) (.pr .b (.pr .b (.pr (.sl .s) (.pr (.i .i64) (.pr .s .s)))))))))))))))))))), 24⟩),
 (44, ⟨.sl 3, 1, [.nils], (.sl (.i .i64)), 24⟩),
 (47, ⟨.st [(3, 0), (3, 1), (3, 2), (9, 3), (9, 4), (9, 5), (45, 6), (3, 7), (3, 8), (4, 9), (4, 10), (45, 11), (3, 12), (9, 13), (9, 14)], 15, [.v (.i .i64) (show Int from 0), .v (.i .i64) (show Int from 0), .v (.i .i64) (show Int from 0), .v .s (show Bs from []), .v .s (show Bs from []), .v .s (show Bs from []), .nils, .v (.i .i64) (show Int from 0), .v (.i .i64) (show Int from 0), .v .b (show Bool from false), .v .b (show Bool from false), .nils, .v (.i .i64) (show Int from 0), .v .s (show Bs from []), .v .s (show Bs from [])], (.pr (.i .i64) (.pr (.i .i64) (.pr (.i .i64) (.pr .s (.pr .s (.pr .s (.pr (.sl .s) (.pr (.i .i64) (.pr (.i .i64) (.pr .b (.pr .b (.pr (.sl .s) (.pr (.i .i64) (.pr .s .s)))))))))))))), 184⟩),
 (50, ⟨.st [(3, 0), (3, 1), (3, 2), (3, 3), (9, 4), (47, 5)], 20, [.v (.i .i64) (show Int from 0), .v (.i .i64) (show Int from 0), .v (.i .i64) (show Int from 0), .v (.i .i64) (show Int from 0), .v .s (show Bs from []), .v (.i .i64) (show Int from 0), .v (.i .i64) (show Int from 0), .v (.i .i64) (show Int from 0), .v .s (show Bs from []), .v .s (show Bs from []), .v .s (show Bs from []), .nils, .v (.i .i64) (show Int from 0), .v (.i .i64) (show Int from 0), .v .b (show Bool from false), .v .b (show Bool from false), .nils, .v (.i .i64) (show Int from 0), .v .s (show Bs from []), .v .s (show Bs from [])], (.pr (.i .i64) (.pr (.i .i64) (.pr (.i .i64) (.pr (.i .i64) (.pr .s (.pr (.i .i64) (.pr (.i .i64) (.pr (.i .i64) (.pr .s (.pr .s (.pr .s (.pr (.sl .s) (.pr (.i .i64) (.pr (.i .i64) (.pr .b (.pr .b (.pr (.sl .s) (.pr (.i .i64) (.pr .s .s))))))))))))))))))), 232⟩),
 (73, ⟨.map 3 81, 1, [.nilm], (.mp (.i .i64) (.pr (.i .i64) (.pr (.i .i64) (.pr (.i .i64) (.pr .s (.pr .s (.pr .s (.pr (.sl .s) (.pr (.i .i64) (.pr (.i .i64) (.pr .b (.pr .b (.pr (.sl .s) (.pr (.i .i64) (.pr .s .s))))))))))))))), 8⟩),
 (75, ⟨.st [(73, 0), (3, 1)], 2, [.nilm, .v (.i .i64) (show Int from 0)], (.pr (.mp (.i .i64) (.pr (.i .i64) (.pr (.i .i64) (.pr (.i .i64) (.pr .s (.pr .s (.pr .s (.pr (.sl .s) (.pr (.i .i64) (.pr (.i .i64) (.pr .b (.pr .b (.pr (.sl .s) (.pr (.i .i64) (.pr .s .s))))))))))))))) (.i .i64)), 16⟩),
 (81, ⟨.st [(47, 0)], 15, [.v (.i .i64) (show Int from 0), .v (.i .i64) (show Int from 0), .v (.i .i64) (show Int from 0), .v .s (show Bs from []), .v .s (show Bs from []), .v .s (show Bs from []), .nils, .v (.i .i64) (show Int from 0), .v (.i .i64) (show Int from 0), .v .b (show Bool from false), .v .b (show Bool from false), .nils, .v (.i .i64) (show Int from 0), .v .s (show Bs from []), .v .s (show Bs from [])], (.pr (.i .i64) (.pr (.i .i64) (.pr (.i .i64) (.pr .s (.pr .s (.pr .s (.pr (.sl .s) (.pr (.i .i64) (.pr (.i .i64) (.pr .b (.pr .b (.pr (.sl .s) (.pr (.i .i64) (.pr .s .s)))))))))))))), 184⟩)]
theorem τ_okWkS : TEok Tryz.prog τWkS := ykM (by kernel_rfl) (by kernel_rfl)
theorem ytQ : Tryz.prog.follows .mixedOrders = true := by kernel_rfl
theorem ytK {G : List (Nat × Obj)} {o : Ops} [zpM G] [znW G o] {Γ : CT} {η : HT} {f : FuncId} {fn : Func} {c : SC} (hΓ : ∀ B, GB G B → CTok Tryz.prog Γ B) (hf : Tryz.prog.funcs[f]? = some fn) (i : (fn.name == "runtime.NumGoroutine") = false := by kernel_rfl) (j : fn.body.isNone = false := by kernel_rfl) (l : Nat.ble c.I.sl.length fn.ntmps = true := by kernel_rfl) (r : Nat.beq fn.results.toList.length c.nr = true := by kernel_rfl) (e : fnS τWkS Γ η fn c.I c.outs = c.p := by kernel_rfl) : SCok Tryz.prog G f c := witO (G := G) (o := o) <| yvU ytQ τ_okWkS hΓ hf (isFn hf i j) l r e
theorem yyM {G : List (Nat × Obj)} {o : Ops} [zpM G] [znW G o] {Γ : CT} {η : HT} {f : FuncId} {fn : Func} {c : PC} (hΓ : ∀ B, GB G B → CTok Tryz.prog Γ B) (hf : Tryz.prog.funcs[f]? = some fn) (i : (fn.name == "runtime.NumGoroutine") = false := by kernel_rfl) (j : fn.body.isNone = false := by kernel_rfl) (l : Nat.ble c.ash.length fn.ntmps = true := by kernel_rfl) (r : c.cl = false := by kernel_rfl) (e : fnP τWkS Γ η fn c.ash c.rts = c.p := by kernel_rfl) : PCok Tryz.prog G f c := witO (G := G) (o := o) <| yvM ytQ τ_okWkS hΓ hf (isFn hf i j) l r e
abbrev zpC : Type := Int × Int × Int × Bs × Bs × Bs × (List Bs) × Int × Int × Bool × Bool × (List Bs) × Int × Bs × Bs
abbrev yjC : Ty := .pr (.i .i64) (.pr (.i .i64) (.pr (.i .i64) (.pr .s (.pr .s (.pr .s (.pr (.sl .s) (.pr (.i .i64) (.pr (.i .i64) (.pr .b (.pr .b (.pr (.sl .s) (.pr (.i .i64) (.pr .s .s)))))))))))))
abbrev zjL : Type := Int × zpC
abbrev yqA : Type := Int × Int × Int × Int × Bs × zpC
abbrev xaG : Ty := .pr (.i .i64) (.pr (.i .i64) (.pr (.i .i64) (.pr (.i .i64) (.pr .s yjC))))
abbrev yrZ : OSh := .blk 38 [(.h (.sl yjC)), hI]
abbrev zrF : OSh := .mp true (.i .i64) yjC
abbrev zvM : OSh := .blk 75 [(.mpr 1), hI]
abbrev ymT : OSh := .blk 75 [(.mpr 3), hI]
section
variable {tabs : List (Nat × Obj)} [zpM tabs] {o : Ops} [znW tabs o]
def zkX (o : Ops) (v3 : (zpC × Bool × Int × List zjL)) : Option ((Bool × Int × List zjL) ⊕ (Int × List zjL)) :=
 bif (!v3.2.1) then some (.inl (true, v3.2.2)) else (bif v3.1.2.2.2.2.2.2.2.2.2.2.1 then some (.inl (true, v3.2.2)) else some (.inr v3.2.2))
def zhF (o : Ops) (v7 : ((List Int) × Int × List zjL)) (v8 : Int) (v9 : Int) (v10 : List zjL) : Option ((Int × Int × List zjL) ⊕ ((Bool × Int × List zjL) ⊕ (Int × List zjL))) :=
 bif decide (v8 < (v7.1.length : Int)) then ((idx v7.1 v8).bind fun v11 => (zdA o v11 v9 v10).bind fun v12 => bif v12.1.2.2.2.2.2.2.2.2.2.1 then some (.inr (.inl (true, v12.2.2))) else some (.inl (w64 (v8 + 1), v12.2.2))) else some (.inr (.inr (v9, v10)))
def zeW (o : Ops) (v0 : Int) (v1 : Int) (v2 : List zjL) : Option ((Bool × Int × List zjL)) :=
 (zdA o v0 v1 v2).bind fun v3 => (zkX o v3).bind fun v4 => match v4 with
 | .inl v5 => some v5
 | .inr v6 => ((zbD o v0 v6.1 v6.2).bind fun v7 => (iter (fun x => zhF o v7 x.1 x.2.1 x.2.2) ((0 : Int), v7.2)).bind fun v13 => match v13 with
 | .inl v14 => some v14
 | .inr v15 => some (false, v15))
def zlA (o : Ops) : SC := ⟨⟨[(0, (.ptr 0 0)), (1, hI)], [zvM, zrF]⟩, 1, [(none, ⟨[(0, hB)], [zvM, zrF]⟩)], fun x => zeW o x.1 x.2.1 x.2.2⟩
theorem zrK : SCok Tryz.prog tabs 19 (zlA o) := ytK (o := o) (η := [(2000004, .join [] [1] [(some 1000000, ⟨[(4, hB)], [zvM, zrF]⟩), (none, ⟨[(0, (.ptr 0 0))], [zvM, zrF]⟩)]),
 (200006, .loop [] ⟨[(0, (.ptr 0 0)), (8, hI)], [zvM, zrF]⟩ [7] [(some 1000000, ⟨[(4, hB)], [zvM, zrF]⟩), (some 0, ⟨[], [zvM, zrF]⟩)])]) (Γ := ⟨[], [(52, (ziS o)), (25, (zcA o))], false⟩) (ctok trivial ⟨znB, ⟨zdC, trivial⟩⟩) Tryz.func19
noncomputable def zgR (o : Ops) (v0 : zpC) (v5 : (zpC × Bool × Int × List zjL)) : Option ((Int × Int × Int × List zjL) ⊕ (Int × (List zjL) × zpC)) :=
 let v6 : zpC := zgZ keqI v5.2.2.2 v0.2.2.1 ((0 : Int), (0 : Int), (0 : Int), ([] : Bs), ([] : Bs), ([] : Bs), ([] : List Bs), (0 : Int), (0 : Int), false, false, ([] : List Bs), (0 : Int), ([] : Bs), ([] : Bs))
 bif decide (v0.2.2.1 > 0) then (bif (!(mhas keqI v5.2.2.2 v0.2.2.1)) then some (.inl ((0 : Int), (133 : Int), v5.2.2)) else ((zbK o v0.2.2.1 v5.2.2.1 v5.2.2.2).bind fun v7 => bif v7.1 then some (.inl ((0 : Int), (133 : Int), v7.2)) else some (.inr (v7.2.1, v7.2.2, v0)))) else some (.inr (v5.2.2.1, v5.2.2.2, v0))
noncomputable def zkQ (o : Ops) (v10 : Int × (List zjL) × zpC) (v11 : (Int × Int × List zjL)) : Option ((Int × Int × Int × List zjL) ⊕ (Int × (List zjL) × zpC)) :=
 bif decide ((v11.2.2.length : Int) ≥ 256) then some (.inl ((0 : Int), (130 : Int), v11.2)) else (bif decide (v11.2.1 ≥ 99999999) then some (.inl ((0 : Int), (130 : Int), v11.2)) else some (.inr (v11.2.1, v11.2.2, v10.2.2)))
noncomputable def zeG (o : Ops) (v0 : zpC) (v1 : Int) (v2 : Int) (v3 : List zjL) : Option ((Int × Int × Int × List zjL)) :=
 (zeQ o v0).bind fun v4 => bif (!v4) then some ((0 : Int), (131 : Int), v2, v3) else ((zbE o v0.2.2.2.2.2.2.2.2.2.2.2.2.2.1 v2 v3).bind fun v5 => bif v5.2.1 then some ((0 : Int), (132 : Int), v5.2.2) else ((zgR o v0 v5).bind fun v8 => match v8 with
 | .inl v9 => some v9
 | .inr v10 => ((zaX o v1 v10.1 v10.2.1).bind fun v11 => (zkQ o v10 v11).bind fun v12 => match v12 with
 | .inl v13 => some v13
 | .inr v14 => ((zeX o v14.2.2).bind fun v15 => let v16 : List zjL := mset keqI kltI v14.2.1 v14.1 (v14.1, v15.2.1, v15.2.2.1, v15.2.2.2.1, v15.2.2.2.2.1, v15.2.2.2.2.2.1, v15.2.2.2.2.2.2.1, v15.2.2.2.2.2.2.2.1, v15.2.2.2.2.2.2.2.2.1, false, false, v15.2.2.2.2.2.2.2.2.2.2.2)
 some (v14.1, (0 : Int), w64 (v14.1 + 1), v16)))))
noncomputable def zkO (o : Ops) : SC := ⟨⟨[(0, (.ptr 0 0)), (1, (.h yjC)), (2, hI)], [zvM, zrF]⟩, 2, [(none, ⟨[(0, hI), (1, hI)], [zvM, .mp false (.i .i64) yjC]⟩)], fun x => zeG o x.1 x.2.1 x.2.2.1 x.2.2.2⟩
theorem zqE : SCok Tryz.prog tabs 20 (zkO o) := ytK (o := o) (η := [(2000009, .join [] [2] [(some 1000000, ⟨[(6, hI), (7, hI)], [zvM, zrF]⟩), (none, ⟨[(0, (.ptr 0 0)), (4, (.ptr 2 0))], [zvM, zrF, .blk 47 [hI, hI, hI, hS, hS, hS, (.h (.sl .s)), hI, hI, hB, hB, (.h (.sl .s)), hI, hS, hS]]⟩)]),
 (2000012, .join [] [] [(some 1000000, ⟨[(6, hI), (7, hI)], [zvM, zrF]⟩), (none, ⟨[(0, (.ptr 0 0)), (4, (.ptr 2 0))], [zvM, zrF, .blk 47 [hI, hI, hI, hS, hS, hS, (.h (.sl .s)), hI, hI, hB, hB, (.h (.sl .s)), hI, hS, hS]]⟩)]),
 (4000006, .sch [(.pu, 0, []), (.pu, 1, []), (.pu, 2, []), (.pu, 3, []), (.pu, 4, []), (.pu, 5, []), (.pu, 6, []), (.pu, 7, []), (.pu, 8, []), (.pu, 9, [5]), (.mn, 10, []), (.mn, 11, [5]), (.pu, 12, [])]),
 (4000014, .sch [(.pu, 0, []), (.pu, 1, []), (.pu, 2, []), (.pu, 3, []), (.pu, 4, []), (.pu, 5, []), (.pu, 6, []), (.pu, 7, []), (.mn, 8, [0, 1, 2, 3])])]) (Γ := ⟨[(53, (zkH o)), (44, (zgU o))], [(36, (zbZ o)), (54, (zdE o)), (31, (zbR o))], false⟩) (ctok ⟨znM, ⟨ziM, trivial⟩⟩ ⟨zdB, ⟨zeT, ⟨zcW, trivial⟩⟩⟩) Tryz.func20
noncomputable def zdP (o : Ops) (v6 : Int) (v7 : Int) (v8 : Int) (v9 : Int) (v10 : List zpC) (v11 : List Int) (v12 : List zjL) : Option ((Int × Int × Int × Int × (List zpC) × (List Int) × List zjL) ⊕ ((Int × Int × Int × (List Int) × List zjL))) :=
 bif decide (v7 < (v10.length : Int)) then ((chk (decide ((0 : Int) ≤ v7) && decide (v7 < (v10.length : Int)))).bind fun _ => (idx v10 v7).bind fun v13 => (chk (decide ((0 : Int) ≤ v7) && decide (v7 < (v10.length : Int)))).bind fun _ => (idx v10 v7).bind fun v14 => (zeW o v14.1 v8 v12).bind fun v15 => bif v15.1 then ((chk (decide ((0 : Int) ≤ v7) && decide (v7 < (v10.length : Int)))).bind fun _ => (idx v10 v7).bind fun v16 => (app v11 ([v16.1] : List Int)).bind fun v17 => some (.inl ((bif decide (v6 ≤ v13.1) then v13.1 else v6), w64 (v7 + 1), v15.2.1, v9, v10, v17, v15.2.2))) else some (.inl ((bif decide (v6 ≤ v13.1) then v13.1 else v6), w64 (v7 + 1), v15.2.1, v9, v10, v11, v15.2.2))) else some (.inr (v6, v8, v9, v11, v12))
noncomputable def zgA (o : Ops) (v1 : List yqA) (v19 : Int) (v20 : Int) (v21 : Int) (v22 : List zpC) (v23 : Int) (v24 : List Int) (v25 : List zjL) : Option (Bool ⊕ (Int × Int × (List zpC) × Int × (List Int) × List zjL)) :=
 (idx v1 v20).bind fun v26 => bif (v26.2.1 == 0) then ((idx v1 v20).bind fun v27 => (idx v1 v20).bind fun v28 => (zeG o v27.2.2.2.2.2 v28.2.2.1 v21 v25).bind fun v29 => bif (v29.2.1 == 0) then (bif decide (v29.1 ≤ v19) then some (.inl false) else some (.inr ((bif decide (v19 ≤ v29.1) then v29.1 else v19), v29.2.2.1, v22, v23, v24, v29.2.2.2))) else some (.inr ((bif decide (v19 ≤ v29.1) then v29.1 else v19), v29.2.2.1, v22, v23, v24, v29.2.2.2))) else ((idx v1 v20).bind fun v30 => (zcT o v30 v21 v22 v23 v25).bind fun v31 => some (.inr (v19, v31.2.1, v31.2.2.1, v31.2.2.2.1, v24, v31.2.2.2.2)))
noncomputable def zbN (o : Ops) (v2 : Int) (v35 : Int) (v36 : Int) (v37 : List zpC) (v38 : Int) (v39 : List Int) (v40 : List zjL) : Option ((Int × Int × (List zpC) × Int × (List Int) × List zjL) ⊕ (Bool ⊕ (Int × (List zpC) × Int × (List Int) × List zjL))) :=
 bif decide (v35 < (v39.length : Int)) then ((chk (decide ((0 : Int) ≤ v35) && decide (v35 < (v39.length : Int)))).bind fun _ => (idx v39 v35).bind fun v41 => (zaJ o v41 v2 v36 v40).bind fun v42 => bif v42.1 then some (.inr (.inl false)) else ((chk (decide ((0 : Int) ≤ v35) && decide (v35 < (v39.length : Int)))).bind fun _ => (idx v39 v35).bind fun v43 => (zaJ o v43 (0 : Int) v42.2.1 v42.2.2).bind fun v44 => bif v44.1 then some (.inr (.inl false)) else ((chk (decide ((0 : Int) ≤ v35) && decide (v35 < (v39.length : Int)))).bind fun _ => (idx v39 v35).bind fun v45 => (zaJ o v45 (-1 : Int) v44.2.1 v44.2.2).bind fun v46 => bif v46.1 then some (.inr (.inl false)) else some (.inl (w64 (v35 + 1), v46.2.1, v37, v38, v39, v46.2.2))))) else some (.inr (.inr (v36, v37, v38, v39, v40)))
noncomputable def zdQ (o : Ops) (v1 : List yqA) (v2 : Int) (v19 : Int) (v20 : Int) (v21 : Int) (v22 : List zpC) (v23 : Int) (v24 : List Int) (v25 : List zjL) : Option ((Int × Int × Int × (List zpC) × Int × (List Int) × List zjL) ⊕ (Bool ⊕ Unit)) :=
 bif decide (v20 < (v1.length : Int)) then ((zgA o v1 v19 v20 v21 v22 v23 v24 v25).bind fun v32 => match v32 with
 | .inl v33 => some (.inr (.inl v33))
 | .inr v34 => ((iter (fun x => zbN o v2 x.1 x.2.1 x.2.2.1 x.2.2.2.1 x.2.2.2.2.1 x.2.2.2.2.2) ((0 : Int), v34.2)).bind fun v47 => match v47 with
 | .inl v48 => some (.inr (.inl v48))
 | .inr v49 => some (.inl (v34.1, w64 (v20 + 1), v49)))) else some (.inr (.inr ()))
noncomputable def zcJ (o : Ops) (v0 : List yqA) (v1 : List yqA) (v2 : Int) : Option (Bool) :=
 (zeZ o v0).bind fun v3 => (zdT o).bind fun v4 => (zcB o v3.1 v3.2).bind fun v5 => (iter (fun x => zdP o x.1 x.2.1 x.2.2.1 x.2.2.2.1 x.2.2.2.2.1 x.2.2.2.2.2.1 x.2.2.2.2.2.2) ((0 : Int), (0 : Int), v5.1, v4, v5.2.2, ([] : List Int), v5.2.1)).bind fun v18 => (iter (fun x => zdQ o v1 v2 x.1 x.2.1 x.2.2.1 x.2.2.2.1 x.2.2.2.2.1 x.2.2.2.2.2.1 x.2.2.2.2.2.2) (v18.1, (0 : Int), v18.2.1, ([] : List zpC), v18.2.2)).bind fun v50 => match v50 with
 | .inl v51 => (some v51)
 | .inr v52 => ((some true).bind fun v53 => some v53)
noncomputable def zmY (o : Ops) : PC := ⟨[(.h (.sl xaG)), (.h (.sl xaG)), hI], [.b], fun x => zcJ o x.1 x.2.1 x.2.2, false⟩
theorem zwR : PCok Tryz.prog tabs 4 (zmY o) := yyM (o := o) (η := [(200009, .loop [] ⟨[(7, (.ptr 0 0)), (8, (.ptr 1 0)), (9, (.own 2)), (10, (.own 3)), (11, hI), (12, hI)], [.blk 75 [(.mpr 4), hI], .blk 38 [.nils, hI], .osl yjC 47, .osl (.i .i64) 3, zrF]⟩ [1, 2, 6] [(some 0, ⟨[(7, (.ptr 0 0)), (8, (.ptr 1 0)), (10, (.own 2)), (11, hI)], [ymT, .blk 38 [.nils, hI], .osl (.i .i64) 3, zrF]⟩)]),
 (2000023, .join [] [1, 2, 13] [(some 1000000, ⟨[(6, hB)], []⟩), (none, ⟨[(7, (.ptr 0 0)), (8, (.ptr 1 0)), (10, (.own 2)), (11, hI)], [ymT, yrZ, .osl (.i .i64) 3, zrF]⟩)]),
 (200024, .loop [] ⟨[(7, (.ptr 0 0)), (8, (.ptr 1 0)), (10, (.own 2)), (16, hI)], [ymT, yrZ, .osl (.i .i64) 3, zrF]⟩ [1, 2, 11, 13] [(some 1000000, ⟨[(6, hB)], []⟩), (some 4, ⟨[(7, (.ptr 0 0)), (8, (.ptr 1 0)), (10, (.own 2))], [ymT, yrZ, .osl (.i .i64) 3, zrF]⟩)]),
 (200015, .loop [] ⟨[(7, (.ptr 0 0)), (8, (.ptr 1 0)), (10, (.own 2)), (11, hI), (13, hI)], [ymT, yrZ, .osl (.i .i64) 3, zrF]⟩ [1, 2] [(some 1000000, ⟨[(6, hB)], []⟩), (some 2, ⟨[], []⟩)]),
 (4000018, .sch [(.pu, 0, []), (.pu, 1, []), (.pu, 2, []), (.pu, 3, []), (.pu, 4, []), (.pu, 5, []), (.pu, 6, []), (.pu, 7, []), (.pu, 8, []), (.pu, 9, []), (.pu, 10, []), (.mn, 11, [0, 3]), (.pu, 12, []), (.pu, 13, []), (.pu, 14, []), (.pu, 15, []), (.pu, 16, [])])]) (Γ := ⟨[(13, yhU)], [(17, (zlO o)), (18, (zhY o)), (15, (zeF o)), (19, (zlA o)), (20, (zkO o)), (21, (zgO o)), (22, (zcG o))], false⟩) (ctok ⟨yqZ, trivial⟩ ⟨zrD, ⟨zmK, ⟨zhH, ⟨zrK, ⟨zqE, ⟨zjR, ⟨zdI, trivial⟩⟩⟩⟩⟩⟩⟩) Tryz.func4
end
theorem ypD {nx : Int} {es : Es} (h : Ok nx es) (n : Nd) (now : Int) (hl : Lst n) : zeG zaB n now nx es = some (zeR n now nx es) := by
 unfold zeG zeR
 rw [ylV n hl.1, zaA]
 cases hm : mayB n with
 | false => rfl
 | true =>
  simp only [Bool.not_true, cond_false]
  rw [ztA h, zaA]
  cases hf : zuE es n.2.2.2.2.2.2.2.2.2.2.2.2.2.1 with
  | some q => rfl
  | none =>
   simp only [Option.isSome_none, Option.getD_none, cond_false]
   have hj : zgR zaB n (zN, false, nx, es) = some (bif zuS es (npar n) then .inl (0, 133, nx, es) else .inr (nx, es, n)) := by
    unfold zgR zuS
    simp only []
    by_cases hp : npar n > 0
    ·rw [zkS (p := n.2.2.1 > 0) hp, decide_eq_true hp, ycF h, zaA]
     show (bif (!(mhas keqI es (npar n))) then _ else _) = _
     cases mhas keqI es (npar n) with
     | false => rfl
     | true =>
      simp only [Bool.not_true, cond_false, Bool.true_and, Bool.false_or]
      cases zpP es (npar n) <;> rfl
    ·rw [zoU (p := n.2.2.1 > 0) hp, decide_eq_false hp]
     rfl
   rw [hj, zaA]
   cases zuS es (npar n) with
   | true => rfl
   | false =>
    simp only [cond_false]
    rw [zvH h, zaA]
    unfold zkQ
    simp only []
    by_cases hg : (zbY es now).length ≥ 256
    ·rw [zkS (by omega), decide_eq_true hg]
     rfl
    ·rw [zoU (by omega), decide_eq_false hg]
     by_cases hx : nx ≥ 99999999
     ·rw [zkS hx, decide_eq_true hx]
      rfl
     ·rw [zoU hx, decide_eq_false hx]
      have hnx := h.next
      simp only [zaA, Bool.or_false, cond_false]
      rw [own_ok hl, zaA, zmP (by omega) (by omega)]
      rw [zyR fun p hp => ((h.pruned now).ids p hp).2.2]
theorem yuS {nx : Int} {es : Es} (h : Ok nx es) (i : Int) : zeW zaB i nx es = some (zjA es i, nx, es) := by
 unfold zeW
 rw [yfE h, zaA]
 unfold zkX zjA
 simp only []
 cases hh : mhas keqI es i with
 | false => rw [zpW hh]; rfl
 | true =>
  obtain ⟨n, hn, hp⟩ := zlX hh
  rw [hn, zhT hn]
  simp only [Bool.not_true, cond_false]
  cases hs : zpH n with
  | true => rw [show n.2.2.2.2.2.2.2.2.2.2.1 = true from hs]; rfl
  | false =>
   rw [show n.2.2.2.2.2.2.2.2.2.2.1 = false from hs]
   simp only [cond_false, zaA, Bool.false_or]
   rw [ycP h, zaA]
   have hpl := zvC h i
   have hT : T (iter (fun x => zhF zaB (ziN es i, nx, es) x.1 x.2.1 x.2.2) ((0 : Int), nx, es)) fun r => match r with
     | .inl v => v = (true, nx, es) ∧ zpP es i = true
     | .inr v => v = (nx, es) ∧ zpP es i = false := by
    refine T.iter (fun x => x.2 = (nx, es) ∧ 0 ≤ x.1 ∧ x.1 ≤ ((ziN es i).length : Int) ∧ ((ziN es i).take x.1.toNat).any (zvI es) = false) (fun x => (ziN es i).length - x.1.toNat) _ (fun x hx => ?_) ⟨rfl, Int.le_refl _, by simp, rfl⟩ (by simp; omega)
    obtain ⟨j, v⟩ := x
    obtain ⟨h1, h2, h3, h4⟩ := hx
    simp only at h1 h2 h3 h4
    subst h1
    obtain ⟨k, rfl⟩ : ∃ k : Nat, j = k := ⟨j.toNat, by omega⟩
    rw [Int.toNat_natCast] at h4
    unfold zhF
    simp only []
    refine T.dif (fun h5 => ?_) fun h5 => T.ok ⟨rfl, ?_⟩
    ·have hk : k < (ziN es i).length := by omega
     rw [zmM rfl hk, zaA, yfE h, zaA]
     refine T.bif (fun h6 => T.ok ⟨rfl, ysQ hk h6⟩) fun h6 => T.ok ⟨⟨rfl, ?_, ?_, ?_⟩, ?_⟩
     ·simp only []; rw [zbW (by omega)]; omega
     ·simp only []; rw [zbW (by omega)]; omega
     ·simp only []
      rw [zbW (by omega), Int.toNat_natCast]
      exact yiI hk h4 h6
     ·simp only []; rw [zbW (by omega)]; omega
    ·rw [List.take_of_length_le (by omega)] at h4
     exact h4
   obtain ⟨r, h1, h2⟩ := hT
   rw [show iter _ _ = _ from h1, zaA]
   cases r with
   | inl v => obtain ⟨rfl, e⟩ := h2; rw [e]
   | inr v => obtain ⟨rfl, e⟩ := h2; rw [e]
theorem ywN (script more : List OpT) (now : Int) (hl : script.length ≤ 1048576) (ho : ∀ o ∈ script, NdOk o.2.2.2.2.2) (hl2 : more.length ≤ 1048576) (ho2 : ∀ o ∈ more, NdOk o.2.2.2.2.2) : zcJ zaB script more now = some true := by
 unfold zcJ
 rw [yuI hl ho, zaA]
 have h := ykY script
 generalize zxN script = s at h
 obtain ⟨nx, es⟩ := s
 unfold zdT
 simp only [] at h ⊢
 have hlen := h.len
 rw [zaA, yhI h, zaA]
 have h1 : T (iter (fun x => zdP zaB x.1 x.2.1 x.2.2.1 x.2.2.2.1 x.2.2.2.2.1 x.2.2.2.2.2.1 x.2.2.2.2.2.2) ((0 : Int), (0 : Int), nx, (1 : Int), es.map (·.2), ([] : List Int), es)) fun r => 0 ≤ r.1 ∧ r.1 < nx ∧ r.2.1 = nx ∧ r.2.2.1 = 1 ∧ r.2.2.2.2 = es ∧ r.2.2.2.1.length ≤ 256 ∧ ∀ g ∈ r.2.2.2.1, zjA es g = true ∧ g < nx := by
  refine T.iter (fun x => 0 ≤ x.1 ∧ x.1 < nx ∧ 0 ≤ x.2.1 ∧ x.2.1 ≤ (es.length : Int) ∧ x.2.2.1 = nx ∧ x.2.2.2.1 = 1 ∧ x.2.2.2.2.1 = es.map (·.2) ∧ x.2.2.2.2.2.2 = es ∧ (x.2.2.2.2.2.1.length : Int) ≤ x.2.1 ∧ ∀ g ∈ x.2.2.2.2.2.1, zjA es g = true ∧ g < nx) (fun x => es.length - x.2.1.toNat) _ (fun x hx => ?_) ⟨Int.le_refl _, by have := h.next; simp only []; omega, Int.le_refl _, by simp, rfl, rfl, rfl, rfl, by simp, by simp⟩ (by simp; omega)
  obtain ⟨last, i, nx', ny, l, gone, es'⟩ := x
  obtain ⟨a1, a2, a3, a4, e1, e2, e3, e4, a5, a6⟩ := hx
  simp only at a1 a2 a3 a4 e1 e2 e3 e4 a5 a6
  subst e1 e2 e3 e4
  obtain ⟨k, rfl⟩ : ∃ k : Nat, i = k := ⟨i.toNat, by omega⟩
  unfold zdP
  simp only [List.length_map]
  refine T.dif (fun h5 => ?_) fun h5 => T.ok ⟨a1, a2, rfl, rfl, rfl, by simp only []; omega, a6⟩
  have hk : k < es'.length := by omega
  have hid := h.ids _ (List.getElem_mem hk)
  rw [decide_eq_true (show (0 : Int) ≤ (k : Int) by omega), decide_eq_true h5, Bool.and_self, zqU rfl, zaA, zmM (i := k) rfl (by rw [List.length_map]; exact hk), zaA, zaA, zaA, List.getElem_map, xaO h hk, yuS h, zaA, zaA]
  have hmax : 0 ≤ (bif decide (last ≤ es'[k].1) then es'[k].1 else last) ∧ (bif decide (last ≤ es'[k].1) then es'[k].1 else last) < nx' := by
   by_cases hm : last ≤ es'[k].1
   ·rw [zkS hm]; omega
   ·rw [zoU hm]; omega
  cases hg : zjA es' es'[k].1 with
  | false =>
   refine T.ok ⟨⟨hmax.1, hmax.2, ?_, ?_, rfl, rfl, rfl, rfl, ?_, a6⟩, ?_⟩
   ·simp only []; rw [zbW (by omega)]; omega
   ·simp only []; rw [zbW (by omega)]; omega
   ·simp only []; rw [zbW (by omega)]; omega
   ·simp only []; rw [zbW (by omega)]; omega
  | true =>
   simp only [cond_true]
   rw [zaA, zuQ (by simp; omega), zaA]
   refine T.ok ⟨⟨hmax.1, hmax.2, ?_, ?_, rfl, rfl, rfl, rfl, ?_, fun g hg2 => ?_⟩, ?_⟩
   ·simp only []; rw [zbW (by omega)]; omega
   ·simp only []; rw [zbW (by omega)]; omega
   ·simp only [List.length_append, List.length_singleton]; rw [zbW (by omega)]; omega
   ·rcases List.mem_append.1 hg2 with hg2 | hg2
    ·exact a6 g hg2
    ·rw [List.mem_singleton] at hg2
     subst hg2
     rw [xaO h hk]
     exact ⟨hg, hid.2.2⟩
   ·simp only []; rw [zbW (by omega)]; omega
 obtain ⟨r, g1, g2⟩ := h1
 rw [show iter _ _ = _ from g1, zaA]
 obtain ⟨last, nx', ny, gone, es'⟩ := r
 obtain ⟨a1, a2, e1, e2, e3, a3, a4⟩ := g2
 simp only at a1 a2 e1 e2 e3 a3 a4
 subst e1 e2 e3
 have h2 : T (iter (fun x => zdQ zaB more now x.1 x.2.1 x.2.2.1 x.2.2.2.1 x.2.2.2.2.1 x.2.2.2.2.2.1 x.2.2.2.2.2.2) (last, (0 : Int), nx', ([] : List Nd), (1 : Int), gone, es')) fun r => r = .inr () := by
  refine T.iter (fun x => Ok x.2.2.1 x.2.2.2.2.2.2 ∧ RY x.2.2.2.1 x.2.2.2.2.1 ∧ 0 ≤ x.1 ∧ x.1 < x.2.2.1 ∧ 0 ≤ x.2.1 ∧ x.2.1 ≤ (more.length : Int) ∧ x.2.2.2.2.2.1 = gone ∧ ∀ g ∈ gone, zjA x.2.2.2.2.2.2 g = true ∧ g < x.2.2.1) (fun x => more.length - x.2.1.toNat) _ (fun x hx => ?_) ⟨h, ⟨fun _ h => (by cases h), fun _ h => (by cases h), ⟨Int.le_refl 1, by show (1 : Int) ≤ 99999999; decide⟩, Nat.zero_le _⟩, a1, a2, Int.le_refl _, by simp, rfl, a4⟩ (by simp; omega)
  obtain ⟨last, i, nx, L, ny, gone', es⟩ := x
  obtain ⟨h, hy, b1, b2, b3, b4, e1, b5⟩ := hx
  simp only at h hy b1 b2 b3 b4 e1 b5
  subst e1
  obtain ⟨k, rfl⟩ : ∃ k : Nat, i = k := ⟨i.toNat, by omega⟩
  unfold zdQ
  simp only []
  refine T.dif (fun h5 => ?_) fun _ => T.ok rfl
  have hk : k < more.length := by omega
  refine T.bind (Q := fun r => match r with
   | .inl _ => False
   | .inr v => Ok v.2.1 v.2.2.2.2.2 ∧ RY v.2.2.1 v.2.2.2.1 ∧ 0 ≤ v.1 ∧ v.1 < v.2.1 ∧ v.2.2.2.2.1 = gone' ∧ ∀ g ∈ gone', zjA v.2.2.2.2.2 g = true ∧ g < v.2.1) ?_ fun r hr => ?_
  ·unfold zgA
   have hO := ho2 _ (List.getElem_mem hk)
   rw [zmM rfl hk, zaA]
   refine T.bif (fun h0 => ?_) fun h0 => ?_
   ·rw [zaA, zaA, ypD h more[k].2.2.2.2.2 more[k].2.2.1 ⟨hO.2.2.2.1, hO.2.2.2.2.2.1⟩, zaA]
    have hP := h.plant more[k].2.2.2.2.2 more[k].2.2.1
    have hG : ∀ g ∈ gone', zjA (zeR more[k].2.2.2.2.2 more[k].2.2.1 nx es).2.2.2 g = true ∧ g < (zeR more[k].2.2.2.2.2 more[k].2.2.1 nx es).2.2.1 := fun g hg => ⟨ybK h _ _ (b5 g hg).2 (b5 g hg).1, Int.lt_of_lt_of_le (b5 g hg).2 (ybH _ _ _ _).1⟩
    have hN := ybH more[k].2.2.2.2.2 more[k].2.2.1 nx es
    generalize zeR more[k].2.2.2.2.2 more[k].2.2.1 nx es = p at hP hG hN
    obtain ⟨a, e, nx2, es2⟩ := p
    simp only at hP hG hN ⊢
    refine T.bif (fun he => T.dif (fun h6 => ?_) fun h6 => T.ok ⟨hP, hy, ?_, ?_, rfl, hG⟩) fun he => T.ok ⟨hP, hy, ?_, ?_, rfl, hG⟩
    ·have := hN.2.1 (beq_iff_eq.1 he)
     omega
    ·have := hN.2.1 (beq_iff_eq.1 he)
     simp only []
     rw [zkS (by omega)]
     omega
    ·have := hN.2.1 (beq_iff_eq.1 he)
     simp only []
     rw [zkS (by omega)]
     omega
    ·have := hN.2.2 (by simpa using he)
     simp only []
     by_cases hm : last ≤ a
     ·rw [zkS hm]; omega
     ·rw [zoU hm]; omega
    ·have := hN.2.2 (by simpa using he)
     have := hN.1
     have := h.next
     simp only []
     by_cases hm : last ≤ a
     ·rw [zkS hm]; omega
     ·rw [zoU hm]; omega
   ·rw [zaA]
    refine (ytO h hy more[k] hO).bind fun r hr => ?_
    have hS := h.step more[k]
    have hG : ∀ g ∈ gone', zjA (zrH more[k] nx es).2 g = true := fun g hg => ypC h _ (b5 g hg).2 (b5 g hg).1
    have hN : (zrH more[k] nx es).1 = nx := by
     unfold zrH
     rw [h0]
     simp only [cond_false]
     cases more[k].2.1 == (1 : Int) <;> cases more[k].2.1 == (2 : Int) <;> cases more[k].2.1 == (3 : Int) <;> cases more[k].2.1 == (4 : Int) <;> cases more[k].2.1 == (5 : Int) <;> cases more[k].2.1 == (6 : Int) <;> cases more[k].2.1 == (7 : Int) <;> rfl
    obtain ⟨b, nx2, L2, ny2, es2⟩ := r
    obtain ⟨e2, hy2⟩ := hr
    have e3 : nx2 = (zrH more[k] nx es).1 := congrArg Prod.fst e2
    have e4 : es2 = (zrH more[k] nx es).2 := congrArg Prod.snd e2
    rw [← e3, ← e4] at hS
    rw [← e4] at hG
    rw [← e3] at hN
    exact T.ok ⟨hS, hy2, b1, by simp only []; omega, rfl, fun g hg => ⟨hG g hg, by simp only []; have := (b5 g hg).2; omega⟩⟩
  ·cases r with
   | inl v => exact hr.elim
   | inr v =>
    obtain ⟨last2, nx2, L2, ny2, gone2, es2⟩ := v
    obtain ⟨c1, c2, c3, c4, e1, c5⟩ := hr
    simp only at c1 c2 c3 c4 e1 c5
    subst e1
    simp only []
    have hI : iter (fun x => zbN zaB now x.1 x.2.1 x.2.2.1 x.2.2.2.1 x.2.2.2.2.1 x.2.2.2.2.2) ((0 : Int), nx2, L2, ny2, gone2, es2) = some (.inr (nx2, L2, ny2, gone2, es2)) := by
     refine ycR (fun j => ((j : Int), nx2, L2, ny2, gone2, es2)) gone2.length (by omega) _ (fun j hj => ?_) ?_
     ·have hg := (c5 _ (List.getElem_mem hj)).1
      unfold zbN
      simp only []
      rw [zkS (show (j : Int) < (gone2.length : Int) by omega), decide_eq_true (show (0 : Int) ≤ (j : Int) by omega), decide_eq_true (show (j : Int) < (gone2.length : Int) by omega), Bool.and_self, zqU rfl, zaA, zmM rfl hj, zaA, zwB c1, zzM hg, zaA]
      simp only [cond_false]
      rw [zaA, zaA, zwB c1, zzM hg, zaA]
      simp only [cond_false]
      rw [zaA, zaA, zwB c1, zzM hg, zaA, zbW (by omega)]
      rfl
     ·unfold zbN
      simp only []
      rw [zoU (by omega)]
    rw [show iter _ _ = _ from hI, zaA]
    refine T.ok ⟨⟨c1, c2, c3, c4, ?_, ?_, rfl, c5⟩, ?_⟩
    ·simp only []; rw [zbW (by omega)]; omega
    ·simp only []; rw [zbW (by omega)]; omega
    ·simp only []; rw [zbW (by omega)]; omega
 obtain ⟨r, g1, rfl⟩ := h2
 simp only []
 rw [show iter _ _ = _ from g1, zaA]
 rfl
theorem yjZ (script more : List ypT) (now : Int) (hk : dsz (.sl (.pr (.i .i64) (.pr (.i .i64) (.pr (.i .i64) (.pr (.i .i64) (.pr .s (.pr (.i .i64) (.pr (.i .i64) (.pr (.i .i64) (.pr .s (.pr .s (.pr .s (.pr (.sl .s) (.pr (.i .i64) (.pr (.i .i64) (.pr .b (.pr .b (.pr (.sl .s) (.pr (.i .i64) (.pr .s .s)))))))))))))))))))) script + dsz (.sl (.pr (.i .i64) (.pr (.i .i64) (.pr (.i .i64) (.pr (.i .i64) (.pr .s (.pr (.i .i64) (.pr (.i .i64) (.pr (.i .i64) (.pr .s (.pr .s (.pr .s (.pr (.sl .s) (.pr (.i .i64) (.pr (.i .i64) (.pr .b (.pr .b (.pr (.sl .s) (.pr (.i .i64) (.pr .s .s)))))))))))))))))))) more + dsz (.i .i64) now ≤ 1048576) : zcJ zaB script more now = some true := by
 have hk : dsz (.sl zxW) script + dsz (.sl zxW) more + dsz (.i .i64) now ≤ 1048576 := hk
 have h := ysT (l := script) (by omega)
 have h2 := ysT (l := more) (by omega)
 exact ywN script more now h.1 h.2 h2.1 h2.2
end Go.Proofs.YtebbcofojchkpaaGreatDoor.Am
namespace Go.Proofs.YtebbcofojchkpaaGreatDoor
open Go Go.RowKit
section
open Go Go.RowKit Go.ChangeShapes Go.WideShapes Go.ChangeAt
attribute [local irreducible] Value.okWide
theorem yuF {W : World} (h : W.ShapedOpen Tryz.prog) (hL : laidMet Tryz.prog Rows.forestStaysUptoRow.laid W) : ∃ G : List (Nat × Obj), Am.zpM G ∧ Am.GS G (znN W) := by
 obtain ⟨m, hm⟩ := Tryz.laysM219.s1_3 W h
 have hm : W.cell? ⟨0, 0, none⟩ = some (.int .i64 m) := hm
 have h0 : ∃ c E fz, W.heap[0]? = some (.cells c E fz) ∧ c[0]? = some (.int .i64 m) := by
  unfold World.cell? at hm
  split at hm
  ·rename_i c E fz hb
   simp only [Option.isSome_none, if_neg (show ¬ (false = true) by decide)] at hm
   exact ⟨c, E, fz, hb, hm⟩
  ·cases hm
 obtain ⟨c, E, fz, h1, h2⟩ := h0
 have hT := Lib.tabIs_of_head (P := Tryz.prog) (k := .u64) (zs := Lib.pow10Tab) (g := 3) (t := 218) (e := 167) (n := 20) (by kernel_rfl) (by kernel_rfl) (by kernel_rfl) (by kernel_rfl) (by kernel_rfl) (by kernel_rfl) (show laidMet Tryz.prog (("internal/strconv.uint64pow10", Lib.tabData .u64 Lib.pow10Tab) :: _) W from hL.tail.tail)
 have h3 : ∃ T f, W.heap[3]? = some (.cells ylL.toArray T f) := by
  unfold Lib.TabIs World.var? at hT
  rw [show Tryz.prog.globalNamed "internal/strconv.uint64pow10" = some 3 by kernel_rfl, Option.bind_some] at hT
  split at hT
  ·rename_i cs T f hb
   cases hT
   exact ⟨T, f, hb⟩
  ·cases hT
 obtain ⟨T, f, h4⟩ := h3
 refine ⟨[(0, .cells c E fz), (3, .cells ylL.toArray T f)], ⟨fun S hS => ⟨⟨c, E, fz, m, hS _ (List.mem_cons_self ..), h2⟩, T, f, hS _ (List.mem_cons_of_mem _ (List.mem_cons_self ..))⟩⟩, fun p hp => ?_⟩
 rcases List.mem_cons.1 hp with rfl | hp
 ·exact h1
 ·rcases List.mem_cons.1 hp with rfl | hp
  ·exact h4
  ·cases hp
theorem ztN (H : Type) (enc : TypeId × Value → H) (W : World) (base : Nat) (args : Array Value) (ds gs : List (DataW H)) (before : List MemPlace)
  (hval : ∀ (j : Nat) t v, Tryz.f4.params[j]? = some t → args[j]? = some v → Value.okWide Tryz.prog W .any base t v)
  (hW : DataW.Whole enc Tryz.prog Tryz.f4.params.toList Rows.forestStaysSpec.vars false W args.toList ds gs before) (hk : Rows.uptoSmall H (ds ++ gs) = true) (hsh : W.ShapedOpen Tryz.prog) (hL : laidMet Tryz.prog Rows.forestStaysUptoRow.laid W) :
  Calls Tryz.prog 4 args W fun e W' => ∃ v, e = .returned v ∧ Rows.forestStaysSpec.post enc Tryz.prog Tryz.f4 false true false false W args v W' := by
 have hW' := hW
 obtain ⟨p, q, hA0, hV, rfl, _, _⟩ := hW
 have hA : DataW.TrodAll enc Tryz.prog W 0 (fun _ => true) true Tryz.f4.params.toList args.toList ds p := hA0
 rw [Tryz.params4] at hA hval
 obtain ⟨v0, vs0, d0, ds0, p0, q0, hargs, rfl, rfl, t0, r0⟩ := trodAll_cons hA
 obtain ⟨v1, vs1, d1, ds1, p1, q1, rfl, rfl, rfl, t1, r1⟩ := trodAll_cons r0
 obtain ⟨v2, vs2, d2, ds2, p2, q2, rfl, rfl, rfl, t2, r2⟩ := trodAll_cons r1
 obtain ⟨rfl, rfl, rfl⟩ := trodAll_nil r2
 obtain rfl : args = #[v0, v1, v2] := by cases args; simp_all
 obtain ⟨rfl, rfl⟩ := trodVars_none hV
 obtain ⟨x0, e0, b0⟩ := Am.xbW (t := (.sl (.pr (.i .i64) (.pr (.i .i64) (.pr (.i .i64) (.pr (.i .i64) (.pr .s (.pr (.i .i64) (.pr (.i .i64) (.pr (.i .i64) (.pr .s (.pr .s (.pr .s (.pr (.sl .s) (.pr (.i .i64) (.pr (.i .i64) (.pr .b (.pr .b (.pr (.sl .s) (.pr (.i .i64) (.pr .s .s))))))))))))))))))))) (show Am.yzT Tryz.prog 41 (.sl (.pr (.i .i64) (.pr (.i .i64) (.pr (.i .i64) (.pr (.i .i64) (.pr .s (.pr (.i .i64) (.pr (.i .i64) (.pr (.i .i64) (.pr .s (.pr .s (.pr .s (.pr (.sl .s) (.pr (.i .i64) (.pr (.i .i64) (.pr .b (.pr .b (.pr (.sl .s) (.pr (.i .i64) (.pr .s .s)))))))))))))))))))) = true by kernel_rfl) (hval 0 41 v0 rfl rfl) t0
 obtain ⟨x1, e1, b1⟩ := Am.xbW (t := (.sl (.pr (.i .i64) (.pr (.i .i64) (.pr (.i .i64) (.pr (.i .i64) (.pr .s (.pr (.i .i64) (.pr (.i .i64) (.pr (.i .i64) (.pr .s (.pr .s (.pr .s (.pr (.sl .s) (.pr (.i .i64) (.pr (.i .i64) (.pr .b (.pr .b (.pr (.sl .s) (.pr (.i .i64) (.pr .s .s))))))))))))))))))))) (show Am.yzT Tryz.prog 41 (.sl (.pr (.i .i64) (.pr (.i .i64) (.pr (.i .i64) (.pr (.i .i64) (.pr .s (.pr (.i .i64) (.pr (.i .i64) (.pr (.i .i64) (.pr .s (.pr .s (.pr .s (.pr (.sl .s) (.pr (.i .i64) (.pr (.i .i64) (.pr .b (.pr .b (.pr (.sl .s) (.pr (.i .i64) (.pr .s .s)))))))))))))))))))) = true by kernel_rfl) (hval 1 41 v1 rfl rfl) t1
 obtain ⟨x2, e2, b2⟩ := Am.xbW (t := (.i .i64)) (show Am.yzT Tryz.prog 3 (.i .i64) = true by kernel_rfl) (hval 2 3 v2 rfl rfl) t2
 simp only [List.cons_append, List.nil_append, List.append_nil, Rows.uptoSmall, decide_eq_true_eq, Rows.uptoBulkAll] at hk
 obtain ⟨G, hG, hGS⟩ := yuF hsh hL
 refine ((Am.zwR (tabs := G) (o := Am.zaB)).ok (znN W) W [v0, v1, v2] (x0, x1, x2) true hGS (yhZ W) (.cons (Am.xdT e0) (.cons (Am.xdT e1) (.cons (Am.xdT e2) .nil))) (Am.yjZ x0 x1 x2 (by omega))).mono fun e W' ⟨hx, v, he, hr, _⟩ => ?_
 have hr : [v] = [Value.bool true] := hr
 rw [(List.cons.inj hr).1] at he
 subst he
 refine ⟨_, rfl, yqP (B := 4) (n := 3) (by kernel_rfl) rfl (by kernel_rfl) (by kernel_rfl) (by kernel_rfl) (by kernel_rfl) (fun ds hds => ?_) hW' hx⟩
 match ds, hds with
 | [x0, x1, x2], _ => exact ⟨rfl, rfl, rfl⟩
theorem yqW : ownKnob Tryz.prog.godebug = none := by kernel_rfl
def yaI : DataW Unit → LV
 | .lit (.int k n) => [.int k n]
 | .agg l => go l
 | _ => []
where go : List (DataW Unit) → LV
 | [] => []
 | d :: l => yaI d ++ go l
def zpT (l : LV) : Obj → Obj
 | .cells _ t frozen => .cells l.toArray t frozen
 | o => o
noncomputable def zyP (os : Os) : World := { World.holding Tryz.prog os ⟨#[], #[], []⟩ with heap := (((((((((World.holding Tryz.prog os ⟨#[], #[], []⟩).heap).modify 6 (zpT (yaI Rows.laid_math_bits_deBruijn32tab))).modify 7 (zpT (yaI Rows.laid_math_bits_deBruijn64tab))).modify 3 (zpT (yaI Rows.laid_internal_strconv_uint64pow10))).modify 5 (zpT (yaI Rows.laid_unicode_utf8_acceptRanges))).modify 2 (zpT [.iface 227 (.pointer (some ⟨(World.holding Tryz.prog os ⟨#[], #[], []⟩).heap.size + 0, 0, none⟩))])).modify 1 (zpT [.iface 227 (.pointer (some ⟨(World.holding Tryz.prog os ⟨#[], #[], []⟩).heap.size + 1, 0, none⟩))])).modify 4 (zpT (yaI Go.Pinned.utf8First))) ++ #[.cells #[.string ⟨#[118, 97, 108, 117, 101, 32, 111, 117, 116, 32, 111, 102, 32, 114, 97, 110, 103, 101]⟩] 229, .cells #[.string ⟨#[105, 110, 118, 97, 108, 105, 100, 32, 115, 121, 110, 116, 97, 120]⟩] 229] }
theorem ztG (os : Os) : laidMet Tryz.prog Rows.forestStaysUptoRow.laid ((zyP os).forCall (fun _ _ => 0) ⟨#[], #[.slice none 0 0, .slice none 0 0, .int .i64 0], []⟩).memory :=
 laidMet_of_run' 8 (by kernel_rfl) (by kernel_rfl)
theorem zvQ (os : Os) {H : Type} (enc : TypeId × Value → H) : ∃ places, DataW.whole enc Tryz.prog ((zyP os).forCall (fun _ _ => 0) ⟨#[], #[.slice none 0 0, .slice none 0 0, .int .i64 0], []⟩).memory Tryz.f4.params.toList Rows.forestStaysSpec.vars false (#[.slice none 0 0, .slice none 0 0, .int .i64 0] : Array Value).toList 8 = some ([.nil, .nil, .lit (.int .i64 0)], [], places) :=
 ⟨[], by kernel_rfl⟩
set_option maxRecDepth 100000 in
theorem zuW (os : Os) (started : os.Started) (H : Type) (enc : TypeId × Value → H) (F : Stop.Interp) :
  ReturnsInHanded {} Tryz.checked os 4 .any ((Rows.OpenSpec.upto Rows.forestStaysSpec).preRow enc Tryz.prog Tryz.f4 Rows.forestStaysUptoRow.domain false Rows.forestStaysUptoRow.laid) (((Rows.OpenSpec.upto Rows.forestStaysSpec).at F).post enc Tryz.prog Tryz.f4 false true false false) := by
 obtain ⟨places, hx⟩ := zvQ os enc
 refine returnsInHanded_of_row (C := Tryz.checked) (s := Rows.OpenSpec.upto Rows.forestStaysSpec) yqW started (by kernel_rfl) Tryz.func4
  (witness_row_at (enc := enc) (C := Tryz.checked) false (zyP os) #[.slice none 0 0, .slice none 0 0, .int .i64 0] rfl (by kernel_rfl) (by kernel_rfl) (by kernel_rfl)
   (OpenSpec.preRow_of_cond 8 hx (by kernel_rfl) (fun k hk => by cases hk; kernel_rfl) (by kernel_rfl) (ztG os))) ?_
 intro W base args ds gs before hval hW _ hcond _ hL hsh _
 exact ztN H enc W base args ds gs before hval hW (hcond _ rfl) hsh hL
theorem zxQ : Rows.ForestStaysUptoSaid :=
 OpenClaim.holds_of_cond 4 Tryz.f4 rfl rfl rfl rfl rfl rfl rfl ⟨rfl, rfl, rfl, rfl, rfl⟩ rfl rfl rfl rfl rfl (by kernel_rfl) Tryz.func4 (by kernel_rfl)
  (of_decide_eq_true (by kernel_rfl)) (by unfold Func.isWrapper; first | (rw [if_pos (by decide +kernel)]; kernel_rfl) | (rw [if_neg (by decide +kernel)]; exact ⟨rfl, rfl⟩))
  (fun os started H enc _ F => by rw [OpenClaim.pre_eq_preRow]; exact zuW os started H enc F)
theorem zvO (f : FuncId) (fn : Func) (hf : Tryz.pinned.checked.prog.funcNamed "seneschal/seneschallaw13.ForestStays" = some f) (hfn : Tryz.pinned.checked.prog.funcs[f]? = some fn) :
  true = Tryz.pinned.checked.prog.looks [] ∧ ∀ (j : Nat) t, fn.params[j]? = some t → Tryz.pinned.checked.prog.wantsStandIn t = false := by
 obtain rfl : f = 4 := osi ((show Tryz.prog.funcNamed "seneschal/seneschallaw13.ForestStays" = some 4 by kernel_rfl).symm.trans hf) |>.symm
 obtain rfl : fn = Tryz.f4 := (osi (Tryz.func4.symm.trans hfn)).symm
 refine ⟨by kernel_rfl, fun j t ht => ?_⟩
 rw [Tryz.params4] at ht
 have hm : t ∈ [41, 41, 3] := by simpa using Array.mem_of_getElem? ht
 have hall : ([41, 41, 3].all fun u => !Tryz.prog.wantsStandIn u) = true := by kernel_rfl
 exact (show Tryz.prog.wantsStandIn t = false by simpa using List.all_eq_true.1 hall t hm)
theorem forestStays_said : Rows.ForestStaysUptoCardSaid :=
 Claim7.holds_tied_plain_at .later [] _ _ _ _ zxQ (fun _ h => by cases h) (by kernel_rfl) (fun _ h => by cases h) forestStaysUpto_row_tie rfl ⟨rfl, rfl⟩ (by kernel_rfl) rfl zvO (by kernel_rfl)
end
end Go.Proofs.YtebbcofojchkpaaGreatDoor
