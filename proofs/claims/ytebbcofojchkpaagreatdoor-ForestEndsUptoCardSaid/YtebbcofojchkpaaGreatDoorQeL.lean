/- The law 'seneschallaw13.ForestEnds' holds of every input whose arguments hold together at most 1048576 values and letters, and its card. Conditions: the row's listed tables hold what the program's text lays; the arguments' bulk is at most 1048576. -/
import Derived.Test.YtebbcofojchkpaaGreatDoorRows
import Derived.Test.YtebbcofojchkpaaGreatDoorTie
import Derived.Test.YtebbcofojchkpaaGreatDoorCards
import Derived.ProofKit
import Derived.OpenShut
import Derived.Carry
import Derived.JoinedCond
import Derived.ChangeMaps5
import Derived.Deep.SlicePairs
import Derived.Deep.DeepHandedRow
import Derived.Lib.LaidTab
import Derived.SevenTiedAt
import Derived.KernelRfl
import Derived.Stop.LaidErr
import Derived.Test.YtebbcofojchkpaaGreatDoorQeK
namespace Go.Proofs.YtebbcofojchkpaaGreatDoor.Am
open Go Go.RowKit
theorem ylR {a b : List L8} (h : a.length ≤ 1048576) : T (zdC zaB a b) fun _ => True := by
 unfold zdC
 refine T.bif (fun _ => T.ok trivial) fun hl => ?_
 have hl : (a.length : Int) = (b.length : Int) := by simpa using hl
 refine T.bind (Q := fun _ => True) (T.places a.length (by omega) _ fun k hk => ?_) fun r _ => ?_
 ·unfold zlD
  exact T.dif (fun h2 => (T.ixn h2).bind fun _ _ => (T.ixn (by omega)).bind fun _ _ => T.bif (fun _ => T.ok trivial) fun _ => T.ok ⟨zdE (by omega), by omega⟩) fun _ => T.ok trivial
 ·cases r <;> exact T.ok trivial
theorem ysD {a b : Nd} (h : Lst a) : T (zdJ zaB a b) fun _ => True := by
 unfold zdJ
 refine T.bind (Q := fun _ => True) ?_ fun r _ => ?_
 ·unfold zlF
  exact (ylR h.1).bind fun _ _ => T.bif (fun _ => T.ok trivial) fun _ => (ylR h.2).bind fun _ _ => T.bif (fun _ => T.ok trivial) fun _ => T.ok trivial
 ·cases r with
  | inl _ => exact T.ok trivial
  | inr _ =>
   simp only []
   repeat' first | exact T.ok trivial | refine T.bif (fun _ => ?_) fun _ => ?_
theorem ymU {a b : List Int} (h : a.length ≤ 99999999) : T (zdM zaB a b) fun _ => True := by
 unfold zdM
 refine T.bif (fun _ => T.ok trivial) fun hl => ?_
 have hl : (a.length : Int) = (b.length : Int) := by simpa using hl
 refine T.bind (Q := fun _ => True) (T.places a.length (by omega) _ fun k hk => ?_) fun r _ => ?_
 ·unfold ziQ
  exact T.dif (fun h2 => (T.ixn h2).bind fun _ _ => (T.ixn (by omega)).bind fun _ _ => T.bif (fun _ => T.ok trivial) fun _ => T.ok ⟨zdE (by omega), by omega⟩) fun _ => T.ok trivial
 ·cases r <;> exact T.ok trivial
abbrev OpT : Type := Int × Int × Int × Int × L8 × Nd
def zyT (o : OpT) (nx : Int) (es : Es) : Int × Es :=
 bif o.2.1 == (0 : Int) then ((zoD o.2.2.2.2.2 o.2.2.1 nx es).2.2.1, (zoD o.2.2.2.2.2 o.2.2.1 nx es).2.2.2) else
 bif o.2.1 == (1 : Int) then (nx, es) else
 bif o.2.1 == (2 : Int) then (nx, (yaM es o.2.2.1 o.2.2.2.1).2) else
 bif o.2.1 == (3 : Int) then (nx, bif mhas keqI es o.2.2.1 then chI es o.2.2.1 zmJ else es) else
 bif o.2.1 == (4 : Int) then (nx, ziH es o.2.2.2.2.1) else
 bif o.2.1 == (5 : Int) then (nx, (yjC es o.2.2.1 o.2.2.2.1).2) else
 bif o.2.1 == (6 : Int) then (nx, (yiT es o.2.2.1 o.2.2.2.2.1).2) else
 bif o.2.1 == (7 : Int) then (nx, zdX es o.2.2.1) else (nx, es)
theorem Ok.kill {nx : Int} {es : Es} (h : Ok nx es) (i : Int) : Ok nx (bif mhas keqI es i then chI es i zmJ else es) := by
 cases mhas keqI es i with
 | false => exact h
 | true => exact h.ch (zlO _)
theorem Ok.step {nx : Int} {es : Es} (h : Ok nx es) (o : OpT) : Ok (zyT o nx es).1 (zyT o nx es).2 := by
 unfold zyT
 cases o.2.1 == (0 : Int) with
 | true => exact h.plant _ _
 | false =>
  cases o.2.1 == (1 : Int) with
  | true => exact h
  | false =>
   cases o.2.1 == (2 : Int) with
   | true => exact h.spend _ _
   | false =>
    cases o.2.1 == (3 : Int) with
    | true => exact h.kill _
    | false =>
     cases o.2.1 == (4 : Int) with
     | true => exact h.killed _
     | false =>
      cases o.2.1 == (5 : Int) with
      | true => exact h.lift _ _
      | false =>
       cases o.2.1 == (6 : Int) with
       | true => exact h.note _ _
       | false =>
        cases o.2.1 == (7 : Int) with
        | true => exact h.pruned _
        | false => exact h
theorem ytA : Lst zN := ⟨by decide, by decide⟩
theorem yjO {nx : Int} {es : Es} (h : Ok nx es) (i : Int) : Lst (zhO keqI es i zN) := by
 cases hh : mhas keqI es i with
 | false => rw [yhF hh]; exact ytA
 | true =>
  obtain ⟨n, hn, hp⟩ := znJ hh
  rw [ziU hn]
  exact h.lst hp
theorem ykD {nx : Int} {es : Es} (h : Ok nx es) {s : L8} {n : Nd} (hf : zwG es s = some n) : Lst n := by
 unfold zwG at hf
 obtain ⟨p, hp, rfl⟩ := Option.map_eq_some_iff.1 hf
 exact h.lst (List.mem_of_find?_eq_some hp)
theorem ytN {s : Int × Int × List Nd × Int × Es × Int × Int × Int × L8 × L8 × L8 × Int × Int × Bool × Bool × Int × L8 × L8 × List L8 × List L8} (h0 : s.1 = 0) (h1 : (s.2.2.2.2.2.2.2.2.2.2.2.2.2.2.2.2.2.2.1).length ≤ 1048576) (h2 : (s.2.2.2.2.2.2.2.2.2.2.2.2.2.2.2.2.2.2.2).length ≤ 1048576) : T (iter (fun x => zgO zaB x.1 x.2.1 x.2.2.1 x.2.2.2.1 x.2.2.2.2.1 x.2.2.2.2.2.1 x.2.2.2.2.2.2.1 x.2.2.2.2.2.2.2.1 x.2.2.2.2.2.2.2.2.1 x.2.2.2.2.2.2.2.2.2.1 x.2.2.2.2.2.2.2.2.2.2.1 x.2.2.2.2.2.2.2.2.2.2.2.1 x.2.2.2.2.2.2.2.2.2.2.2.2.1 x.2.2.2.2.2.2.2.2.2.2.2.2.2.1 x.2.2.2.2.2.2.2.2.2.2.2.2.2.2.1 x.2.2.2.2.2.2.2.2.2.2.2.2.2.2.2.1 x.2.2.2.2.2.2.2.2.2.2.2.2.2.2.2.2.1 x.2.2.2.2.2.2.2.2.2.2.2.2.2.2.2.2.2.1 x.2.2.2.2.2.2.2.2.2.2.2.2.2.2.2.2.2.2.1 x.2.2.2.2.2.2.2.2.2.2.2.2.2.2.2.2.2.2.2) s) fun r => r.1 = s.2.1 ∧ r.2.1 = s.2.2.1 ∧ r.2.2.1 = s.2.2.2.1 ∧ r.2.2.2.1 = s.2.2.2.2.1 ∧ (r.2.2.2.2.2.2.2.2.2.2.2.2.2.2.2.2.2.2).length ≤ 1048576 := by
 refine T.iter (fun x => x.2.1 = s.2.1 ∧ x.2.2.1 = s.2.2.1 ∧ x.2.2.2.1 = s.2.2.2.1 ∧ x.2.2.2.2.1 = s.2.2.2.2.1 ∧ 0 ≤ x.1 ∧ x.1 ≤ ((x.2.2.2.2.2.2.2.2.2.2.2.2.2.2.2.2.2.2.1).length : Int) ∧ (x.2.2.2.2.2.2.2.2.2.2.2.2.2.2.2.2.2.2.1).length ≤ 1048576 ∧ (x.2.2.2.2.2.2.2.2.2.2.2.2.2.2.2.2.2.2.2).length ≤ 1048576) (fun x => (x.2.2.2.2.2.2.2.2.2.2.2.2.2.2.2.2.2.2.1).length - x.1.toNat) _ (fun x hx => ?_) ⟨rfl, rfl, rfl, rfl, by omega, by omega, h1, h2⟩ (by omega)
 obtain ⟨e1, e2, e3, e4, h5, h6, h7, h8⟩ := hx
 obtain ⟨k, hk⟩ : ∃ k : Nat, x.1 = k := ⟨x.1.toNat, by omega⟩
 unfold zgO
 rw [hk]
 rw [hk] at h5 h6
 refine T.dif (fun h9 => ?_) fun _ => T.ok ⟨e1, e2, e3, e4, h8⟩
 rw [decide_eq_true (show (0 : Int) ≤ (k : Int) by omega), decide_eq_true h9, Bool.and_self, zoG rfl, zaA]
 refine (ymZ (by omega) h9).bind fun r hr => ?_
 obtain ⟨j, rfl⟩ := hr
 refine T.ok ⟨⟨e1, e2, e3, e4, ?_, ?_, ?_, h8⟩, ?_⟩
 ·rw [zdE (by omega)]; exact Int.natCast_nonneg _
 ·rw [zdE (by omega), List.length_set]; exact Int.ofNat_le.2 (by omega)
 ·rw [List.length_set]; exact h7
 ·rw [zdE (by omega), List.length_set, Int.toNat_natCast]; omega
theorem yvI {s : Int × Int × List Nd × Int × Es × Int × Int × Int × L8 × L8 × L8 × Int × Int × Bool × Bool × Int × L8 × L8 × List L8 × List L8} (h0 : s.1 = 0) (h2 : (s.2.2.2.2.2.2.2.2.2.2.2.2.2.2.2.2.2.2.2).length ≤ 1048576) : T (iter (fun x => zgL zaB x.1 x.2.1 x.2.2.1 x.2.2.2.1 x.2.2.2.2.1 x.2.2.2.2.2.1 x.2.2.2.2.2.2.1 x.2.2.2.2.2.2.2.1 x.2.2.2.2.2.2.2.2.1 x.2.2.2.2.2.2.2.2.2.1 x.2.2.2.2.2.2.2.2.2.2.1 x.2.2.2.2.2.2.2.2.2.2.2.1 x.2.2.2.2.2.2.2.2.2.2.2.2.1 x.2.2.2.2.2.2.2.2.2.2.2.2.2.1 x.2.2.2.2.2.2.2.2.2.2.2.2.2.2.1 x.2.2.2.2.2.2.2.2.2.2.2.2.2.2.2.1 x.2.2.2.2.2.2.2.2.2.2.2.2.2.2.2.2.1 x.2.2.2.2.2.2.2.2.2.2.2.2.2.2.2.2.2.1 x.2.2.2.2.2.2.2.2.2.2.2.2.2.2.2.2.2.2.1 x.2.2.2.2.2.2.2.2.2.2.2.2.2.2.2.2.2.2.2) s) fun r => r = (s.2.1, s.2.2.1, s.2.2.2.1, s.2.2.2.2.1) := by
 refine T.iter (fun x => x.2.1 = s.2.1 ∧ x.2.2.1 = s.2.2.1 ∧ x.2.2.2.1 = s.2.2.2.1 ∧ x.2.2.2.2.1 = s.2.2.2.2.1 ∧ 0 ≤ x.1 ∧ x.1 ≤ ((x.2.2.2.2.2.2.2.2.2.2.2.2.2.2.2.2.2.2.2).length : Int) ∧ (x.2.2.2.2.2.2.2.2.2.2.2.2.2.2.2.2.2.2.2).length ≤ 1048576) (fun x => (x.2.2.2.2.2.2.2.2.2.2.2.2.2.2.2.2.2.2.2).length - x.1.toNat) _ (fun x hx => ?_) ⟨rfl, rfl, rfl, rfl, by omega, by omega, h2⟩ (by omega)
 obtain ⟨e1, e2, e3, e4, h5, h6, h8⟩ := hx
 obtain ⟨k, hk⟩ : ∃ k : Nat, x.1 = k := ⟨x.1.toNat, by omega⟩
 unfold zgL
 rw [hk]
 rw [hk] at h5 h6
 refine T.dif (fun h9 => ?_) fun _ => T.ok (by rw [e1, e2, e3, e4])
 rw [decide_eq_true (show (0 : Int) ≤ (k : Int) by omega), decide_eq_true h9, Bool.and_self, zoG rfl, zaA]
 refine (ymZ (by omega) h9).bind fun r hr => ?_
 obtain ⟨j, rfl⟩ := hr
 refine T.ok ⟨⟨e1, e2, e3, e4, ?_, ?_, ?_⟩, ?_⟩
 ·rw [zdE (by omega)]; exact Int.natCast_nonneg _
 ·rw [zdE (by omega), List.length_set]; exact Int.ofNat_le.2 (by omega)
 ·rw [List.length_set]; exact h8
 ·rw [zdE (by omega), List.length_set, Int.toNat_natCast]; omega
def Did (nx : Int) (es : Es) : Bool × Int × List Nd × Int × Es → Prop := fun r => (r.2.1, r.2.2.2.2) = (nx, es) ∧ RY r.2.2.1 r.2.2.2.1
theorem yyJ {nx ny : Int} {es : Es} {L : List Nd} (h : Ok nx es) (hy : RY L ny) (o : OpT) (ho : NdOk o.2.2.2.2.2) : T (zeE zaB o nx L ny es) (Did (zyT o nx es).1 (zyT o nx es).2) := by
 unfold zeE zyT
 have h4 : o.2.2.2.2.2.2.2.2.2.2.2.1.length ≤ 1048576 := ho.2.2.2.1
 have h6 : o.2.2.2.2.2.2.2.2.2.2.2.2.2.2.2.2.1.length ≤ 1048576 := ho.2.2.2.2.2.1
 cases o.2.1 == (0 : Int) with
 | true =>
  simp only [cond_true]
  rw [zlR _ (by omega), zaA, zlR _ (by omega), zaA]
  rw [show zcU zaB _ _ _ _ _ _ _ _ _ _ _ _ _ _ _ _ _ _ = _ from yoP h o.2.2.2.2.2 o.2.2.1 ⟨h4, h6⟩, zaA]
  refine (yqW hy ho o.2.2.1).bind fun r hr => ?_
  refine T.bind (ytN (by exact rfl) (by exact h4) (by exact h6)) fun v hv => ?_
  obtain ⟨e1, e2, e3, e4, h7⟩ := hv
  refine T.bind (yvI (by exact rfl) (by exact h7)) fun v2 hv2 => ?_
  simp only at e1 e2 e3 e4
  rw [e1, e2, e3, e4] at hv2
  subst hv2
  exact T.bif (fun _ => T.ok ⟨rfl, hr⟩) fun _ => T.ok ⟨rfl, hr⟩
 | false =>
  cases o.2.1 == (1 : Int) with
  | true =>
   simp only [cond_true, cond_false]
   rw [yvV h, zaA]
   refine (zyR hy.len _).bind fun r hr => ?_
   obtain ⟨n1, b1, v⟩ := r
   obtain ⟨rfl, _⟩ := hr
   simp only []
   rw [ztZ h, zaA]
   have hql : Lst ((zwG es o.2.2.2.2.1).getD zN) := by
    cases hf : zwG es o.2.2.2.2.1 with
    | none => exact ytA
    | some n => exact ykD h hf
   refine (ykK hy.len _).bind fun r hr => ?_
   obtain ⟨n2, b2, v⟩ := r
   obtain ⟨rfl, _⟩ := hr
   simp only []
   have hok : ∀ b : Bool, Did nx es (b, nx, L, ny, es) := fun b => ⟨rfl, hy⟩
   refine T.bif (fun _ => T.bif (fun _ => (ysD (yjO h _)).bind fun _ _ => T.bif (fun _ => (ysD hql).bind fun _ _ => T.bif (fun _ => ?_) fun _ => T.ok (hok _)) fun _ => T.ok (hok _)) fun _ => T.ok (hok _)) fun _ => T.ok (hok _)
   rw [zxA h, zaA]
   refine (yfR hy _ _).bind fun r hr => ?_
   obtain ⟨b3, v⟩ := r
   simp only at hr
   subst hr
   refine T.bif (fun _ => ?_) fun _ => T.ok (hok _)
   rw [yaX h, zaA]
   refine (yfL hy _).bind fun r hr => ?_
   obtain ⟨L', ny', l⟩ := r
   obtain ⟨e1, e2, _⟩ := hr
   simp only at e1 e2
   subst e1 e2
   exact (ymU (zuC h _)).bind fun _ _ => T.ok (hok _)
  | false =>
   cases o.2.1 == (2 : Int) with
   | true =>
    simp only [cond_true, cond_false]
    rw [yrN h, zaA]
    exact (yqV hy _ _).bind fun r hr => T.ok ⟨rfl, hr⟩
   | false =>
    cases o.2.1 == (3 : Int) with
    | true =>
     simp only [cond_true, cond_false]
     rw [yxJ h, zaA]
     refine (ynT hy _).bind fun r hr => T.ok ⟨?_, hr⟩
     cases mhas keqI es o.2.2.1 <;> rfl
    | false =>
     cases o.2.1 == (4 : Int) with
     | true =>
      simp only [cond_true, cond_false]
      rw [zxF h, zaA]
      exact (ymO hy _).bind fun r hr => T.ok ⟨rfl, hr⟩
     | false =>
      cases o.2.1 == (5 : Int) with
      | true =>
       simp only [cond_true, cond_false]
       rw [yuV h, zaA]
       exact (yxF hy _ _).bind fun r hr => T.ok ⟨rfl, hr⟩
      | false =>
       cases o.2.1 == (6 : Int) with
       | true =>
        simp only [cond_true, cond_false]
        rw [ywX h, zaA]
        exact (ywS hy _ _).bind fun r hr => T.ok ⟨rfl, hr⟩
       | false =>
        cases o.2.1 == (7 : Int) with
        | true =>
         simp only [cond_true, cond_false]
         rw [zwR h, zaA]
         refine (ygH hy _).bind fun r hr => T.ok ⟨rfl, ?_⟩
         obtain ⟨m, nx', out⟩ := r
         obtain ⟨e1, hsub, hlen⟩ := hr
         simp only at e1 hsub hlen
         subst e1
         exact ⟨fun q hq => hy.ids q (hsub q hq), fun q hq => hy.ok q (hsub q hq), hy.next, Nat.le_trans hlen hy.len⟩
        | false => exact T.ok ⟨rfl, hy⟩
def zxY (l : List OpT) : Int × Es := l.foldl (fun s o => zyT o s.1 s.2) (1, [])
theorem ysJ : Ok 1 [] := ⟨List.Pairwise.nil, fun _ h => (by cases h), fun _ h => (by cases h), fun _ h => (by cases h), fun _ h => (by cases h), ⟨by decide, by decide⟩, by decide⟩
theorem ycK : ∀ (l : List OpT) (s : Int × Es), Ok s.1 s.2 → Ok (l.foldl (fun s o => zyT o s.1 s.2) s).1 (l.foldl (fun s o => zyT o s.1 s.2) s).2
 | [], _, h => h
 | o :: l, s, h => ycK l (zyT o s.1 s.2) (h.step o)
theorem ylK (l : List OpT) : Ok (zxY l).1 (zxY l).2 := ycK l (1, []) ysJ
theorem yxE {l : List OpT} (hl : l.length ≤ 1048576) (ho : ∀ o ∈ l, NdOk o.2.2.2.2.2) : zeV zaB l = some (zxY l) := by
 have h : T (iter (fun x => zhG zaB l x.1 x.2.1 x.2.2.1 x.2.2.2.1 x.2.2.2.2) ((0 : Int), 1, ([] : List Nd), 1, ([] : Es))) fun r => r = zxY l := by
  refine T.iter (fun x => 0 ≤ x.1 ∧ x.1 ≤ (l.length : Int) ∧ (x.2.1, x.2.2.2.2) = (l.take x.1.toNat).foldl (fun s o => zyT o s.1 s.2) (1, []) ∧ RY x.2.2.1 x.2.2.2.1) (fun x => l.length - x.1.toNat) _ (fun x hx => ?_) ⟨Int.le_refl _, by simp, rfl, ⟨fun _ h => (by cases h), fun _ h => (by cases h), ⟨by decide, by decide⟩, by decide⟩⟩ (by simp; omega)
  obtain ⟨i, nx, L, ny, es⟩ := x
  obtain ⟨h1, h2, h3, hy⟩ := hx
  simp only at h1 h2 h3 hy
  obtain ⟨k, rfl⟩ : ∃ k : Nat, i = k := ⟨i.toNat, by omega⟩
  rw [Int.toNat_natCast] at h3
  unfold zhG
  simp only []
  refine T.dif (fun h4 => ?_) fun h4 => T.ok ?_
  ·have hk : k < l.length := by omega
   rw [zkF rfl hk, zaA]
   have hO := ycK (l.take k) (1, []) ysJ
   rw [← h3] at hO
   refine (yyJ hO hy l[k] (ho _ (List.getElem_mem hk))).bind fun r hr => ?_
   obtain ⟨b, nx', L', ny', es'⟩ := r
   obtain ⟨h5, h6⟩ := hr
   refine T.ok ⟨⟨?_, ?_, ?_, h6⟩, ?_⟩
   ·simp only []; rw [zdE (by omega)]; omega
   ·simp only []; rw [zdE (by omega)]; omega
   ·simp only []
    rw [zdE (by omega), Int.toNat_natCast, List.take_succ_eq_append_getElem hk, List.foldl_append, ← h3]
    exact h5
   ·simp only []; rw [zdE (by omega)]; omega
  ·rw [List.take_of_length_le (by omega)] at h3
   exact h3
 obtain ⟨r, h1, rfl⟩ := h
 unfold zeV zhW ziM
 rw [zaA, zaA]
 rw [show iter _ _ = _ from h1, zaA]
end Go.Proofs.YtebbcofojchkpaaGreatDoor.Am
namespace Go.Proofs.YtebbcofojchkpaaGreatDoor
open Go Go.RowKit
section
open Go Go.RowKit Go.ChangeShapes Go.WideShapes Go.ChangeAt
section
variable {H : Type} {enc : TypeId × Value → H} {P : Program} {W W' : World}
theorem zxX (hl : laidOutB P = true) (hx : Below W.heap.size W W') : ∀ {ts : List TypeId} {vs : LV} {ds : List (DataW H)} {ps : List MemPlace}, ts.all (fun t => P.readableRec t && decide (t < P.types.size)) = true →
  DataW.TrodAll enc P W 0 (fun _ => true) true ts vs ds ps → (∀ x ∈ ps, x.block < W.heap.size) → DataW.TrodAll enc P W' 0 (fun b => decide (b < W.heap.size)) true ts vs ds ps
 | [], vs, ds, ps, _, h, _ => by
  obtain ⟨rfl, rfl, rfl⟩ := trodAll_nil h
  exact trodAll_mk0
 | t :: ts, vs, ds, ps, ha, h, hlt => by
  obtain ⟨v, vs', d, ds', p, q, rfl, rfl, rfl, h0, hr⟩ := trodAll_cons h
  simp only [List.all_cons, Bool.and_eq_true, decide_eq_true_eq] at ha
  exact trodAll_cons_mk (Below.trod hl ha.1.1 ha.1.2 h0 hx fun x hx => hlt x (List.mem_append.2 (.inl hx)))
   (zxX hl hx ha.2 hr fun x hx => hlt x (List.mem_append.2 (.inr hx)))
theorem trodAll_length : ∀ {ts : List TypeId} {vs : LV} {ds : List (DataW H)} {ps : List MemPlace} {w : World} {b : Nat} {sp : Nat → Bool} {hd : Bool}, DataW.TrodAll enc P w b sp hd ts vs ds ps → vs.length = ts.length ∧ ds.length = ts.length
 | [], vs, ds, ps, _, _, _, _, h => by
  obtain ⟨rfl, rfl, rfl⟩ := trodAll_nil h
  exact ⟨rfl, rfl⟩
 | t :: ts, vs, ds, ps, _, _, _, _, h => by
  obtain ⟨v, vs', d, ds', p, q, rfl, rfl, rfl, h0, hr⟩ := trodAll_cons h
  have := trodAll_length hr
  simp [this.1, this.2]
theorem yqD {f : Func} {s : ChangeSpec} {args : Array Value} {ds gs : List (DataW H)} {before : List MemPlace} {B : TypeId} {n : Nat} (hl : laidOutB P = true) (hv : s.vars = [])
  (hp : f.params.toList.all (fun t => P.readableRec t && decide (t < P.types.size)) = true) (hn : f.params.toList.length = n) (hB : P.underlying B = some .bool) (hr : f.resultTypes = #[B])
  (hfn : ∀ ds : List (DataW H), ds.length = n → (s.fn H (ds ++ [])).results = [.lit (.bool true)] ∧ (s.fn H (ds ++ [])).args = ds ∧ (s.fn H (ds ++ [])).vars = [])
  (hW : DataW.Whole enc P f.params.toList s.vars false W args.toList ds gs before) (hx : Ext W W') : s.post enc P f false true false false W args (.bool true) W' := by
 have hW' := hW
 obtain ⟨p, q, hA, hV, rfl, _, _⟩ := hW
 rw [hv] at hV
 obtain ⟨rfl, rfl⟩ := trodVars_none hV
 have hA : DataW.TrodAll enc P W 0 (fun _ => true) true f.params.toList args.toList ds p := hA
 have hlen := trodAll_length hA
 obtain ⟨f1, f2, f3⟩ := hfn ds (hlen.2.trans hn)
 refine ⟨ds, [], p ++ [], [], p, [], hW', ?_, ?_, ?_, Below.frame hx _, fun h => by cases h⟩
 ·rw [f1, hr]
  exact trodAll_mk1 (shut_bool hB _)
 ·rw [f2]
  exact zxX hl hx hp hA fun x hxp => by simpa using hW'.lt x (by simp [hxp])
 ·rw [f3, hv]; exact rfl
variable {b0 : Nat} {T E : TypeId} {v : Value}
theorem yrJ {fits : TypeId → Bool} : ∀ {d : Nat} {e : TypeId} {count off n : Nat}, rowAt P fits d e count off n = true → off ≤ count * P.cellsOf e
 | 0, _, _, _, _, h => by simp [rowAt] at h
 | d + 1, e, count, off, n, h => by
  unfold rowAt at h
  by_cases hs : P.cellsOf e = 0
  ·simp [hs] at h
  ·have hd := Nat.div_add_mod off (P.cellsOf e)
   have hm := Nat.mod_lt off (Nat.pos_of_ne_zero hs)
   simp only [hs, if_false, Bool.or_eq_true, Bool.and_eq_true, decide_eq_true_eq, beq_iff_eq] at h
   rcases h with ⟨⟨h1, h2⟩, _⟩ | ⟨h1, _⟩
   ·have h3 : P.cellsOf e * (off / P.cellsOf e) ≤ P.cellsOf e * count := Nat.mul_le_mul_left _ (by omega)
    rw [Nat.mul_comm count]; omega
   ·have h3 : P.cellsOf e * (off / P.cellsOf e + 1) ≤ P.cellsOf e * count := Nat.mul_le_mul_left _ (by omega)
    rw [Nat.mul_add, Nat.mul_one] at h3
    rw [Nat.mul_comm count]; omega
theorem ydX : ∀ {d : Nat} {e : TypeId} {count off : Nat} {u : TypeId} {n : Nat}, liesAt P d e count off u n = true → off ≤ count * P.cellsOf e
 | 0, _, _, _, _, _, h => by simp [liesAt] at h
 | d + 1, e, count, off, u, n, h => by
  unfold liesAt at h
  rw [Bool.or_eq_true] at h
  rcases h with h | h
  ·exact yrJ h
  ·split at h
   ·exact ydX h
   ·cases h
theorem ypO {a : Addr} {len cap : Nat} (hu : P.underlying T = some (.slice E)) (h : Value.okWide P W .any b0 T (.slice (some a) len cap)) :
  a.spot = none ∧ ∃ cs R fz, W.heap[a.block]? = some (.cells cs R fz) ∧ a.off ≤ cs.size := by
 simp only [Value.okWide, Cell.okWide, Cell.ok, hu] at h
 obtain ⟨_, _, _, h2, row, cells, h3, h4⟩ := h
 refine ⟨h2, ?_⟩
 unfold World.shape? at h3
 split at h3
 ·rename_i c elem fz hb
  simp only [Option.some.injEq, Prod.mk.injEq] at h3
  obtain ⟨rfl, rfl⟩ := h3
  have h5 := ydX h4
  have h6 := Nat.div_mul_le_self c.size (P.cellsOf elem)
  exact ⟨c, _, fz, hb, by omega⟩
 ·cases h3
theorem ok_slice (hu : P.underlying T = some (.slice E)) (h : Value.okWide P W .any b0 T v) : v = .slice none 0 0 ∨ ∃ a len cap, v = .slice (some a) len cap := by
 simp only [Value.okWide, Cell.okWide, Cell.ok, hu] at h
 cases v with
 | slice a len cap =>
  cases a with
  | none =>
   left
   cases len with
   | zero => cases cap with
    | zero => rfl
    | succ n => simp at h
   | succ n => simp at h
  | some a => exact .inr ⟨a, len, cap, rfl⟩
 | _ => simp at h
theorem ygN {l r : List (DataW H)} : Rows.uptoBulkAll (l ++ r) = Rows.uptoBulkAll l + Rows.uptoBulkAll r := by
 induction l with
 | nil => simp [Rows.uptoBulkAll]
 | cons x l ih => simp only [List.cons_append, Rows.uptoBulkAll, ih]; omega
end
end
end Go.Proofs.YtebbcofojchkpaaGreatDoor
namespace Go.Proofs.YtebbcofojchkpaaGreatDoor.Am
open Go Go.RowKit Go.ChangeShapes Go.WideShapes Go.ChangeAt
def dsz : (t : Ty) → den t → Nat
 | .s, x => List.length x + 1
 | .pr a c, x => dsz a x.1 + dsz c x.2
 | .un, _ => 0
 | .sl e, x => (List.map (dsz e) x).sum + 1
 | _, _ => 1
def fOk (q : TypeId → Ty → Bool) (c : TypeId → Nat) : List Field → Nat → Ty → Bool
 | [], _, t => match t with
  | .un => true
  | _ => false
 | [f], off, t => (q f.type t && (Nat.beq f.offset off && Nat.beq (c f.type) (tsz t))) || (match t with
  | .pr a .un => q f.type a && (Nat.beq f.offset off && Nat.beq (c f.type) (tsz a))
  | _ => false)
 | f :: g :: fs, off, t => match t with
  | .pr a r => (q f.type a && (Nat.beq f.offset off && Nat.beq (c f.type) (tsz a))) && fOk q c (g :: fs) (off + tsz a) r
  | _ => false
def tyOk (P : Program) : Nat → TypeId → Ty → Bool
 | 0, _, _ => false
 | n + 1, T, t => match P.underlying T, t with
  | some (.int k), .i k' => (ikEq k k').isSome
  | some .bool, .b => true
  | some .string, .s => true
  | some (.slice E), .sl e => tyOk P n E e && (Nat.beq (P.cellsOf E) (tsz e) && Nat.blt 0 (tsz e))
  | some (.struct fs), t => (Nat.beq (P.cellsOf T) (tsz t) && !(one t)) && fOk (tyOk P n) P.cellsOf fs.toList 0 t
  | _, _ => false
section
variable {H : Type} {enc : TypeId × Value → H} {P : Program} {W : World} {sp : Nat → Bool} {S : Mem}
theorem xbD : ∀ {k : IntKind} {n : Int}, (Lit.int k n).wf = true → toI k (ofI k n) = n := fun {k n} h => by
 rw [ynF]
 cases k <;> simp [Lit.wf, IntKind.has, IntKind.min, IntKind.max, IntKind.signed, IntKind.bits] at h <;> simp [IntKind.wrap, IntKind.signed, IntKind.bits] <;> omega
theorem ycZ {a c : Ty} {cs : LV} {x : den a} {y : den c} (hx : rep a S (cs.take (tsz a)) x) (hy : rep c S (cs.drop (tsz a)) y) : rep (.pr a c) S cs (x, y) :=
 ⟨_, _, (List.take_append_drop (tsz a) cs).symm, hx, hy⟩
theorem ysH : rep .un S ([] : LV) () := rfl
theorem ycW {q : TypeId → Ty → Bool} {fuel : Nat} (hq : ∀ (T : TypeId) (t : Ty), q T t = true → ∀ cs d ps, DataW.trod enc P W 0 sp true fuel T cs = some (d, ps) → ∃ x : den t, rep t S cs x ∧ dsz t x ≤ Rows.uptoBulk d) {cs : LV} :
  ∀ (fs : List Field) (off : Nat) (t : Ty) (xs : List (DataW H × List MemPlace)), fOk q P.cellsOf fs off t = true → cs.length = off + tsz t →
   A2 (fun (f : Field) y => DataW.trod enc P W 0 sp true fuel f.type ((cs.drop f.offset).take (P.cellsOf f.type)) = some y) fs xs →
   ∃ x : den t, rep t S (cs.drop off) x ∧ dsz t x ≤ Rows.uptoBulkAll (xs.map (·.1))
 | [], off, t, xs, h, hl, hA => by
  cases t <;> simp only [fOk] at h <;> try (cases h; done)
  cases hA
  refine ⟨(), ?_, Nat.zero_le _⟩
  rw [List.drop_eq_nil_of_le (by rw [hl]; exact Nat.le_refl _)]
  exact ysH
 | [f], off, t, xs, h, hl, hA => by
  cases hA with
  | @cons _ y _ _ h1 h2 =>
   cases h2
   simp only [fOk, Bool.or_eq_true] at h
   rcases h with h | h
   ·rw [Bool.and_eq_true, Bool.and_eq_true] at h
    obtain ⟨h0, h2, h3⟩ := h
    have h2 := Nat.eq_of_beq_eq_true h2
    have h3 := Nat.eq_of_beq_eq_true h3
    obtain ⟨x, hx, hd⟩ := hq _ _ h0 _ _ _ h1
    refine ⟨x, ?_, by simp only [List.map_cons, List.map_nil, Rows.uptoBulkAll]; omega⟩
    rw [h2, h3, List.take_of_length_le (by rw [List.length_drop]; omega)] at hx
    exact hx
   ·cases t with
    | pr a c =>
     cases c with
     | un =>
      rw [Bool.and_eq_true, Bool.and_eq_true] at h
      obtain ⟨h0, h2, h3⟩ := h
      have h2 := Nat.eq_of_beq_eq_true h2
      have h3 := Nat.eq_of_beq_eq_true h3
      obtain ⟨x, hx, hd⟩ := hq _ _ h0 _ _ _ h1
      rw [h2, h3] at hx
      have hl : cs.length = off + tsz a := hl
      refine ⟨(x, ()), ycZ hx ?_, by simp only [List.map_cons, List.map_nil, Rows.uptoBulkAll]; show dsz a x + 0 ≤ _; omega⟩
      rw [List.drop_eq_nil_of_le (by rw [List.length_drop]; omega)]
      exact ysH
     | _ => simp at h
    | _ => simp at h
 | f :: g :: fs, off, t, xs, h, hl, hA => by
  cases t with
  | pr a r =>
   simp only [fOk] at h
   rw [Bool.and_eq_true, Bool.and_eq_true, Bool.and_eq_true] at h
   obtain ⟨⟨h1, h2, h3⟩, h4⟩ := h
   have h2 := Nat.eq_of_beq_eq_true h2
   have h3 := Nat.eq_of_beq_eq_true h3
   have hl : cs.length = off + (tsz a + tsz r) := hl
   cases hA with
   | @cons _ y _ ys g1 g2 =>
    obtain ⟨x, hx, hd⟩ := hq _ _ h1 _ _ _ g1
    obtain ⟨z, hz, he⟩ := ycW hq (g :: fs) (off + tsz a) r ys h4 (by omega) g2
    rw [h2, h3] at hx
    refine ⟨(x, z), ycZ hx (by rw [List.drop_drop]; exact hz), ?_⟩
    simp only [List.map_cons, Rows.uptoBulkAll]
    show dsz a x + dsz r z ≤ _
    omega
  | _ => simp [fOk] at h
theorem ysX {α β : Type} {R : α → β → Prop} : ∀ {l : List α} {m : List β}, l.length = m.length → (∀ (i : Nat) (a : α) (b : β), l[i]? = some a → m[i]? = some b → R a b) → A2 R l m
 | [], [], _, _ => .nil
 | [], _ :: _, h, _ => by cases h
 | _ :: _, [], h, _ => by cases h
 | a :: l, b :: m, h, hR => .cons (hR 0 a b rfl rfl) (ysX (by simpa using h) fun i a b ha hb => hR (i + 1) a b (by simpa using ha) (by simpa using hb))
theorem ykA {e : Ty} : ∀ {xs : List (den e)} {cs ds : LV} {x : den e}, @RL (den e) (rpD e) S cs xs → rep e S ds x → @RL (den e) (rpD e) S (cs ++ ds) (xs ++ [x])
 | [], cs, ds, x, h, hx => by
  have h : cs = [] := h
  subst h
  exact ⟨ds, [], by simp, hx, rfl⟩
 | y :: xs, cs, ds, x, h, hx => by
  obtain ⟨c, d, rfl, h1, h2⟩ := h
  exact ⟨c, d ++ ds, by simp, h1, ykA h2 hx⟩
theorem xcR {T E : TypeId} {e : Ty} {fuel : Nat} (hu : P.underlying T = some (.slice E)) (hc : P.cellsOf E = tsz e) (hz : 0 < tsz e) (hq : ∀ (m : Nat) (cs : LV) (d : DataW H) (ps : List MemPlace), DataW.trod enc P W 0 (fun _ => true) true m E cs = some (d, ps) → ∃ x : den e, rep e (znK W) cs x ∧ dsz e x ≤ Rows.uptoBulk d) {cs : LV} {d : DataW H} {ps : List MemPlace} (hd : DataW.trod enc P W 0 (fun _ => true) true fuel T cs = some (d, ps)) :
  ∃ xs : List (den e), rep (.sl e) (znK W) cs xs ∧ dsz (.sl e) xs ≤ Rows.uptoBulk d := by
 rcases DataW.trod_slice hu hd with ⟨rfl, h2⟩ | ⟨a, len, cap, elems, rest, m, rfl, rfl, h2, _, hlc, _, hel, hget, hrest, _⟩
 ·cases h2
  exact ⟨[], ⟨_, rfl, [], .inl ⟨⟨none, rfl⟩, rfl, rfl⟩, rfl⟩, Nat.le_refl _⟩
 ·cases h2
  by_cases hcap : cap = 0
  ·subst hcap
   obtain rfl : len = 0 := by omega
   refine ⟨[], ⟨_, rfl, [], .inl ⟨⟨some a, rfl⟩, rfl, rfl⟩, rfl⟩, ?_⟩
   show 0 + 1 ≤ _
   simp only [Rows.uptoBulk]
   omega
  have h0 : ∃ us, W.cells? 0 a (P.cellsOf E) = some us := by
   by_cases hl0 : len = 0
   ·subst hl0
    obtain ⟨g1, g2⟩ := hrest rfl
    have g3 := g2 0 (by omega)
    rw [List.getElem?_eq_getElem (by omega : 0 < rest.length)] at g3
    obtain ⟨us, hus, _⟩ := Option.bind_eq_some_iff.1 g3
    rw [show a.add ((0 + 0) * P.cellsOf E) = a by simp [Addr.add]] at hus
    exact ⟨us, hus⟩
   ·have g3 := hget 0 (by omega)
    rw [List.getElem?_eq_getElem (by omega : 0 < elems.length)] at g3
    obtain ⟨us, hus, _⟩ := Option.bind_eq_some_iff.1 g3
    rw [show a.add (0 * P.cellsOf E) = a by simp [Addr.add]] at hus
    exact ⟨us, hus⟩
  obtain ⟨us, hus⟩ := h0
  obtain ⟨_, hul, huc⟩ := World.cells?_some hus
  have hc0 := huc 0 (by omega)
  rw [show a.add 0 = a by simp [Addr.add], List.getElem?_eq_getElem (by omega : 0 < us.length)] at hc0
  obtain ⟨blk, off, spot⟩ := a
  obtain ⟨cs, R, fz, hb, hsp, ho⟩ : ∃ cs R fz, W.heap[blk]? = some (.cells cs R fz) ∧ spot = none ∧ off ≤ cs.size := by
   unfold World.cell? at hc0
   dsimp only at hc0
   split at hc0
   ·rename_i c R fz hb
    cases spot with
    | some s => simp at hc0
    | none =>
     rw [if_neg (by simp)] at hc0
     have := (Array.getElem?_eq_some_iff.1 hc0).1
     exact ⟨c, R, fz, hb, rfl, Nat.le_of_lt this⟩
   ·cases hc0
  subst hsp
  have ad : ∀ j, (⟨blk, off, none⟩ : Addr).add j = ⟨blk, off + j, none⟩ := fun j => by simp [Addr.add]
  have each : ∀ i, i < len → ∃ y x, elems[i]? = some y ∧ rep e (znK W) (piece cs.toList (off + i * tsz e) (tsz e)) x ∧ dsz e x ≤ Rows.uptoBulk y.1 ∧ off + (i + 1) * tsz e ≤ cs.toList.length := fun i hi => by
   have hg := hget i hi
   obtain ⟨y, hy⟩ : ∃ y, elems[i]? = some y := ⟨_, List.getElem?_eq_getElem (by omega)⟩
   rw [hy] at hg
   obtain ⟨us, hus, hg⟩ := Option.bind_eq_some_iff.1 hg
   obtain ⟨_, hul, huc⟩ := World.cells?_some hus
   obtain ⟨x, hx, hdx⟩ := hq m us y.1 y.2 hg
   rw [hc, ad] at huc
   rw [hc] at hul
   have hcell : ∀ j, j < tsz e → cs.toList[off + i * tsz e + j]? = us[j]? := fun j hj => by
    have := huc j hj
    rw [show (⟨blk, off + i * tsz e, none⟩ : Addr).add j = ⟨blk, off + i * tsz e + j, none⟩ by simp [Addr.add]] at this
    simp only [World.cell?, hb, Option.isSome_none, if_neg (show ¬ (false = true) by decide)] at this
    simpa using this
   have hlen : off + (i + 1) * tsz e ≤ cs.toList.length := by
    have h1 := hcell (tsz e - 1) (by omega)
    rw [List.getElem?_eq_getElem (by omega : tsz e - 1 < us.length)] at h1
    have := (List.getElem?_eq_some_iff.1 h1).1
    rw [Nat.add_mul]; omega
   refine ⟨y, x, hy, ?_, hdx, hlen⟩
   have : piece cs.toList (off + i * tsz e) (tsz e) = us := by
    apply List.ext_getElem?
    intro j
    rw [zaG, List.getElem?_take]
    by_cases hj : j < tsz e
    ·rw [if_pos hj, List.getElem?_drop]; exact hcell j hj
    ·rw [if_neg hj, List.getElem?_eq_none (by omega)]
   rw [this]; exact hx
  have key : ∀ k, k ≤ len → ∃ xs : List (den e), xs.length = k ∧ @RL (den e) (rpD e) (znK W) (piece cs.toList off (k * tsz e)) xs ∧ (List.map (dsz e) xs).sum ≤ Rows.uptoBulkAll ((elems.take k).map (·.1)) := by
   intro k
   induction k with
   | zero => intro _; exact ⟨[], rfl, by simp [piece, RL], Nat.zero_le _⟩
   | succ k ih =>
    intro hk
    obtain ⟨xs, h1, h2, h3⟩ := ih (by omega)
    obtain ⟨y, x, g1, g2, g3, _⟩ := each k (by omega)
    refine ⟨xs ++ [x], by simp [h1], ?_, ?_⟩
    ·have e2 : piece cs.toList off ((k + 1) * tsz e) = piece cs.toList off (k * tsz e) ++ piece cs.toList (off + k * tsz e) (tsz e) := by
      rw [zaG, zaG, zaG, Nat.add_mul, Nat.one_mul, List.take_add, List.drop_drop]
     rw [e2]
     exact ykA h2 g2
    ·rw [List.take_add_one, g1]
     simp only [Option.toList_some, List.map_append, List.map_cons, List.map_nil, List.sum_append, List.sum_cons, List.sum_nil, ygN, Rows.uptoBulkAll]
     omega
  obtain ⟨xs, h1, h2, h3⟩ := key len (Nat.le_refl _)
  have hfit : off + len * tsz e ≤ cs.toList.length := by
   rcases Nat.eq_zero_or_pos len with h0 | h0
   ·subst h0; rw [Array.length_toList]; omega
   ·obtain ⟨_, _, _, _, _, h4⟩ := each (len - 1) (by omega)
    rwa [Nat.sub_add_cancel h0] at h4
  refine ⟨xs, ⟨_, rfl, piece cs.toList off (len * tsz e), ?_, h2⟩, ?_⟩
  ·right
   refine ⟨blk, off, cap, cs.toList, R, fz, ?_, by rw [h1]; exact hlc, by simpa [znK] using hb, ?_, ?_⟩
   ·rw [h1]
   ·rw [h1]; show _ + _ * (rpD e).sz ≤ _; rw [zjG]; exact hfit
   ·rw [h1]; show piece _ _ (_ * (rpD e).sz) = _; rw [zjG]
  ·rw [List.take_of_length_le (by omega)] at h3
   show (List.map (dsz e) xs).sum + 1 ≤ _
   simp only [Rows.uptoBulk]
   omega
theorem ybY : ∀ (n : Nat) (T : TypeId) (t : Ty), tyOk P n T t = true → ∀ (fuel : Nat) (cs : LV) (d : DataW H) (ps : List MemPlace), DataW.trod enc P W 0 (fun _ => true) true fuel T cs = some (d, ps) → ∃ x : den t, rep t (znK W) cs x ∧ dsz t x ≤ Rows.uptoBulk d
 | 0, _, _, h, _, _, _, _, _ => by cases h
 | n + 1, T, t, h, fuel, cs, d, ps, hd => by
  unfold tyOk at h
  split at h
  ·rename_i k k' hu
   obtain ⟨hk, _⟩ := Option.isSome_iff_exists.1 h
   obtain rfl := hk.down
   obtain ⟨m, rfl, he, hw⟩ := DataW.trod_int hu hd
   cases he
   exact ⟨ofI _ m, (by show [Value.int _ m] = [.int _ (toI _ (ofI _ m))]; rw [xbD hw]), Nat.le_refl 1⟩
  ·rename_i hu
   obtain ⟨b, rfl, he⟩ := DataW.trod_bool hu hd
   cases he
   exact ⟨b, rfl, Nat.le_refl 1⟩
  ·rename_i hu
   obtain ⟨s, rfl, he, _⟩ := DataW.trod_string hu hd
   cases he
   exact ⟨s.data.toList, (by show [Value.string s] = [str s.data.toList]; simp [str]), Nat.le_refl _⟩
  ·rename_i E e hu
   rw [Bool.and_eq_true, Bool.and_eq_true] at h
   obtain ⟨h1, h2, h3⟩ := h
   exact xcR hu (Nat.eq_of_beq_eq_true h2) (by rw [zjZ] at h3; simpa using h3) (fun m cs d ps hd => ybY n E e h1 m cs d ps hd) hd
  ·rename_i fs hu
   rw [Bool.and_eq_true, Bool.and_eq_true] at h
   obtain ⟨⟨h1, _⟩, h2⟩ := h
   have h1 := Nat.eq_of_beq_eq_true h1
   obtain ⟨xs, fuel, rfl, he, hl, hxl, hm⟩ := DataW.trod_struct hu hd
   cases he
   obtain ⟨x, hx, hb⟩ := ycW (S := znK W) (fuel := fuel) (fun T' t' hq cs d ps => ybY n T' t' hq fuel cs d ps) fs.toList 0 _ xs h2 (by rw [hl, h1]; omega) (ysX (by simp [hxl]) fun i f y hf hy => (hm i f (by simpa using hf)).trans hy)
   exact ⟨x, by simpa using hx, by simp only [Rows.uptoBulk]; omega⟩
  ·cases h
variable {b0 : Nat} {T E : TypeId} {v : Value}
theorem ypP {n : Nat} {e : Ty} (hu : P.underlying T = some (.slice E)) (he : tyOk P n E e = true) (hc : P.cellsOf E = tsz e) (hz : 0 < tsz e) (h : Value.okWide P W .any b0 T v) {d : DataW H} {ps : List MemPlace} (hd : DataW.Trod enc P W 0 (fun _ => true) true T v d ps) :
  ∃ xs : List (den e), @RdS (den e) (rpD e) (znK W) v xs ∧ dsz (.sl e) xs ≤ Rows.uptoBulk d := by
 obtain ⟨fuel, hf⟩ := hd
 have hv := ok_slice hu h
 have hcells : v.cells.toList = [v] := by
  rcases hv with rfl | ⟨a, len, cap, rfl⟩ <;> rfl
 rw [hcells] at hf
 rcases DataW.trod_slice hu hf with ⟨h1, h2⟩ | ⟨a, len, cap, elems, rest, m, rfl, h1, h2, _, hlc, _, hel, hget, _, _⟩
 ·simp only [List.cons.injEq, and_true] at h1
  subst h1
  cases h2
  exact ⟨[], ⟨[], .inl ⟨⟨none, rfl⟩, rfl, rfl⟩, rfl⟩, Nat.le_refl _⟩
 ·simp only [List.cons.injEq, and_true] at h1
  subst h1
  cases h2
  obtain ⟨hsp, cs, R, fz, hb, ho⟩ := ypO hu h
  obtain ⟨blk, off, spot⟩ := a
  dsimp only at hsp hb ho
  subst hsp
  have ad : ∀ j, (⟨blk, off, none⟩ : Addr).add j = ⟨blk, off + j, none⟩ := fun j => by simp [Addr.add]
  have each : ∀ i, i < len → ∃ y x, elems[i]? = some y ∧ rep e (znK W) (piece cs.toList (off + i * tsz e) (tsz e)) x ∧ dsz e x ≤ Rows.uptoBulk y.1 ∧ off + (i + 1) * tsz e ≤ cs.toList.length := fun i hi => by
   have hg := hget i hi
   obtain ⟨y, hy⟩ : ∃ y, elems[i]? = some y := ⟨_, List.getElem?_eq_getElem (by omega)⟩
   rw [hy] at hg
   obtain ⟨us, hus, hg⟩ := Option.bind_eq_some_iff.1 hg
   obtain ⟨_, hul, huc⟩ := World.cells?_some hus
   obtain ⟨x, hx, hdx⟩ := ybY n E e he m us y.1 y.2 hg
   rw [hc, ad] at huc
   rw [hc] at hul
   have hcell : ∀ j, j < tsz e → cs.toList[off + i * tsz e + j]? = us[j]? := fun j hj => by
    have := huc j hj
    rw [show (⟨blk, off + i * tsz e, none⟩ : Addr).add j = ⟨blk, off + i * tsz e + j, none⟩ by simp [Addr.add]] at this
    simp only [World.cell?, hb, Option.isSome_none, if_neg (show ¬ (false = true) by decide)] at this
    simpa using this
   have hlen : off + (i + 1) * tsz e ≤ cs.toList.length := by
    have h1 := hcell (tsz e - 1) (by omega)
    rw [List.getElem?_eq_getElem (by omega : tsz e - 1 < us.length)] at h1
    have := (List.getElem?_eq_some_iff.1 h1).1
    rw [Nat.add_mul]; omega
   refine ⟨y, x, hy, ?_, hdx, hlen⟩
   have : piece cs.toList (off + i * tsz e) (tsz e) = us := by
    apply List.ext_getElem?
    intro j
    rw [zaG, List.getElem?_take]
    by_cases hj : j < tsz e
    ·rw [if_pos hj, List.getElem?_drop]; exact hcell j hj
    ·rw [if_neg hj, List.getElem?_eq_none (by omega)]
   rw [this]; exact hx
  have key : ∀ k, k ≤ len → ∃ xs : List (den e), xs.length = k ∧ @RL (den e) (rpD e) (znK W) (piece cs.toList off (k * tsz e)) xs ∧ (List.map (dsz e) xs).sum ≤ Rows.uptoBulkAll ((elems.take k).map (·.1)) := by
   intro k
   induction k with
   | zero => intro _; exact ⟨[], rfl, by simp [piece, RL], Nat.zero_le _⟩
   | succ k ih =>
    intro hk
    obtain ⟨xs, h1, h2, h3⟩ := ih (by omega)
    obtain ⟨y, x, g1, g2, g3, _⟩ := each k (by omega)
    refine ⟨xs ++ [x], by simp [h1], ?_, ?_⟩
    ·have e2 : piece cs.toList off ((k + 1) * tsz e) = piece cs.toList off (k * tsz e) ++ piece cs.toList (off + k * tsz e) (tsz e) := by
      rw [zaG, zaG, zaG, Nat.add_mul, Nat.one_mul, List.take_add, List.drop_drop]
     rw [e2]
     exact ykA h2 g2
    ·rw [List.take_add_one, g1]
     simp only [Option.toList_some, List.map_append, List.map_cons, List.map_nil, List.sum_append, List.sum_cons, List.sum_nil, ygN, Rows.uptoBulkAll]
     omega
  obtain ⟨xs, h1, h2, h3⟩ := key len (Nat.le_refl _)
  have hfit : off + len * tsz e ≤ cs.toList.length := by
   rcases Nat.eq_zero_or_pos len with h0 | h0
   ·subst h0; rw [Array.length_toList]; omega
   ·obtain ⟨_, _, _, _, _, h4⟩ := each (len - 1) (by omega)
    rwa [Nat.sub_add_cancel h0] at h4
  refine ⟨xs, ⟨piece cs.toList off (len * tsz e), ?_, h2⟩, ?_⟩
  ·right
   refine ⟨blk, off, cap, cs.toList, R, fz, ?_, by rw [h1]; exact hlc, by simpa [znK] using hb, ?_, ?_⟩
   ·rw [h1]
   ·rw [h1]; show _ + _ * (rpD e).sz ≤ _; rw [zjG]; exact hfit
   ·rw [h1]; show piece _ _ (_ * (rpD e).sz) = _; rw [zjG]
  ·rw [List.take_of_length_le (by omega)] at h3
   show (List.map (dsz e) xs).sum + 1 ≤ _
   simp only [Rows.uptoBulk]
   omega
def xaM (P : Program) (T : TypeId) (t : Ty) : Bool := match P.underlying T, t with
 | some (.slice E), .sl e => tyOk P 8 E e && (Nat.beq (P.cellsOf E) (tsz e) && Nat.blt 0 (tsz e))
 | _, t => tyOk P 8 T t
theorem xcI {t : Ty} (ha : xaM P T t = true) (h : Value.okWide P W .any b0 T v) {d : DataW H} {ps : List MemPlace} (hd : DataW.Trod enc P W 0 (fun _ => true) true T v d ps) :
  ∃ x : den t, rep1 t (znK W) v x ∧ dsz t x ≤ Rows.uptoBulk d := by
 unfold xaM at ha
 split at ha
 ·rename_i E e hu
  rw [Bool.and_eq_true, Bool.and_eq_true] at ha
  obtain ⟨h1, h2, h3⟩ := ha
  obtain ⟨xs, g1, g2⟩ := ypP hu h1 (Nat.eq_of_beq_eq_true h2) (by rw [zjZ] at h3; simpa using h3) h hd
  exact ⟨xs, ⟨v, rfl, g1⟩, g2⟩
 ·obtain ⟨fuel, hf⟩ := hd
  obtain ⟨x, hx, hb⟩ := ybY 8 T _ ha fuel _ _ _ hf
  refine ⟨x, ?_, hb⟩
  unfold rep1
  unfold tyOk at ha
  split at ha
  ·rename_i hu
   have hv : v.cells.toList = [v] := by
    simp only [Value.okWide, hu, Cell.okWide, Cell.ok] at h
    cases v <;> simp_all <;> rfl
   rw [hv] at hx
   rw [if_pos (show one (.i _) = true from rfl)]; exact hx
  ·rename_i hu
   have hv : v.cells.toList = [v] := by
    simp only [Value.okWide, hu, Cell.okWide, Cell.ok] at h
    cases v <;> simp_all <;> rfl
   rw [hv] at hx
   rw [if_pos (show one .b = true from rfl)]; exact hx
  ·rename_i hu
   have hv : v.cells.toList = [v] := by
    simp only [Value.okWide, hu, Cell.okWide, Cell.ok] at h
    cases v <;> simp_all <;> rfl
   rw [hv] at hx
   rw [if_pos (show one .s = true from rfl)]; exact hx
  ·rename_i hu hno
   exact (hno _ _ hu rfl).elim
  ·rename_i fs hu _
   rw [Bool.and_eq_true, Bool.and_eq_true] at ha
   simp only [Value.okWide, hu] at h
   obtain ⟨cs, rfl, _, _⟩ := h
   rw [if_neg (by simpa using ha.1.2)]
   exact ⟨cs.toList, by simp, hx⟩
  ·cases ha
def posT : Ty → Bool
 | .un => false
 | .pr a c => posT a || posT c
 | _ => true
theorem yeU : ∀ {e : Ty}, posT e = true → ∀ x : den e, 1 ≤ dsz e x
 | .i _, _, _ => Nat.le_refl 1
 | .b, _, _ => Nat.le_refl 1
 | .s, _, _ => Nat.le_add_left 1 _
 | .er, _, _ => Nat.le_refl 1
 | .sl _, _, _ => Nat.le_add_left 1 _
 | .mp _ _, _, _ => Nat.le_refl 1
 | .pr a c, h, x => by
  show 1 ≤ dsz a x.1 + dsz c x.2
  have h : (posT a || posT c) = true := h
  rw [Bool.or_eq_true] at h
  rcases h with h | h
  ·have := yeU h x.1; omega
  ·have := yeU h x.2; omega
theorem yaY {e : Ty} (he : posT e = true) : ∀ xs : List (den e), xs.length + 1 ≤ dsz (.sl e) xs
 | [] => Nat.le_refl 1
 | x :: xs => by
  have h1 := yeU he x
  have h2 : xs.length + 1 ≤ (List.map (dsz e) xs).sum + 1 := yaY he xs
  show (x :: xs).length + 1 ≤ (List.map (dsz e) (x :: xs)).sum + 1
  simp only [List.length_cons, List.map_cons, List.sum_cons]
  omega
theorem xbI {t : Ty} {S : Mem} {E : List EI} {v : Value} {x : den t} (h : rep1 t S v x) : VR S E (svOf t x) v := ylF (l := [t]) h
end
end Go.Proofs.YtebbcofojchkpaaGreatDoor.Am
namespace Go.Proofs.YtebbcofojchkpaaGreatDoor.Am
open Go Go.RowKit
def zvH (es : Es) (q : Int × Nd → Bool) (k : Int) : Bool := match mget keqI es k with
 | some n => q (k, n)
 | none => false
theorem ylZ {es : Es} (q : Int × Nd → Bool) (k : Int) : ztE (chE es fun p => if q p = true then zmJ p.2 else p.2) k = (ztE es k || zvH es q k) := by
 unfold ztE zvH zhO
 rw [ycA]
 cases mget keqI es k with
 | none => rfl
 | some n =>
  simp only [Option.map_some]
  cases q (k, n) with
  | true => rw [if_pos rfl, Bool.or_true]
  | false => rw [if_neg (by simp), Bool.or_false]
theorem yrQ {α : Type} (p q : α → Bool) : ∀ (l : List α), (l.any fun x => p x || q x) = (l.any p || l.any q)
 | [] => rfl
 | x :: l => by
  rw [List.any_cons, List.any_cons, List.any_cons, yrQ p q l]
  cases p x <;> cases q x <;> cases l.any p <;> rfl
theorem ywH {nx : Int} {es : Es} (h : Ok nx es) (q : Int × Nd → Bool) (i now : Int) : ziI (chE es fun p => if q p = true then zmJ p.2 else p.2) i now = (ziI es i now && !(zfT es i).any (zvH es q)) := by
 have hK : zzP es fun p => if q p = true then zmJ p.2 else p.2 := zlO _
 have hd : zxQ (chE es fun p => if q p = true then zmJ p.2 else p.2) i = (zxQ es i || (zfT es i).any (zvH es q)) := by
  unfold zxQ
  rw [ygO hK, ← yrQ]
  exact zuA fun k _ => ylZ q k
 unfold ziI
 rw [hd, ycA]
 cases hm : mget keqI es i with
 | none => rfl
 | some n =>
  simp only [Option.map_some]
  cases hq : q (i, n) with
  | true =>
   have ha : (zfT es i).any (zvH es q) = true := by
    rw [yiU h hm, List.any_cons]
    have : zvH es q i = true := by unfold zvH; rw [hm]; exact hq
    rw [this]; rfl
   rw [ha]
   simp
  | false =>
   rw [if_neg (by simp)]
   cases canB n now <;> cases zxQ es i <;> simp
theorem ypI {nx : Int} {es : Es} (h : Ok nx es) {k : Nat} (hk : k < es.length) : es[k].2.1 = es[k].1 := (h.ids _ (List.getElem_mem hk)).1
theorem zzS {α : Type} {l : List α} {p : α → Bool} {k : Nat} (hk : k < l.length) : (l.take (k + 1)).any p = ((l.take k).any p || p l[k]) := by
 rw [List.take_succ_eq_append_getElem hk, List.any_append, List.any_cons, List.any_nil, Bool.or_false]
theorem ygB {e : Ty} {x : den e} : ∀ {xs : List (den e)}, x ∈ xs → dsz e x ≤ dsz (.sl e) xs
 | y :: ys, h => by
  show _ ≤ (List.map (dsz e) (y :: ys)).sum + 1
  simp only [List.map_cons, List.sum_cons]
  rcases List.mem_cons.1 h with rfl | h
  ·omega
  ·have : dsz e x ≤ (List.map (dsz e) ys).sum + 1 := ygB h
   omega
theorem ywW {n : Nd} (h : dsz zmE n ≤ 1048576) : NdOk n := by
 obtain ⟨a0, a1, a2, a3, a4, a5, a6, a7, a8, a9, a10, a11, a12, a13, a14⟩ := n
 have h : dsz (.i .i64) a0 + (dsz (.i .i64) a1 + (dsz (.i .i64) a2 + (dsz .s a3 + (dsz .s a4 + (dsz .s a5 + (dsz (.sl .s) a6 + (dsz (.i .i64) a7 + (dsz (.i .i64) a8 + (dsz .b a9 + (dsz .b a10 + (dsz (.sl .s) a11 + (dsz (.i .i64) a12 + (dsz .s a13 + dsz .s a14))))))))))))) ≤ 1048576 := h
 have e3 : dsz .s a3 = a3.length + 1 := rfl
 have e4 : dsz .s a4 = a4.length + 1 := rfl
 have e5 : dsz .s a5 = a5.length + 1 := rfl
 have h6 : a6.length + 1 ≤ dsz (.sl .s) a6 := yaY (e := .s) rfl a6
 have h11 : a11.length + 1 ≤ dsz (.sl .s) a11 := yaY (e := .s) rfl a11
 refine ⟨?_, ?_, ?_, ?_, fun s hs => ?_, ?_, fun s hs => ?_⟩
 ·show a3.length ≤ _; omega
 ·show a4.length ≤ _; omega
 ·show a5.length ≤ _; omega
 ·show a6.length ≤ _; omega
 ·have h1 := ygB (e := .s) hs
  have e : dsz .s s = s.length + 1 := rfl
  have h1 : s.length + 1 ≤ dsz (.sl .s) a6 := h1
  omega
 ·show a11.length ≤ _; omega
 ·have h1 : s.length + 1 ≤ dsz (.sl .s) a11 := ygB (e := .s) hs
  omega
theorem xbM {o : OpT} (h : dsz zzN o ≤ 1048576) : NdOk o.2.2.2.2.2 := by
 obtain ⟨a, b, c, d, e, n⟩ := o
 have h : dsz (.i .i64) a + (dsz (.i .i64) b + (dsz (.i .i64) c + (dsz (.i .i64) d + (dsz .s e + dsz zmE n)))) ≤ 1048576 := h
 have h2 : dsz zmE n ≤ 1048576 := by omega
 exact ywW h2
theorem yzN {l : List OpT} (h : dsz (.sl zzN) l ≤ 1048576) : l.length ≤ 1048576 ∧ ∀ o ∈ l, NdOk o.2.2.2.2.2 := by
 have h1 : l.length + 1 ≤ dsz (.sl zzN) l := yaY (e := zzN) rfl l
 refine ⟨by omega, fun o ho => xbM ?_⟩
 have h2 : dsz zzN o ≤ dsz (.sl zzN) l := ygB (e := zzN) ho
 omega
def τWkE : TE := [(3, ⟨.int .i64, 1, [.v (.i .i64) (show Int from 0)], (.i .i64), 8⟩),
 (4, ⟨.b, 1, [.v .b (show Bool from false)], .b, 1⟩),
 (9, ⟨.s, 1, [.v .s (show Bs from [])], .s, 16⟩),
 (25, ⟨.pt 75, 1, [.nilp], .un, 8⟩),
 (35, ⟨.sl 47, 1, [.nils], (.sl (.pr (.i .i64) (.pr (.i .i64) (.pr (.i .i64) (.pr .s (.pr .s (.pr .s (.pr (.sl .s) (.pr (.i .i64) (.pr (.i .i64) (.pr .b (.pr .b (.pr (.sl .s) (.pr (.i .i64) (.pr .s .s))))))))))))))), 24⟩),
 (44, ⟨.sl 3, 1, [.nils], (.sl (.i .i64)), 24⟩),
 (47, ⟨.st [(3, 0), (3, 1), (3, 2), (9, 3), (9, 4), (9, 5), (45, 6), (3, 7), (3, 8), (4, 9), (4, 10), (45, 11), (3, 12), (9, 13), (9, 14)], 15, [.v (.i .i64) (show Int from 0), .v (.i .i64) (show Int from 0), .v (.i .i64) (show Int from 0), .v .s (show Bs from []), .v .s (show Bs from []), .v .s (show Bs from []), .nils, .v (.i .i64) (show Int from 0), .v (.i .i64) (show Int from 0), .v .b (show Bool from false), .v .b (show Bool from false), .nils, .v (.i .i64) (show Int from 0), .v .s (show Bs from []), .v .s (show Bs from [])], (.pr (.i .i64) (.pr (.i .i64) (.pr (.i .i64) (.pr .s (.pr .s (.pr .s (.pr (.sl .s) (.pr (.i .i64) (.pr (.i .i64) (.pr .b (.pr .b (.pr (.sl .s) (.pr (.i .i64) (.pr .s .s)))))))))))))), 184⟩),
 (57, ⟨.sl 4, 1, [.nils], (.sl .b), 24⟩)]
theorem τ_okWkE : TEok Tryz.prog τWkE := ykW (by kernel_rfl) (by kernel_rfl)
theorem yrZ : Tryz.prog.follows .mixedOrders = true := by kernel_rfl
theorem xdH {G : List (Nat × Obj)} {o : Ops} [zoW G] [znX G o] {Γ : CT} {η : HT} {f : FuncId} {fn : Func} {c : SC} (hΓ : ∀ B, GB G B → CTok Tryz.prog Γ B) (hf : Tryz.prog.funcs[f]? = some fn) (i : (fn.name == "runtime.NumGoroutine") = false := by kernel_rfl) (j : fn.body.isNone = false := by kernel_rfl) (l : Nat.ble c.I.sl.length fn.ntmps = true := by kernel_rfl) (r : Nat.beq fn.results.toList.length c.nr = true := by kernel_rfl) (e : fnS τWkE Γ η fn c.I c.outs = c.p := by kernel_rfl) : SCok Tryz.prog G f c := witO (G := G) (o := o) <| ytD yrZ τ_okWkE hΓ hf (isFn hf i j) l r e
theorem yxQ {G : List (Nat × Obj)} {o : Ops} [zoW G] [znX G o] {Γ : CT} {η : HT} {f : FuncId} {fn : Func} {c : PC} (hΓ : ∀ B, GB G B → CTok Tryz.prog Γ B) (hf : Tryz.prog.funcs[f]? = some fn) (i : (fn.name == "runtime.NumGoroutine") = false := by kernel_rfl) (j : fn.body.isNone = false := by kernel_rfl) (l : Nat.ble c.ash.length fn.ntmps = true := by kernel_rfl) (r : c.cl = false := by kernel_rfl) (e : fnP τWkE Γ η fn c.ash c.rts = c.p := by kernel_rfl) : PCok Tryz.prog G f c := witO (G := G) (o := o) <| yvZ yrZ τ_okWkE hΓ hf (isFn hf i j) l r e
abbrev ziO : Type := Int × Int × Int × Bs × Bs × Bs × (List Bs) × Int × Int × Bool × Bool × (List Bs) × Int × Bs × Bs
abbrev zwZ : Ty := .pr (.i .i64) (.pr (.i .i64) (.pr (.i .i64) (.pr .s (.pr .s (.pr .s (.pr (.sl .s) (.pr (.i .i64) (.pr (.i .i64) (.pr .b (.pr .b (.pr (.sl .s) (.pr (.i .i64) (.pr .s .s)))))))))))))
abbrev ybM : OSh := .mp true (.i .i64) zwZ
abbrev ycF : OSh := .blk 75 [(.mpr 4), hI]
section
variable {tabs : List (Nat × Obj)} [zoW tabs] {o : Ops} [znX tabs o]
noncomputable def zdQ (o : Ops) (v1 : Bs) (v6 : Int) (v7 : Int) (v8 : List ziO) (v9 : List Bool) (v10 : List Bool) (v11 : List (Int × ziO)) : Option ((Bool × Int × (List ziO) × (List Bool) × (List Bool) × List (Int × ziO))) :=
 (chk (decide ((0 : Int) ≤ v6) && decide (v6 < (v8.length : Int)))).bind fun _ => (idx v8 v6).bind fun v12 => bif (v12.2.2.2.1 == v1) then some (true, v7, v8, v9, v10, v11) else ((chk (decide ((0 : Int) ≤ v6) && decide (v6 < (v8.length : Int)))).bind fun _ => (idx v8 v6).bind fun v13 => bif (v13.2.2.2.2.1 != ([] : Bs)) then ((chk (decide ((0 : Int) ≤ v6) && decide (v6 < (v8.length : Int)))).bind fun _ => (idx v8 v6).bind fun v14 => (app ([99, 58] : Bs) v14.2.2.2.2.1).bind fun v15 => some ((v15 == v1), v7, v8, v9, v10, v11)) else some (false, v7, v8, v9, v10, v11))
noncomputable def zcH (o : Ops) (v1 : Bs) (v2 : Int) (v5 : Int) (v6 : Int) (v7 : Int) (v8 : List ziO) (v9 : List Bool) (v10 : List Bool) (v11 : List (Int × ziO)) : Option ((Int × Int × Int × (List ziO) × (List Bool) × (List Bool) × List (Int × ziO)) ⊕ ((Int × Int × (List ziO) × (List Bool) × (List Bool) × List (Int × ziO)))) :=
 bif decide (v6 < (v8.length : Int)) then ((zdQ o v1 v6 v7 v8 v9 v10 v11).bind fun v16 => (chk (decide ((0 : Int) ≤ v6) && decide (v6 < (v16.2.2.1.length : Int)))).bind fun _ => (idx v16.2.2.1 v6).bind fun v17 => (zaL o v17.1 v2 v16.2.1 v16.2.2.2.2.2).bind fun v18 => (app v16.2.2.2.1 ([v18.1] : List Bool)).bind fun v19 => (app v16.2.2.2.2.1 ([v16.1] : List Bool)).bind fun v20 => bif v16.1 then ((chk (decide ((0 : Int) ≤ v6) && decide (v6 < (v16.2.2.1.length : Int)))).bind fun _ => (idx v16.2.2.1 v6).bind fun v21 => bif (!v21.2.2.2.2.2.2.2.2.2.1) then some (.inl (w64 (v5 + 1), w64 (v6 + 1), v18.2.1, v16.2.2.1, v19, v20, v18.2.2)) else some (.inl (v5, w64 (v6 + 1), v18.2.1, v16.2.2.1, v19, v20, v18.2.2))) else some (.inl (v5, w64 (v6 + 1), v18.2.1, v16.2.2.1, v19, v20, v18.2.2))) else some (.inr (v5, v7, v8, v9, v10, v11))
noncomputable def zdT (o : Ops) (v1 : Bs) (v22 : Int × Int × (List ziO) × (List Bool) × (List Bool) × List (Int × ziO)) : Option (Bool ⊕ (Int × (List ziO) × (List Bool) × (List Bool) × List (Int × ziO))) :=
 (zbP o v1 v22.2.1 v22.2.2.2.2.2).bind fun v23 => bif (v23.1 != v22.1) then some (.inl false) else ((zbP o v1 v23.2.1 v23.2.2).bind fun v24 => bif (v24.1 != 0) then some (.inl false) else some (.inr (v24.2.1, v22.2.2.1, v22.2.2.2.1, v22.2.2.2.2.1, v24.2.2)))
noncomputable def zcI (o : Ops) (v35 : ((List Int) × Int × List (Int × ziO))) (v37 : Int) (v43 : Bool) (v44 : Int) (v45 : Int) (v46 : List ziO) (v47 : List Bool) (v48 : List Bool) (v49 : List (Int × ziO)) : Option ((Bool × Int × Int × (List ziO) × (List Bool) × (List Bool) × List (Int × ziO)) ⊕ ((Bool × Int × (List ziO) × (List Bool) × (List Bool) × List (Int × ziO)))) :=
 bif decide (v44 < (v46.length : Int)) then (bif v43 then some (.inl (true, w64 (v44 + 1), v45, v46, v47, v48, v49)) else ((chk (decide ((0 : Int) ≤ v44) && decide (v44 < (v46.length : Int)))).bind fun _ => (idx v46 v44).bind fun v50 => (idx v35.1 v37).bind fun v51 => bif (v50.1 == v51) then ((chk (decide ((0 : Int) ≤ v44) && decide (v44 < (v48.length : Int)))).bind fun _ => (idx v48 v44).bind fun v52 => some (.inl (v52, w64 (v44 + 1), v45, v46, v47, v48, v49))) else some (.inl (false, w64 (v44 + 1), v45, v46, v47, v48, v49)))) else some (.inr (v43, v45, v46, v47, v48, v49))
noncomputable def zcF (o : Ops) (v35 : ((List Int) × Int × List (Int × ziO))) (v36 : Bool) (v37 : Int) (v38 : Int) (v39 : List ziO) (v40 : List Bool) (v41 : List Bool) (v42 : List (Int × ziO)) : Option ((Bool × Int × Int × (List ziO) × (List Bool) × (List Bool) × List (Int × ziO)) ⊕ ((Bool × Int × (List ziO) × (List Bool) × (List Bool) × List (Int × ziO)))) :=
 bif decide (v37 < (v35.1.length : Int)) then ((iter (fun x => zcI o v35 v37 x.1 x.2.1 x.2.2.1 x.2.2.2.1 x.2.2.2.2.1 x.2.2.2.2.2.1 x.2.2.2.2.2.2) (v36, (0 : Int), v38, v39, v40, v41, v42)).bind fun v53 => some (.inl (v53.1, w64 (v37 + 1), v53.2))) else some (.inr (v36, v38, v39, v40, v41, v42))
noncomputable def zcE (o : Ops) (v2 : Int) (v28 : Int) (v29 : Int) (v30 : List ziO) (v31 : List Bool) (v32 : List Bool) (v33 : List (Int × ziO)) : Option ((Int × Int × (List ziO) × (List Bool) × (List Bool) × List (Int × ziO)) ⊕ (Bool ⊕ Unit)) :=
 bif decide (v28 < (v30.length : Int)) then ((chk (decide ((0 : Int) ≤ v28) && decide (v28 < (v30.length : Int)))).bind fun _ => (idx v30 v28).bind fun v34 => (zbB o v34.1 v29 v33).bind fun v35 => (iter (fun x => zcF o v35 x.1 x.2.1 x.2.2.1 x.2.2.2.1 x.2.2.2.2.1 x.2.2.2.2.2.1 x.2.2.2.2.2.2) (false, (0 : Int), v35.2.1, v30, v31, v32, v35.2.2)).bind fun v54 => (chk (decide ((0 : Int) ≤ v28) && decide (v28 < (v54.2.2.1.length : Int)))).bind fun _ => (idx v54.2.2.1 v28).bind fun v55 => (chk (decide ((0 : Int) ≤ v28) && decide (v28 < (v54.2.2.2.1.length : Int)))).bind fun _ => (idx v54.2.2.2.1 v28).bind fun v56 => (zaL o v55.1 v2 v54.2.1 v54.2.2.2.2.2).bind fun v57 => bif v56 then (bif (v57.1 != (!v54.1)) then some (.inr (.inl false)) else some (.inl (w64 (v28 + 1), v57.2.1, v54.2.2.1, v54.2.2.2.1, v54.2.2.2.2.1, v57.2.2))) else (bif (v57.1 != false) then some (.inr (.inl false)) else some (.inl (w64 (v28 + 1), v57.2.1, v54.2.2.1, v54.2.2.2.1, v54.2.2.2.2.1, v57.2.2)))) else some (.inr (.inr ()))
noncomputable def zcL (o : Ops) (v0 : List (Int × Int × Int × Int × Bs × ziO)) (v1 : Bs) (v2 : Int) : Option (Bool) :=
 (zeV o v0).bind fun v3 => (zbY o v3.1 v3.2).bind fun v4 => (iter (fun x => zcH o v1 v2 x.1 x.2.1 x.2.2.1 x.2.2.2.1 x.2.2.2.2.1 x.2.2.2.2.2.1 x.2.2.2.2.2.2) ((0 : Int), (0 : Int), v4.1, v4.2.2, ([] : List Bool), ([] : List Bool), v4.2.1)).bind fun v22 => (zdT o v1 v22).bind fun v25 => match v25 with
 | .inl v26 => (some v26)
 | .inr v27 => ((iter (fun x => zcE o v2 x.1 x.2.1 x.2.2.1 x.2.2.2.1 x.2.2.2.2.1 x.2.2.2.2.2) ((0 : Int), v27)).bind fun v58 => match v58 with
 | .inl v59 => (some v59)
 | .inr v60 => ((some true).bind fun v61 => some v61))
noncomputable def znC (o : Ops) : PC := ⟨[(.h (.sl (.pr (.i .i64) (.pr (.i .i64) (.pr (.i .i64) (.pr (.i .i64) (.pr .s zwZ))))))), hS, hI], [.b], fun x => zcL o x.1 x.2.1 x.2.2, false⟩
theorem zwV : PCok Tryz.prog tabs 6 (znC o) := yxQ (o := o) (η := [(2000012, .join [] [1, 2, 11, 12] [(none, ⟨[(7, (.ptr 0 0)), (8, (.own 1)), (9, (.own 2)), (10, (.own 3)), (13, hB)], [ycF, .osl zwZ 47, .osl .b 4, .osl .b 4, ybM]⟩)]),
 (200009, .loop [] ⟨[(7, (.ptr 0 0)), (8, (.own 1)), (9, (.own 2)), (10, (.own 3)), (11, hI), (12, hI)], [ycF, .osl zwZ 47, .osl .b 4, .osl .b 4, ybM]⟩ [1, 2, 6] [(some 0, ⟨[(7, (.ptr 0 0)), (8, (.own 1)), (9, (.own 2)), (10, (.own 3)), (11, hI)], [ycF, .osl zwZ 47, .osl .b 4, .osl .b 4, ybM]⟩)]),
 (2000018, .join [] [2] [(some 1000000, ⟨[(6, hB)], []⟩), (none, ⟨[(7, (.ptr 0 0)), (8, (.own 1)), (9, (.own 2)), (10, (.own 3))], [ycF, .osl zwZ 47, .osl .b 4, .osl .b 4, ybM]⟩)]),
 (200027, .loop [] ⟨[(7, (.ptr 0 0)), (8, (.own 1)), (9, (.own 2)), (10, (.own 3)), (16, hB), (18, hI)], [ycF, .osl zwZ 47, .osl .b 4, .osl .b 4, ybM]⟩ [2, 14, 15, 17] [(some 6, ⟨[(7, (.ptr 0 0)), (8, (.own 1)), (9, (.own 2)), (10, (.own 3)), (16, hB)], [ycF, .osl zwZ 47, .osl .b 4, .osl .b 4, ybM]⟩)]),
 (200024, .loop [] ⟨[(7, (.ptr 0 0)), (8, (.own 1)), (9, (.own 2)), (10, (.own 3)), (16, hB), (17, hI)], [ycF, .osl zwZ 47, .osl .b 4, .osl .b 4, ybM]⟩ [2, 14, 15] [(some 4, ⟨[(7, (.ptr 0 0)), (8, (.own 1)), (9, (.own 2)), (10, (.own 3)), (16, hB)], [ycF, .osl zwZ 47, .osl .b 4, .osl .b 4, ybM]⟩)]),
 (200019, .loop [] ⟨[(7, (.ptr 0 0)), (8, (.own 1)), (9, (.own 2)), (10, (.own 3)), (14, hI)], [ycF, .osl zwZ 47, .osl .b 4, .osl .b 4, ybM]⟩ [2] [(some 1000000, ⟨[(6, hB)], []⟩), (some 2, ⟨[], []⟩)]),
 (4000029, .sch [(.pu, 0, []), (.pu, 1, []), (.pu, 2, []), (.pu, 3, []), (.pu, 4, []), (.pu, 5, []), (.pu, 6, []), (.pu, 7, []), (.pu, 8, []), (.pu, 9, []), (.pu, 10, []), (.pu, 11, []), (.pu, 12, []), (.pu, 13, []), (.pu, 14, []), (.pu, 15, []), (.pu, 16, []), (.pu, 17, []), (.pu, 18, []), (.mn, 19, [])]),
 (4000030, .sch [(.pu, 0, []), (.pu, 1, []), (.pu, 2, []), (.pu, 3, []), (.pu, 4, []), (.pu, 5, []), (.pu, 6, []), (.pu, 8, [0, 4]), (.pu, 9, [0, 4]), (.pu, 10, [0, 4]), (.pu, 11, [0, 4]), (.mn, 7, [0, 4]), (.pu, 12, []), (.pu, 13, []), (.pu, 14, []), (.pu, 15, []), (.pu, 16, [])])]) (Γ := ⟨[(13, ygJ)], [(17, (zkT o)), (15, (zeF o)), (22, (zcA o)), (26, (zgH o)), (25, (zbW o))], false⟩) (ctok ⟨ypJ, trivial⟩ ⟨zrA, ⟨zgZ, ⟨zdG, ⟨zjO, ⟨zdA, trivial⟩⟩⟩⟩⟩) Tryz.func6
end
theorem yzE {s : L8} (h : nmB s = true) : s.length ≤ 24 := by
 have h1 := yyF s
 rw [h] at h1
 unfold zdR zlK at h1
 by_cases hl : (s.length : Int) ≤ 24
 ·omega
 ·rw [zqA hl] at h1
  cases hb : s != ([] : L8) <;> rw [hb] at h1 <;> cases h1
theorem ytK {n : Nd} (h : mayB n = true) : n.2.2.2.2.1.length ≤ 24 := by
 unfold mayB at h
 simp only [Bool.and_eq_true] at h
 have h1 := h.1.1.1.1.1.1.1.1.1.2
 rw [Bool.or_eq_true] at h1
 rcases h1 with h1 | h1
 ·rw [beq_iff_eq.1 h1]; exact Nat.zero_le _
 ·exact yzE h1
def ywJ (s : L8) (n : Nd) : Bool := n.2.2.2.1 == s || (n.2.2.2.2.1 != ([] : L8) && (([99, 58] : L8) ++ n.2.2.2.2.1 == s))
theorem ywC (s : L8) (n : Nd) : ywJ s n = ziR s n := by
 unfold ywJ ziR cutC
 cases n.2.2.2.1 == s with
 | true => rfl
 | false =>
  simp only [Bool.false_or]
  generalize n.2.2.2.2.1 = c
  cases ht : s.take 2 == ([99, 58] : L8) with
  | true =>
   have e : s = ([99, 58] : L8) ++ s.drop 2 := by
    have := List.take_append_drop 2 s
    rw [beq_iff_eq.1 ht] at this
    exact this.symm
   simp only [cond_true, Bool.true_and]
   generalize s.drop 2 = d at e
   subst e
   rw [Bool.eq_iff_iff, Bool.and_eq_true, Bool.and_eq_true, bne_iff_ne, bne_iff_ne, beq_iff_eq, beq_iff_eq, List.append_cancel_left_eq]
   constructor
   ·rintro ⟨h1, rfl⟩; exact ⟨h1, rfl⟩
   ·rintro ⟨h1, rfl⟩; exact ⟨h1, rfl⟩
  | false =>
   simp only [cond_false, Bool.false_and]
   cases hb : ([99, 58] : L8) ++ c == s with
   | false => rw [Bool.and_false]
   | true =>
    rw [← beq_iff_eq.1 hb] at ht
    simp at ht
theorem zzU {es : Es} (s : L8) : ∀ p ∈ ziH es s, hitB s p.2 = false := fun p hp => by
 obtain ⟨q, _, rfl⟩ := ztQ hp
 simp only []
 cases hh : hitB s q.2 with
 | true => rw [if_pos rfl]; rfl
 | false => rw [if_neg (by simp)]; exact hh
theorem ydC (es : Es) (s : L8) : ziH (ziH es s) s = ziH es s := by
 have h := zzU (es := es) s
 generalize ziH es s = fs at h
 refine Eq.trans (List.map_congr_left fun p hp => ?_) (List.map_id fs)
 show (p.1, if hitB s p.2 = true then zmJ p.2 else p.2) = p
 rw [h p hp, if_neg (by simp)]
theorem yuF {es : Es} (h : zmR es) (q : Int × Nd → Bool) (k : Int) : (es.any fun p => p.1 == k && q p) = zvH es q k := by
 unfold zvH
 rw [Bool.eq_iff_iff, List.any_eq_true]
 constructor
 ·rintro ⟨p, hp, h2⟩
  rw [Bool.and_eq_true, beq_iff_eq] at h2
  have hg := ziF h (k := p.1) (v := p.2) hp
  rw [h2.1] at hg
  rw [hg]
  rw [← h2.1]
  exact h2.2
 ·intro h2
  cases hm : mget keqI es k with
  | none => rw [hm] at h2; cases h2
  | some n =>
   rw [hm] at h2
   exact ⟨(k, n), zmC hm, by rw [Bool.and_eq_true]; exact ⟨beq_self_eq_true k, h2⟩⟩
theorem yfC {nx : Int} {es : Es} (h : Ok nx es) (s : L8) (i now : Int) : ziI (ziH es s) i now = (ziI es i now && !(zfT es i).any (zvH es fun p => ziR s p.2)) := by
 unfold ziH
 rw [ywH h (fun p => hitB s p.2)]
 cases hl : ziI es i now with
 | false => rfl
 | true =>
  congr 2
  have hd : zxQ es i = false := by
   unfold ziI at hl
   cases hm : mget keqI es i with
   | none => rw [hm] at hl; cases hl
   | some n =>
    rw [hm] at hl
    simp only [Bool.and_eq_true, Bool.not_eq_true'] at hl
    exact hl.2
  refine zuA fun k hk => ?_
  have hk2 : ztE es k = false := by
   unfold zxQ at hd
   rw [List.any_eq_false] at hd
   have := hd k hk
   simpa using this
  obtain ⟨n, hn, _⟩ := znJ (yeW _ _ _ hk)
  unfold ztE at hk2
  rw [ziU hn] at hk2
  unfold zvH hitB
  rw [hn]
  simp only [hk2, Bool.not_false, Bool.true_and]
theorem yeR {α : Type} {l : List α} {p : α → Bool} {k : Nat} (hk : k < l.length) : ((l.take (k + 1)).filter p).length = ((l.take k).filter p).length + (bif p l[k] then 1 else 0) := by
 rw [List.take_succ_eq_append_getElem hk, List.filter_append, List.length_append]
 congr 1
 cases hp : p l[k] with
 | true => rw [List.filter_cons_of_pos hp]; rfl
 | false => rw [List.filter_cons_of_neg (by rw [hp]; exact Bool.false_ne_true)]; rfl
theorem yyI (script : List OpT) (s : L8) (now : Int) (hl : script.length ≤ 1048576) (ho : ∀ o ∈ script, NdOk o.2.2.2.2.2) : zcL zaB script s now = some true := by
 unfold zcL
 rw [yxE hl ho, zaA]
 have h := ylK script
 generalize zxY script = st at h
 obtain ⟨nx, es⟩ := st
 simp only [] at h ⊢
 have hlen := h.len
 rw [ygE h, zaA]
 have hfl : ∀ k, ((es.take k).filter fun p => hitB s p.2).length ≤ 256 := fun k => Nat.le_trans (List.length_filter_le _ _) (Nat.le_trans (List.length_take_le' _ _) hlen)
 have hI : iter (fun x => zcH zaB s now x.1 x.2.1 x.2.2.1 x.2.2.2.1 x.2.2.2.2.1 x.2.2.2.2.2.1 x.2.2.2.2.2.2) ((0 : Int), (0 : Int), nx, es.map (·.2), ([] : List Bool), ([] : List Bool), es) = some (((es.filter fun p => hitB s p.2).length : Int), nx, es.map (·.2), es.map (fun p => ziI es p.1 now), es.map (fun p => ziR s p.2), es) := by
  refine zsN (fun k => ((((es.take k).filter fun p => hitB s p.2).length : Int), (k : Int), nx, es.map (·.2), (es.take k).map (fun p => ziI es p.1 now), (es.take k).map (fun p => ziR s p.2), es)) es.length (by omega) _ (fun k hk => ?_) ?_
  ·unfold zcH
   simp only [List.length_map]
   have hi : idx (es.map (·.2)) (k : Int) = some es[k].2 := by rw [zkF (i := k) rfl (by rw [List.length_map]; exact hk), List.getElem_map]
   have hj : zdQ zaB s (k : Int) nx (es.map (·.2)) ((es.take k).map (fun p => ziI es p.1 now)) ((es.take k).map (fun p => ziR s p.2)) es = some (ziR s es[k].2, nx, es.map (·.2), (es.take k).map (fun p => ziI es p.1 now), (es.take k).map (fun p => ziR s p.2), es) := by
    have hc := ytK (h.may _ (List.getElem_mem hk))
    unfold zdQ
    simp only [List.length_map]
    rw [decide_eq_true (show (0 : Int) ≤ (k : Int) by omega), decide_eq_true (show (k : Int) < (es.length : Int) by omega), Bool.and_self, zoG rfl, zaA, hi, zaA, zaA, zaA, zaA, zaA, zrW (by simp; omega), zaA, ← ywC]
    unfold ywJ
    cases es[k].2.2.2.2.1 == s <;> cases es[k].2.2.2.2.2.1 != ([] : L8) <;> rfl
   rw [znS (show (k : Int) < (es.length : Int) by omega), hj, zaA]
   simp only [List.length_map]
   rw [decide_eq_true (show (0 : Int) ≤ (k : Int) by omega), decide_eq_true (show (k : Int) < (es.length : Int) by omega), Bool.and_self, zoG rfl, zaA, hi, zaA, ypI h hk, zxA h, zaA, zrW (by simp; omega), zaA, zrW (by simp; omega), zaA, zaA, zaA, zdE (show k < 1099511627776 by omega), zdE (show ((es.take k).filter fun p => hitB s p.2).length < 1099511627776 from Nat.lt_of_le_of_lt (hfl k) (by decide)), yeR hk, List.take_succ_eq_append_getElem hk, List.map_append, List.map_append]
   simp only [List.map_cons, List.map_nil]
   have hb : hitB s es[k].2 = (!es[k].2.2.2.2.2.2.2.2.2.2.1 && ziR s es[k].2) := rfl
   rw [hb]
   cases ziR s es[k].2 <;> cases es[k].2.2.2.2.2.2.2.2.2.2.1 <;> rfl
  ·unfold zcH
   simp only [List.length_map]
   rw [zqA (by omega), List.take_of_length_le (Nat.le_refl _)]
 rw [show iter _ _ = _ from hI, zaA]
 have hO := h.killed s
 have hj2 : zdT zaB s (((es.filter fun p => hitB s p.2).length : Int), nx, es.map (·.2), es.map (fun p => ziI es p.1 now), es.map (fun p => ziR s p.2), es) = some (.inr (nx, es.map (·.2), es.map (fun p => ziI es p.1 now), es.map (fun p => ziR s p.2), ziH es s)) := by
  unfold zdT
  simp only []
  rw [zxF h, zaA]
  simp only [bne_self_eq_false, cond_false]
  rw [zxF hO, zaA, ydC]
  have e : ((ziH es s).filter fun p => hitB s p.2) = [] := List.filter_eq_nil_iff.2 fun p hp => by rw [zzU s p hp]; exact Bool.false_ne_true
  rw [e]
  rfl
 rw [hj2, zaA]
 simp only []
 have hlive := fun i => yfC h s i now
 have hpath : ∀ i, zfT (ziH es s) i = zfT es i := fun i => ygO (zlO _) i
 generalize ziH es s = es' at hO hlive hpath
 have hI2 : iter (fun x => zcE zaB now x.1 x.2.1 x.2.2.1 x.2.2.2.1 x.2.2.2.2.1 x.2.2.2.2.2) ((0 : Int), nx, es.map (·.2), es.map (fun p => ziI es p.1 now), es.map (fun p => ziR s p.2), es') = some (.inr ()) := by
  refine zsN (fun k => ((k : Int), nx, es.map (·.2), es.map (fun p => ziI es p.1 now), es.map (fun p => ziR s p.2), es')) es.length (by omega) _ (fun k hk => ?_) ?_
  ·unfold zcE
   simp only [List.length_map]
   have hi : idx (es.map (·.2)) (k : Int) = some es[k].2 := by rw [zkF (i := k) rfl (by rw [List.length_map]; exact hk), List.getElem_map]
   rw [znS (show (k : Int) < (es.length : Int) by omega), decide_eq_true (show (0 : Int) ≤ (k : Int) by omega), decide_eq_true (show (k : Int) < (es.length : Int) by omega), Bool.and_self, zoG rfl, zaA, hi, zaA, ypI h hk, yaX hO, hpath, zaA]
   have hpl := zuC h es[k].1
   have hI3 : iter (fun x => zcF zaB (zfT es es[k].1, nx, es') x.1 x.2.1 x.2.2.1 x.2.2.2.1 x.2.2.2.2.1 x.2.2.2.2.2.1 x.2.2.2.2.2.2) (false, (0 : Int), nx, es.map (·.2), es.map (fun p => ziI es p.1 now), es.map (fun p => ziR s p.2), es') = some ((zfT es es[k].1).any (fun v => es.any fun p => p.1 == v && ziR s p.2), nx, es.map (·.2), es.map (fun p => ziI es p.1 now), es.map (fun p => ziR s p.2), es') := by
    refine zsN (fun i => (((zfT es es[k].1).take i).any (fun v => es.any fun p => p.1 == v && ziR s p.2), (i : Int), nx, es.map (·.2), es.map (fun p => ziI es p.1 now), es.map (fun p => ziR s p.2), es')) (zfT es es[k].1).length (by omega) _ (fun i hi2 => ?_) ?_
    ·unfold zcF
     simp only []
     have hI4 : ∀ b : Bool, iter (fun x => zcI zaB (zfT es es[k].1, nx, es') (i : Int) x.1 x.2.1 x.2.2.1 x.2.2.2.1 x.2.2.2.2.1 x.2.2.2.2.2.1 x.2.2.2.2.2.2) (b, (0 : Int), nx, es.map (·.2), es.map (fun p => ziI es p.1 now), es.map (fun p => ziR s p.2), es') = some ((b || es.any fun p => p.1 == (zfT es es[k].1)[i] && ziR s p.2), nx, es.map (·.2), es.map (fun p => ziI es p.1 now), es.map (fun p => ziR s p.2), es') := fun b => by
      have e0 : b = (b || (es.take 0).any fun p => p.1 == (zfT es es[k].1)[i] && ziR s p.2) := by simp
      conv => lhs; rw [e0]
      refine zsN (fun j => ((b || (es.take j).any fun p => p.1 == (zfT es es[k].1)[i] && ziR s p.2), (j : Int), nx, es.map (·.2), es.map (fun p => ziI es p.1 now), es.map (fun p => ziR s p.2), es')) es.length (by omega) _ (fun j hj => ?_) ?_
      ·unfold zcI
       simp only [List.length_map]
       rw [znS (show (j : Int) < (es.length : Int) by omega), decide_eq_true (show (0 : Int) ≤ (j : Int) by omega), decide_eq_true (show (j : Int) < (es.length : Int) by omega), Bool.and_self, zoG rfl, zaA, zaA, zkF (i := j) rfl (by rw [List.length_map]; exact hj), zaA, zkF rfl hi2, zaA, zkF (i := j) rfl (by rw [List.length_map]; exact hj), zaA, List.getElem_map, List.getElem_map, ypI h hj, zzS hj, zdE (by omega)]
       cases b <;> cases (es.take j).any (fun p => p.1 == (zfT es es[k].1)[i] && ziR s p.2) <;> cases es[j].1 == (zfT es es[k].1)[i] <;> rfl
      ·unfold zcI
       simp only [List.length_map]
       rw [zqA (by omega), List.take_of_length_le (Nat.le_refl _)]
     rw [znS (by omega), show iter _ _ = _ from hI4 _, zaA, zzS hi2, zdE (by omega)]
    ·unfold zcF
     simp only []
     rw [zqA (by omega), List.take_of_length_le (Nat.le_refl _)]
   rw [show iter _ _ = _ from hI3, zaA]
   simp only [List.length_map]
   have hah : (zfT es es[k].1).any (fun v => es.any fun p => p.1 == v && ziR s p.2) = (zfT es es[k].1).any (zvH es fun p => ziR s p.2) := zuA fun v _ => yuF h.rises (fun p => ziR s p.2) v
   rw [decide_eq_true (show (k : Int) < (es.length : Int) by omega), Bool.and_self, zoG rfl, zaA, hi, zaA, zaA, zkF (i := k) rfl (by rw [List.length_map]; exact hk), zaA, List.getElem_map, ypI h hk, zxA hO, hlive, zaA, zdE (by omega), hah]
   cases ziI es es[k].1 now <;> cases (zfT es es[k].1).any (zvH es fun p => ziR s p.2) <;> rfl
  ·unfold zcE
   simp only [List.length_map]
   rw [zqA (by omega)]
 rw [show iter _ _ = _ from hI2, zaA]
 rfl
theorem ynR (script : List yqH) (principal : Bs) (now : Int) (hk : dsz (.sl (.pr (.i .i64) (.pr (.i .i64) (.pr (.i .i64) (.pr (.i .i64) (.pr .s (.pr (.i .i64) (.pr (.i .i64) (.pr (.i .i64) (.pr .s (.pr .s (.pr .s (.pr (.sl .s) (.pr (.i .i64) (.pr (.i .i64) (.pr .b (.pr .b (.pr (.sl .s) (.pr (.i .i64) (.pr .s .s)))))))))))))))))))) script + dsz .s principal + dsz (.i .i64) now ≤ 1048576) : zcL zaB script principal now = some true := by
 have hk : dsz (.sl zzN) script + dsz .s principal + dsz (.i .i64) now ≤ 1048576 := hk
 have h := yzN (l := script) (by omega)
 exact yyI script principal now h.1 h.2
end Go.Proofs.YtebbcofojchkpaaGreatDoor.Am
namespace Go.Proofs.YtebbcofojchkpaaGreatDoor
open Go Go.RowKit
section
open Go Go.RowKit Go.ChangeShapes Go.WideShapes Go.ChangeAt
attribute [local irreducible] Value.okWide
theorem yuD {W : World} (h : W.ShapedOpen Tryz.prog) (hL : laidMet Tryz.prog Rows.forestEndsUptoRow.laid W) : ∃ G : List (Nat × Obj), Am.zoW G ∧ Am.GS G (znK W) := by
 obtain ⟨m, hm⟩ := Tryz.laysM219.s1_3 W h
 have hm : W.cell? ⟨0, 0, none⟩ = some (.int .i64 m) := hm
 have h0 : ∃ c E fz, W.heap[0]? = some (.cells c E fz) ∧ c[0]? = some (.int .i64 m) := by
  unfold World.cell? at hm
  split at hm
  ·rename_i c E fz hb
   simp only [Option.isSome_none, if_neg (show ¬ (false = true) by decide)] at hm
   exact ⟨c, E, fz, hb, hm⟩
  ·cases hm
 obtain ⟨c, E, fz, h1, h2⟩ := h0
 have hT := Lib.tabIs_of_head (P := Tryz.prog) (k := .u64) (zs := Lib.pow10Tab) (g := 3) (t := 218) (e := 167) (n := 20) (by kernel_rfl) (by kernel_rfl) (by kernel_rfl) (by kernel_rfl) (by kernel_rfl) (by kernel_rfl) (show laidMet Tryz.prog (("internal/strconv.uint64pow10", Lib.tabData .u64 Lib.pow10Tab) :: _) W from hL.tail.tail)
 have h3 : ∃ T f, W.heap[3]? = some (.cells ymR.toArray T f) := by
  unfold Lib.TabIs World.var? at hT
  rw [show Tryz.prog.globalNamed "internal/strconv.uint64pow10" = some 3 by kernel_rfl, Option.bind_some] at hT
  split at hT
  ·rename_i cs T f hb
   cases hT
   exact ⟨T, f, hb⟩
  ·cases hT
 obtain ⟨T, f, h4⟩ := h3
 refine ⟨[(0, .cells c E fz), (3, .cells ymR.toArray T f)], ⟨fun S hS => ⟨⟨c, E, fz, m, hS _ (List.mem_cons_self ..), h2⟩, T, f, hS _ (List.mem_cons_of_mem _ (List.mem_cons_self ..))⟩⟩, fun p hp => ?_⟩
 rcases List.mem_cons.1 hp with rfl | hp
 ·exact h1
 ·rcases List.mem_cons.1 hp with rfl | hp
  ·exact h4
  ·cases hp
theorem ztO (H : Type) (enc : TypeId × Value → H) (W : World) (base : Nat) (args : Array Value) (ds gs : List (DataW H)) (before : List MemPlace)
  (hval : ∀ (j : Nat) t v, Tryz.f6.params[j]? = some t → args[j]? = some v → Value.okWide Tryz.prog W .any base t v)
  (hW : DataW.Whole enc Tryz.prog Tryz.f6.params.toList Rows.forestEndsSpec.vars false W args.toList ds gs before) (hk : Rows.uptoSmall H (ds ++ gs) = true) (hsh : W.ShapedOpen Tryz.prog) (hL : laidMet Tryz.prog Rows.forestEndsUptoRow.laid W) :
  Calls Tryz.prog 6 args W fun e W' => ∃ v, e = .returned v ∧ Rows.forestEndsSpec.post enc Tryz.prog Tryz.f6 false true false false W args v W' := by
 have hW' := hW
 obtain ⟨p, q, hA0, hV, rfl, _, _⟩ := hW
 have hA : DataW.TrodAll enc Tryz.prog W 0 (fun _ => true) true Tryz.f6.params.toList args.toList ds p := hA0
 rw [Tryz.params6] at hA hval
 obtain ⟨v0, vs0, d0, ds0, p0, q0, hargs, rfl, rfl, t0, r0⟩ := trodAll_cons hA
 obtain ⟨v1, vs1, d1, ds1, p1, q1, rfl, rfl, rfl, t1, r1⟩ := trodAll_cons r0
 obtain ⟨v2, vs2, d2, ds2, p2, q2, rfl, rfl, rfl, t2, r2⟩ := trodAll_cons r1
 obtain ⟨rfl, rfl, rfl⟩ := trodAll_nil r2
 obtain rfl : args = #[v0, v1, v2] := by cases args; simp_all
 obtain ⟨rfl, rfl⟩ := trodVars_none hV
 obtain ⟨x0, e0, b0⟩ := Am.xcI (t := (.sl (.pr (.i .i64) (.pr (.i .i64) (.pr (.i .i64) (.pr (.i .i64) (.pr .s (.pr (.i .i64) (.pr (.i .i64) (.pr (.i .i64) (.pr .s (.pr .s (.pr .s (.pr (.sl .s) (.pr (.i .i64) (.pr (.i .i64) (.pr .b (.pr .b (.pr (.sl .s) (.pr (.i .i64) (.pr .s .s))))))))))))))))))))) (show Am.xaM Tryz.prog 41 (.sl (.pr (.i .i64) (.pr (.i .i64) (.pr (.i .i64) (.pr (.i .i64) (.pr .s (.pr (.i .i64) (.pr (.i .i64) (.pr (.i .i64) (.pr .s (.pr .s (.pr .s (.pr (.sl .s) (.pr (.i .i64) (.pr (.i .i64) (.pr .b (.pr .b (.pr (.sl .s) (.pr (.i .i64) (.pr .s .s)))))))))))))))))))) = true by kernel_rfl) (hval 0 41 v0 rfl rfl) t0
 obtain ⟨x1, e1, b1⟩ := Am.xcI (t := .s) (show Am.xaM Tryz.prog 9 .s = true by kernel_rfl) (hval 1 9 v1 rfl rfl) t1
 obtain ⟨x2, e2, b2⟩ := Am.xcI (t := (.i .i64)) (show Am.xaM Tryz.prog 3 (.i .i64) = true by kernel_rfl) (hval 2 3 v2 rfl rfl) t2
 simp only [List.cons_append, List.nil_append, List.append_nil, Rows.uptoSmall, decide_eq_true_eq, Rows.uptoBulkAll] at hk
 obtain ⟨G, hG, hGS⟩ := yuD hsh hL
 refine ((Am.zwV (tabs := G) (o := Am.zaB)).ok (znK W) W [v0, v1, v2] (x0, x1, x2) true hGS (yhO W) (.cons (Am.xbI e0) (.cons (Am.xbI e1) (.cons (Am.xbI e2) .nil))) (Am.ynR x0 x1 x2 (by omega))).mono fun e W' ⟨hx, v, he, hr, _⟩ => ?_
 have hr : [v] = [Value.bool true] := hr
 rw [(List.cons.inj hr).1] at he
 subst he
 refine ⟨_, rfl, yqD (B := 4) (n := 3) (by kernel_rfl) rfl (by kernel_rfl) (by kernel_rfl) (by kernel_rfl) (by kernel_rfl) (fun ds hds => ?_) hW' hx⟩
 match ds, hds with
 | [x0, x1, x2], _ => exact ⟨rfl, rfl, rfl⟩
theorem ypL : ownKnob Tryz.prog.godebug = none := by kernel_rfl
def yaR : DataW Unit → LV
 | .lit (.int k n) => [.int k n]
 | .agg l => go l
 | _ => []
where go : List (DataW Unit) → LV
 | [] => []
 | d :: l => yaR d ++ go l
def zpS (l : LV) : Obj → Obj
 | .cells _ t frozen => .cells l.toArray t frozen
 | o => o
noncomputable def zyG (os : Os) : World := { World.holding Tryz.prog os ⟨#[], #[], []⟩ with heap := (((((((((World.holding Tryz.prog os ⟨#[], #[], []⟩).heap).modify 6 (zpS (yaR Rows.laid_math_bits_deBruijn32tab))).modify 7 (zpS (yaR Rows.laid_math_bits_deBruijn64tab))).modify 3 (zpS (yaR Rows.laid_internal_strconv_uint64pow10))).modify 5 (zpS (yaR Rows.laid_unicode_utf8_acceptRanges))).modify 2 (zpS [.iface 227 (.pointer (some ⟨(World.holding Tryz.prog os ⟨#[], #[], []⟩).heap.size + 0, 0, none⟩))])).modify 1 (zpS [.iface 227 (.pointer (some ⟨(World.holding Tryz.prog os ⟨#[], #[], []⟩).heap.size + 1, 0, none⟩))])).modify 4 (zpS (yaR Go.Pinned.utf8First))) ++ #[.cells #[.string ⟨#[118, 97, 108, 117, 101, 32, 111, 117, 116, 32, 111, 102, 32, 114, 97, 110, 103, 101]⟩] 229, .cells #[.string ⟨#[105, 110, 118, 97, 108, 105, 100, 32, 115, 121, 110, 116, 97, 120]⟩] 229] }
theorem ztP (os : Os) : laidMet Tryz.prog Rows.forestEndsUptoRow.laid ((zyG os).forCall (fun _ _ => 0) ⟨#[], #[.slice none 0 0, .string ⟨#[]⟩, .int .i64 0], []⟩).memory :=
 laidMet_of_run' 8 (by kernel_rfl) (by kernel_rfl)
theorem zwF (os : Os) {H : Type} (enc : TypeId × Value → H) : ∃ places, DataW.whole enc Tryz.prog ((zyG os).forCall (fun _ _ => 0) ⟨#[], #[.slice none 0 0, .string ⟨#[]⟩, .int .i64 0], []⟩).memory Tryz.f6.params.toList Rows.forestEndsSpec.vars false (#[.slice none 0 0, .string ⟨#[]⟩, .int .i64 0] : Array Value).toList 8 = some ([.nil, .lit (.string []), .lit (.int .i64 0)], [], places) :=
 ⟨[], by kernel_rfl⟩
set_option maxRecDepth 100000 in
theorem zuV (os : Os) (started : os.Started) (H : Type) (enc : TypeId × Value → H) (F : Stop.Interp) :
  ReturnsInHanded {} Tryz.checked os 6 .any ((Rows.OpenSpec.upto Rows.forestEndsSpec).preRow enc Tryz.prog Tryz.f6 Rows.forestEndsUptoRow.domain false Rows.forestEndsUptoRow.laid) (((Rows.OpenSpec.upto Rows.forestEndsSpec).at F).post enc Tryz.prog Tryz.f6 false true false false) := by
 obtain ⟨places, hx⟩ := zwF os enc
 refine returnsInHanded_of_row (C := Tryz.checked) (s := Rows.OpenSpec.upto Rows.forestEndsSpec) ypL started (by kernel_rfl) Tryz.func6
  (witness_row_at (enc := enc) (C := Tryz.checked) false (zyG os) #[.slice none 0 0, .string ⟨#[]⟩, .int .i64 0] rfl (by kernel_rfl) (by kernel_rfl) (by kernel_rfl)
   (OpenSpec.preRow_of_cond 8 hx (by kernel_rfl) (fun k hk => by cases hk; kernel_rfl) (by kernel_rfl) (ztP os))) ?_
 intro W base args ds gs before hval hW _ hcond _ hL hsh _
 exact ztO H enc W base args ds gs before hval hW (hcond _ rfl) hsh hL
theorem zzM : Rows.ForestEndsUptoSaid :=
 OpenClaim.holds_of_cond 6 Tryz.f6 rfl rfl rfl rfl rfl rfl rfl ⟨rfl, rfl, rfl, rfl, rfl⟩ rfl rfl rfl rfl rfl (by kernel_rfl) Tryz.func6 (by kernel_rfl)
  (of_decide_eq_true (by kernel_rfl)) (by unfold Func.isWrapper; first | (rw [if_pos (by decide +kernel)]; kernel_rfl) | (rw [if_neg (by decide +kernel)]; exact ⟨rfl, rfl⟩))
  (fun os started H enc _ F => by rw [OpenClaim.pre_eq_preRow]; exact zuV os started H enc F)
theorem zwE (f : FuncId) (fn : Func) (hf : Tryz.pinned.checked.prog.funcNamed "seneschal/seneschallaw13.ForestEnds" = some f) (hfn : Tryz.pinned.checked.prog.funcs[f]? = some fn) :
  true = Tryz.pinned.checked.prog.looks [] ∧ ∀ (j : Nat) t, fn.params[j]? = some t → Tryz.pinned.checked.prog.wantsStandIn t = false := by
 obtain rfl : f = 6 := osi ((show Tryz.prog.funcNamed "seneschal/seneschallaw13.ForestEnds" = some 6 by kernel_rfl).symm.trans hf) |>.symm
 obtain rfl : fn = Tryz.f6 := (osi (Tryz.func6.symm.trans hfn)).symm
 refine ⟨by kernel_rfl, fun j t ht => ?_⟩
 rw [Tryz.params6] at ht
 have hm : t ∈ [41, 9, 3] := by simpa using Array.mem_of_getElem? ht
 have hall : ([41, 9, 3].all fun u => !Tryz.prog.wantsStandIn u) = true := by kernel_rfl
 exact (show Tryz.prog.wantsStandIn t = false by simpa using List.all_eq_true.1 hall t hm)
theorem forestEnds_said : Rows.ForestEndsUptoCardSaid :=
 Claim7.holds_tied_plain_at .later [] _ _ _ _ zzM (fun _ h => by cases h) (by kernel_rfl) (fun _ h => by cases h) forestEndsUpto_row_tie rfl ⟨rfl, rfl⟩ (by kernel_rfl) rfl zwE (by kernel_rfl)
end
end Go.Proofs.YtebbcofojchkpaaGreatDoor
