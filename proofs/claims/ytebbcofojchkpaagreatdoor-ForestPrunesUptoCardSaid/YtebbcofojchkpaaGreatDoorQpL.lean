/- The law 'seneschallaw13.ForestPrunes' holds of every input whose arguments hold together at most 1048576 values and letters, and its card. Conditions: the row's listed tables hold what the program's text lays; the arguments' bulk is at most 1048576. -/
import Derived.Test.YtebbcofojchkpaaGreatDoorRows
import Derived.Test.YtebbcofojchkpaaGreatDoorTie
import Derived.Test.YtebbcofojchkpaaGreatDoorCards
import Derived.ProofKit
import Derived.OpenShut
import Derived.Carry
import Derived.JoinedCond
import Derived.ChangeMaps5
import Derived.Deep.SlicePairs
import Derived.Deep.DeepHandedRow
import Derived.Lib.LaidTab
import Derived.SevenTiedAt
import Derived.Shelf.SlMaps.Clone
import Derived.Ground.SlmcProg
import Derived.Test.YtebbcofojchkpaaGreatDoorProg
import Derived.KernelRfl
import Derived.Stop.LaidErr
import Derived.Test.YtebbcofojchkpaaGreatDoorQpK
namespace Go.Proofs.YtebbcofojchkpaaGreatDoor.Am
open Go Go.RowKit
theorem ylH {a b : List L8} (h : a.length ≤ 1048576) : T (zdD zaB a b) fun _ => True := by
 unfold zdD
 refine T.bif (fun _ => T.ok trivial) fun hl => ?_
 have hl : (a.length : Int) = (b.length : Int) := by simpa using hl
 refine T.bind (Q := fun _ => True) (T.places a.length (by omega) _ fun k hk => ?_) fun r _ => ?_
 ·unfold zkX
  exact T.dif (fun h2 => (T.ixn h2).bind fun _ _ => (T.ixn (by omega)).bind fun _ _ => T.bif (fun _ => T.ok trivial) fun _ => T.ok ⟨zdM (by omega), by omega⟩) fun _ => T.ok trivial
 ·cases r <;> exact T.ok trivial
theorem ysB {a b : Nd} (h : Lst a) : T (zdF zaB a b) fun _ => True := by
 unfold zdF
 refine T.bind (Q := fun _ => True) ?_ fun r _ => ?_
 ·unfold zkY
  exact (ylH h.1).bind fun _ _ => T.bif (fun _ => T.ok trivial) fun _ => (ylH h.2).bind fun _ _ => T.bif (fun _ => T.ok trivial) fun _ => T.ok trivial
 ·cases r with
  | inl _ => exact T.ok trivial
  | inr _ =>
   simp only []
   repeat' first | exact T.ok trivial | refine T.bif (fun _ => ?_) fun _ => ?_
theorem ynD {a b : List Int} (h : a.length ≤ 99999999) : T (zdJ zaB a b) fun _ => True := by
 unfold zdJ
 refine T.bif (fun _ => T.ok trivial) fun hl => ?_
 have hl : (a.length : Int) = (b.length : Int) := by simpa using hl
 refine T.bind (Q := fun _ => True) (T.places a.length (by omega) _ fun k hk => ?_) fun r _ => ?_
 ·unfold ziM
  exact T.dif (fun h2 => (T.ixn h2).bind fun _ _ => (T.ixn (by omega)).bind fun _ _ => T.bif (fun _ => T.ok trivial) fun _ => T.ok ⟨zdM (by omega), by omega⟩) fun _ => T.ok trivial
 ·cases r <;> exact T.ok trivial
abbrev OpT : Type := Int × Int × Int × Int × L8 × Nd
def zxC (o : OpT) (nx : Int) (es : Es) : Int × Es :=
 bif o.2.1 == (0 : Int) then ((znK o.2.2.2.2.2 o.2.2.1 nx es).2.2.1, (znK o.2.2.2.2.2 o.2.2.1 nx es).2.2.2) else
 bif o.2.1 == (1 : Int) then (nx, es) else
 bif o.2.1 == (2 : Int) then (nx, (yaC es o.2.2.1 o.2.2.2.1).2) else
 bif o.2.1 == (3 : Int) then (nx, bif mhas keqI es o.2.2.1 then chI es o.2.2.1 zoI else es) else
 bif o.2.1 == (4 : Int) then (nx, zwX es o.2.2.2.2.1) else
 bif o.2.1 == (5 : Int) then (nx, (yjA es o.2.2.1 o.2.2.2.1).2) else
 bif o.2.1 == (6 : Int) then (nx, (yiG es o.2.2.1 o.2.2.2.2.1).2) else
 bif o.2.1 == (7 : Int) then (nx, zaQ es o.2.2.1) else (nx, es)
theorem Ok.kill {nx : Int} {es : Es} (h : Ok nx es) (i : Int) : Ok nx (bif mhas keqI es i then chI es i zoI else es) := by
 cases mhas keqI es i with
 | false => exact h
 | true => exact h.ch (zoY _)
theorem Ok.step {nx : Int} {es : Es} (h : Ok nx es) (o : OpT) : Ok (zxC o nx es).1 (zxC o nx es).2 := by
 unfold zxC
 cases o.2.1 == (0 : Int) with
 | true => exact h.plant _ _
 | false =>
  cases o.2.1 == (1 : Int) with
  | true => exact h
  | false =>
   cases o.2.1 == (2 : Int) with
   | true => exact h.spend _ _
   | false =>
    cases o.2.1 == (3 : Int) with
    | true => exact h.kill _
    | false =>
     cases o.2.1 == (4 : Int) with
     | true => exact h.killed _
     | false =>
      cases o.2.1 == (5 : Int) with
      | true => exact h.lift _ _
      | false =>
       cases o.2.1 == (6 : Int) with
       | true => exact h.note _ _
       | false =>
        cases o.2.1 == (7 : Int) with
        | true => exact h.pruned _
        | false => exact h
theorem ysD : Lst zN := ⟨by decide, by decide⟩
theorem yjO {nx : Int} {es : Es} (h : Ok nx es) (i : Int) : Lst (zhK keqI es i zN) := by
 cases hh : mhas keqI es i with
 | false => rw [yfT hh]; exact ysD
 | true =>
  obtain ⟨n, hn, hp⟩ := znZ hh
  rw [zkC hn]
  exact h.lst hp
theorem ylB {nx : Int} {es : Es} (h : Ok nx es) {s : L8} {n : Nd} (hf : zwD es s = some n) : Lst n := by
 unfold zwD at hf
 obtain ⟨p, hp, rfl⟩ := Option.map_eq_some_iff.1 hf
 exact h.lst (List.mem_of_find?_eq_some hp)
theorem yxM {s : Int × Int × List Nd × Int × Es × Int × Int × Int × L8 × L8 × L8 × Int × Int × Bool × Bool × Int × L8 × L8 × List L8 × List L8} (h0 : s.1 = 0) (h1 : (s.2.2.2.2.2.2.2.2.2.2.2.2.2.2.2.2.2.2.1).length ≤ 1048576) (h2 : (s.2.2.2.2.2.2.2.2.2.2.2.2.2.2.2.2.2.2.2).length ≤ 1048576) : T (iter (fun x => zgN zaB x.1 x.2.1 x.2.2.1 x.2.2.2.1 x.2.2.2.2.1 x.2.2.2.2.2.1 x.2.2.2.2.2.2.1 x.2.2.2.2.2.2.2.1 x.2.2.2.2.2.2.2.2.1 x.2.2.2.2.2.2.2.2.2.1 x.2.2.2.2.2.2.2.2.2.2.1 x.2.2.2.2.2.2.2.2.2.2.2.1 x.2.2.2.2.2.2.2.2.2.2.2.2.1 x.2.2.2.2.2.2.2.2.2.2.2.2.2.1 x.2.2.2.2.2.2.2.2.2.2.2.2.2.2.1 x.2.2.2.2.2.2.2.2.2.2.2.2.2.2.2.1 x.2.2.2.2.2.2.2.2.2.2.2.2.2.2.2.2.1 x.2.2.2.2.2.2.2.2.2.2.2.2.2.2.2.2.2.1 x.2.2.2.2.2.2.2.2.2.2.2.2.2.2.2.2.2.2.1 x.2.2.2.2.2.2.2.2.2.2.2.2.2.2.2.2.2.2.2) s) fun r => r.1 = s.2.1 ∧ r.2.1 = s.2.2.1 ∧ r.2.2.1 = s.2.2.2.1 ∧ r.2.2.2.1 = s.2.2.2.2.1 ∧ (r.2.2.2.2.2.2.2.2.2.2.2.2.2.2.2.2.2.2).length ≤ 1048576 := by
 refine T.iter (fun x => x.2.1 = s.2.1 ∧ x.2.2.1 = s.2.2.1 ∧ x.2.2.2.1 = s.2.2.2.1 ∧ x.2.2.2.2.1 = s.2.2.2.2.1 ∧ 0 ≤ x.1 ∧ x.1 ≤ ((x.2.2.2.2.2.2.2.2.2.2.2.2.2.2.2.2.2.2.1).length : Int) ∧ (x.2.2.2.2.2.2.2.2.2.2.2.2.2.2.2.2.2.2.1).length ≤ 1048576 ∧ (x.2.2.2.2.2.2.2.2.2.2.2.2.2.2.2.2.2.2.2).length ≤ 1048576) (fun x => (x.2.2.2.2.2.2.2.2.2.2.2.2.2.2.2.2.2.2.1).length - x.1.toNat) _ (fun x hx => ?_) ⟨rfl, rfl, rfl, rfl, by omega, by omega, h1, h2⟩ (by omega)
 obtain ⟨e1, e2, e3, e4, h5, h6, h7, h8⟩ := hx
 obtain ⟨k, hk⟩ : ∃ k : Nat, x.1 = k := ⟨x.1.toNat, by omega⟩
 unfold zgN
 rw [hk]
 rw [hk] at h5 h6
 refine T.dif (fun h9 => ?_) fun _ => T.ok ⟨e1, e2, e3, e4, h8⟩
 rw [decide_eq_true (show (0 : Int) ≤ (k : Int) by omega), decide_eq_true h9, Bool.and_self, zrW rfl, zaA]
 refine (ymG (by omega) h9).bind fun r hr => ?_
 obtain ⟨j, rfl⟩ := hr
 refine T.ok ⟨⟨e1, e2, e3, e4, ?_, ?_, ?_, h8⟩, ?_⟩
 ·rw [zdM (by omega)]; exact Int.natCast_nonneg _
 ·rw [zdM (by omega), List.length_set]; exact Int.ofNat_le.2 (by omega)
 ·rw [List.length_set]; exact h7
 ·rw [zdM (by omega), List.length_set, Int.toNat_natCast]; omega
theorem yvY {s : Int × Int × List Nd × Int × Es × Int × Int × Int × L8 × L8 × L8 × Int × Int × Bool × Bool × Int × L8 × L8 × List L8 × List L8} (h0 : s.1 = 0) (h2 : (s.2.2.2.2.2.2.2.2.2.2.2.2.2.2.2.2.2.2.2).length ≤ 1048576) : T (iter (fun x => zgE zaB x.1 x.2.1 x.2.2.1 x.2.2.2.1 x.2.2.2.2.1 x.2.2.2.2.2.1 x.2.2.2.2.2.2.1 x.2.2.2.2.2.2.2.1 x.2.2.2.2.2.2.2.2.1 x.2.2.2.2.2.2.2.2.2.1 x.2.2.2.2.2.2.2.2.2.2.1 x.2.2.2.2.2.2.2.2.2.2.2.1 x.2.2.2.2.2.2.2.2.2.2.2.2.1 x.2.2.2.2.2.2.2.2.2.2.2.2.2.1 x.2.2.2.2.2.2.2.2.2.2.2.2.2.2.1 x.2.2.2.2.2.2.2.2.2.2.2.2.2.2.2.1 x.2.2.2.2.2.2.2.2.2.2.2.2.2.2.2.2.1 x.2.2.2.2.2.2.2.2.2.2.2.2.2.2.2.2.2.1 x.2.2.2.2.2.2.2.2.2.2.2.2.2.2.2.2.2.2.1 x.2.2.2.2.2.2.2.2.2.2.2.2.2.2.2.2.2.2.2) s) fun r => r = (s.2.1, s.2.2.1, s.2.2.2.1, s.2.2.2.2.1) := by
 refine T.iter (fun x => x.2.1 = s.2.1 ∧ x.2.2.1 = s.2.2.1 ∧ x.2.2.2.1 = s.2.2.2.1 ∧ x.2.2.2.2.1 = s.2.2.2.2.1 ∧ 0 ≤ x.1 ∧ x.1 ≤ ((x.2.2.2.2.2.2.2.2.2.2.2.2.2.2.2.2.2.2.2).length : Int) ∧ (x.2.2.2.2.2.2.2.2.2.2.2.2.2.2.2.2.2.2.2).length ≤ 1048576) (fun x => (x.2.2.2.2.2.2.2.2.2.2.2.2.2.2.2.2.2.2.2).length - x.1.toNat) _ (fun x hx => ?_) ⟨rfl, rfl, rfl, rfl, by omega, by omega, h2⟩ (by omega)
 obtain ⟨e1, e2, e3, e4, h5, h6, h8⟩ := hx
 obtain ⟨k, hk⟩ : ∃ k : Nat, x.1 = k := ⟨x.1.toNat, by omega⟩
 unfold zgE
 rw [hk]
 rw [hk] at h5 h6
 refine T.dif (fun h9 => ?_) fun _ => T.ok (by rw [e1, e2, e3, e4])
 rw [decide_eq_true (show (0 : Int) ≤ (k : Int) by omega), decide_eq_true h9, Bool.and_self, zrW rfl, zaA]
 refine (ymG (by omega) h9).bind fun r hr => ?_
 obtain ⟨j, rfl⟩ := hr
 refine T.ok ⟨⟨e1, e2, e3, e4, ?_, ?_, ?_⟩, ?_⟩
 ·rw [zdM (by omega)]; exact Int.natCast_nonneg _
 ·rw [zdM (by omega), List.length_set]; exact Int.ofNat_le.2 (by omega)
 ·rw [List.length_set]; exact h8
 ·rw [zdM (by omega), List.length_set, Int.toNat_natCast]; omega
def Did (nx : Int) (es : Es) : Bool × Int × List Nd × Int × Es → Prop := fun r => (r.2.1, r.2.2.2.2) = (nx, es) ∧ RY r.2.2.1 r.2.2.2.1
theorem yyC {nx ny : Int} {es : Es} {L : List Nd} (h : Ok nx es) (hy : RY L ny) (o : OpT) (ho : NdOk o.2.2.2.2.2) : T (zdZ zaB o nx L ny es) (Did (zxC o nx es).1 (zxC o nx es).2) := by
 unfold zdZ zxC
 have h4 : o.2.2.2.2.2.2.2.2.2.2.2.1.length ≤ 1048576 := ho.2.2.2.1
 have h6 : o.2.2.2.2.2.2.2.2.2.2.2.2.2.2.2.2.1.length ≤ 1048576 := ho.2.2.2.2.2.1
 cases o.2.1 == (0 : Int) with
 | true =>
  simp only [cond_true]
  rw [zlL _ (by omega), zaA, zlL _ (by omega), zaA]
  rw [show zcS zaB _ _ _ _ _ _ _ _ _ _ _ _ _ _ _ _ _ _ = _ from ylO h o.2.2.2.2.2 o.2.2.1 ⟨h4, h6⟩, zaA]
  refine (ypW hy ho o.2.2.1).bind fun r hr => ?_
  refine T.bind (yxM (by exact rfl) (by exact h4) (by exact h6)) fun v hv => ?_
  obtain ⟨e1, e2, e3, e4, h7⟩ := hv
  refine T.bind (yvY (by exact rfl) (by exact h7)) fun v2 hv2 => ?_
  simp only at e1 e2 e3 e4
  rw [e1, e2, e3, e4] at hv2
  subst hv2
  exact T.bif (fun _ => T.ok ⟨rfl, hr⟩) fun _ => T.ok ⟨rfl, hr⟩
 | false =>
  cases o.2.1 == (1 : Int) with
  | true =>
   simp only [cond_true, cond_false]
   rw [ywT h, zaA]
   refine (zxA hy.len _).bind fun r hr => ?_
   obtain ⟨n1, b1, v⟩ := r
   obtain ⟨rfl, _⟩ := hr
   simp only []
   rw [ztY h, zaA]
   have hql : Lst ((zwD es o.2.2.2.2.1).getD zN) := by
    cases hf : zwD es o.2.2.2.2.1 with
    | none => exact ysD
    | some n => exact ylB h hf
   refine (yoF hy.len _).bind fun r hr => ?_
   obtain ⟨n2, b2, v⟩ := r
   obtain ⟨rfl, _⟩ := hr
   simp only []
   have hok : ∀ b : Bool, Did nx es (b, nx, L, ny, es) := fun b => ⟨rfl, hy⟩
   refine T.bif (fun _ => T.bif (fun _ => (ysB (yjO h _)).bind fun _ _ => T.bif (fun _ => (ysB hql).bind fun _ _ => T.bif (fun _ => ?_) fun _ => T.ok (hok _)) fun _ => T.ok (hok _)) fun _ => T.ok (hok _)) fun _ => T.ok (hok _)
   rw [zlG h, zaA]
   refine (yeE hy _ _).bind fun r hr => ?_
   obtain ⟨b3, v⟩ := r
   simp only at hr
   subst hr
   refine T.bif (fun _ => ?_) fun _ => T.ok (hok _)
   rw [yeQ h, zaA]
   refine (yeH hy _).bind fun r hr => ?_
   obtain ⟨L', ny', l⟩ := r
   obtain ⟨e1, e2, _⟩ := hr
   simp only at e1 e2
   subst e1 e2
   exact (ynD (zxI h _)).bind fun _ _ => T.ok (hok _)
  | false =>
   cases o.2.1 == (2 : Int) with
   | true =>
    simp only [cond_true, cond_false]
    rw [yrQ h, zaA]
    exact (ypU hy _ _).bind fun r hr => T.ok ⟨rfl, hr⟩
   | false =>
    cases o.2.1 == (3 : Int) with
    | true =>
     simp only [cond_true, cond_false]
     rw [yxF h, zaA]
     refine (yoJ hy _).bind fun r hr => T.ok ⟨?_, hr⟩
     cases mhas keqI es o.2.2.1 <;> rfl
    | false =>
     cases o.2.1 == (4 : Int) with
     | true =>
      simp only [cond_true, cond_false]
      rw [ylU h, zaA]
      exact (ylS hy _).bind fun r hr => T.ok ⟨rfl, hr⟩
     | false =>
      cases o.2.1 == (5 : Int) with
      | true =>
       simp only [cond_true, cond_false]
       rw [ytG h, zaA]
       exact (yvV hy _ _).bind fun r hr => T.ok ⟨rfl, hr⟩
      | false =>
       cases o.2.1 == (6 : Int) with
       | true =>
        simp only [cond_true, cond_false]
        rw [ywH h, zaA]
        exact (ywB hy _ _).bind fun r hr => T.ok ⟨rfl, hr⟩
       | false =>
        cases o.2.1 == (7 : Int) with
        | true =>
         simp only [cond_true, cond_false]
         rw [zsM h, zaA]
         refine (ygB hy _).bind fun r hr => T.ok ⟨rfl, ?_⟩
         obtain ⟨m, nx', out⟩ := r
         obtain ⟨e1, hsub, hlen⟩ := hr
         simp only at e1 hsub hlen
         subst e1
         exact ⟨fun q hq => hy.ids q (hsub q hq), fun q hq => hy.ok q (hsub q hq), hy.next, Nat.le_trans hlen hy.len⟩
        | false => exact T.ok ⟨rfl, hy⟩
def zwT (l : List OpT) : Int × Es := l.foldl (fun s o => zxC o s.1 s.2) (1, [])
theorem ysN : Ok 1 [] := ⟨List.Pairwise.nil, fun _ h => (by cases h), fun _ h => (by cases h), fun _ h => (by cases h), fun _ h => (by cases h), ⟨by decide, by decide⟩, by decide⟩
theorem ybM : ∀ (l : List OpT) (s : Int × Es), Ok s.1 s.2 → Ok (l.foldl (fun s o => zxC o s.1 s.2) s).1 (l.foldl (fun s o => zxC o s.1 s.2) s).2
 | [], _, h => h
 | o :: l, s, h => ybM l (zxC o s.1 s.2) (h.step o)
theorem ynP (l : List OpT) : Ok (zwT l).1 (zwT l).2 := ybM l (1, []) ysN
theorem yuQ {l : List OpT} (hl : l.length ≤ 1048576) (ho : ∀ o ∈ l, NdOk o.2.2.2.2.2) : zeJ zaB l = some (zwT l) := by
 have h : T (iter (fun x => zhF zaB l x.1 x.2.1 x.2.2.1 x.2.2.2.1 x.2.2.2.2) ((0 : Int), 1, ([] : List Nd), 1, ([] : Es))) fun r => r = zwT l := by
  refine T.iter (fun x => 0 ≤ x.1 ∧ x.1 ≤ (l.length : Int) ∧ (x.2.1, x.2.2.2.2) = (l.take x.1.toNat).foldl (fun s o => zxC o s.1 s.2) (1, []) ∧ RY x.2.2.1 x.2.2.2.1) (fun x => l.length - x.1.toNat) _ (fun x hx => ?_) ⟨Int.le_refl _, by simp, rfl, ⟨fun _ h => (by cases h), fun _ h => (by cases h), ⟨by decide, by decide⟩, by decide⟩⟩ (by simp; omega)
  obtain ⟨i, nx, L, ny, es⟩ := x
  obtain ⟨h1, h2, h3, hy⟩ := hx
  simp only at h1 h2 h3 hy
  obtain ⟨k, rfl⟩ : ∃ k : Nat, i = k := ⟨i.toNat, by omega⟩
  rw [Int.toNat_natCast] at h3
  unfold zhF
  simp only []
  refine T.dif (fun h4 => ?_) fun h4 => T.ok ?_
  ·have hk : k < l.length := by omega
   rw [zoE rfl hk, zaA]
   have hO := ybM (l.take k) (1, []) ysN
   rw [← h3] at hO
   refine (yyC hO hy l[k] (ho _ (List.getElem_mem hk))).bind fun r hr => ?_
   obtain ⟨b, nx', L', ny', es'⟩ := r
   obtain ⟨h5, h6⟩ := hr
   refine T.ok ⟨⟨?_, ?_, ?_, h6⟩, ?_⟩
   ·simp only []; rw [zdM (by omega)]; omega
   ·simp only []; rw [zdM (by omega)]; omega
   ·simp only []
    rw [zdM (by omega), Int.toNat_natCast, List.take_succ_eq_append_getElem hk, List.foldl_append, ← h3]
    exact h5
   ·simp only []; rw [zdM (by omega)]; omega
  ·rw [List.take_of_length_le (by omega)] at h3
   exact h3
 obtain ⟨r, h1, rfl⟩ := h
 unfold zeJ zhQ ziE
 rw [zaA, zaA]
 rw [show iter _ _ = _ from h1, zaA]
end Go.Proofs.YtebbcofojchkpaaGreatDoor.Am
namespace Go.Proofs.YtebbcofojchkpaaGreatDoor
open Go Go.RowKit
section
open Go Go.RowKit Go.ChangeShapes Go.WideShapes Go.ChangeAt
section
variable {H : Type} {enc : TypeId × Value → H} {P : Program} {W W' : World}
theorem zyL (hl : laidOutB P = true) (hx : Below W.heap.size W W') : ∀ {ts : List TypeId} {vs : LV} {ds : List (DataW H)} {ps : List MemPlace}, ts.all (fun t => P.readableRec t && decide (t < P.types.size)) = true →
  DataW.TrodAll enc P W 0 (fun _ => true) true ts vs ds ps → (∀ x ∈ ps, x.block < W.heap.size) → DataW.TrodAll enc P W' 0 (fun b => decide (b < W.heap.size)) true ts vs ds ps
 | [], vs, ds, ps, _, h, _ => by
  obtain ⟨rfl, rfl, rfl⟩ := trodAll_nil h
  exact trodAll_mk0
 | t :: ts, vs, ds, ps, ha, h, hlt => by
  obtain ⟨v, vs', d, ds', p, q, rfl, rfl, rfl, h0, hr⟩ := trodAll_cons h
  simp only [List.all_cons, Bool.and_eq_true, decide_eq_true_eq] at ha
  exact trodAll_cons_mk (Below.trod hl ha.1.1 ha.1.2 h0 hx fun x hx => hlt x (List.mem_append.2 (.inl hx)))
   (zyL hl hx ha.2 hr fun x hx => hlt x (List.mem_append.2 (.inr hx)))
theorem trodAll_length : ∀ {ts : List TypeId} {vs : LV} {ds : List (DataW H)} {ps : List MemPlace} {w : World} {b : Nat} {sp : Nat → Bool} {hd : Bool}, DataW.TrodAll enc P w b sp hd ts vs ds ps → vs.length = ts.length ∧ ds.length = ts.length
 | [], vs, ds, ps, _, _, _, _, h => by
  obtain ⟨rfl, rfl, rfl⟩ := trodAll_nil h
  exact ⟨rfl, rfl⟩
 | t :: ts, vs, ds, ps, _, _, _, _, h => by
  obtain ⟨v, vs', d, ds', p, q, rfl, rfl, rfl, h0, hr⟩ := trodAll_cons h
  have := trodAll_length hr
  simp [this.1, this.2]
theorem yqR {f : Func} {s : ChangeSpec} {args : Array Value} {ds gs : List (DataW H)} {before : List MemPlace} {B : TypeId} {n : Nat} (hl : laidOutB P = true) (hv : s.vars = [])
  (hp : f.params.toList.all (fun t => P.readableRec t && decide (t < P.types.size)) = true) (hn : f.params.toList.length = n) (hB : P.underlying B = some .bool) (hr : f.resultTypes = #[B])
  (hfn : ∀ ds : List (DataW H), ds.length = n → (s.fn H (ds ++ [])).results = [.lit (.bool true)] ∧ (s.fn H (ds ++ [])).args = ds ∧ (s.fn H (ds ++ [])).vars = [])
  (hW : DataW.Whole enc P f.params.toList s.vars false W args.toList ds gs before) (hx : Ext W W') : s.post enc P f false true false false W args (.bool true) W' := by
 have hW' := hW
 obtain ⟨p, q, hA, hV, rfl, _, _⟩ := hW
 rw [hv] at hV
 obtain ⟨rfl, rfl⟩ := trodVars_none hV
 have hA : DataW.TrodAll enc P W 0 (fun _ => true) true f.params.toList args.toList ds p := hA
 have hlen := trodAll_length hA
 obtain ⟨f1, f2, f3⟩ := hfn ds (hlen.2.trans hn)
 refine ⟨ds, [], p ++ [], [], p, [], hW', ?_, ?_, ?_, Below.frame hx _, fun h => by cases h⟩
 ·rw [f1, hr]
  exact trodAll_mk1 (shut_bool hB _)
 ·rw [f2]
  exact zyL hl hx hp hA fun x hxp => by simpa using hW'.lt x (by simp [hxp])
 ·rw [f3, hv]; exact rfl
variable {b0 : Nat} {T E : TypeId} {v : Value}
theorem yrM {fits : TypeId → Bool} : ∀ {d : Nat} {e : TypeId} {count off n : Nat}, rowAt P fits d e count off n = true → off ≤ count * P.cellsOf e
 | 0, _, _, _, _, h => by simp [rowAt] at h
 | d + 1, e, count, off, n, h => by
  unfold rowAt at h
  by_cases hs : P.cellsOf e = 0
  ·simp [hs] at h
  ·have hd := Nat.div_add_mod off (P.cellsOf e)
   have hm := Nat.mod_lt off (Nat.pos_of_ne_zero hs)
   simp only [hs, if_false, Bool.or_eq_true, Bool.and_eq_true, decide_eq_true_eq, beq_iff_eq] at h
   rcases h with ⟨⟨h1, h2⟩, _⟩ | ⟨h1, _⟩
   ·have h3 : P.cellsOf e * (off / P.cellsOf e) ≤ P.cellsOf e * count := Nat.mul_le_mul_left _ (by omega)
    rw [Nat.mul_comm count]; omega
   ·have h3 : P.cellsOf e * (off / P.cellsOf e + 1) ≤ P.cellsOf e * count := Nat.mul_le_mul_left _ (by omega)
    rw [Nat.mul_add, Nat.mul_one] at h3
    rw [Nat.mul_comm count]; omega
theorem ydU : ∀ {d : Nat} {e : TypeId} {count off : Nat} {u : TypeId} {n : Nat}, liesAt P d e count off u n = true → off ≤ count * P.cellsOf e
 | 0, _, _, _, _, _, h => by simp [liesAt] at h
 | d + 1, e, count, off, u, n, h => by
  unfold liesAt at h
  rw [Bool.or_eq_true] at h
  rcases h with h | h
  ·exact yrM h
  ·split at h
   ·exact ydU h
   ·cases h
theorem yrB {a : Addr} {len cap : Nat} (hu : P.underlying T = some (.slice E)) (h : Value.okWide P W .any b0 T (.slice (some a) len cap)) :
  a.spot = none ∧ ∃ cs R fz, W.heap[a.block]? = some (.cells cs R fz) ∧ a.off ≤ cs.size := by
 simp only [Value.okWide, Cell.okWide, Cell.ok, hu] at h
 obtain ⟨_, _, _, h2, row, cells, h3, h4⟩ := h
 refine ⟨h2, ?_⟩
 unfold World.shape? at h3
 split at h3
 ·rename_i c elem fz hb
  simp only [Option.some.injEq, Prod.mk.injEq] at h3
  obtain ⟨rfl, rfl⟩ := h3
  have h5 := ydU h4
  have h6 := Nat.div_mul_le_self c.size (P.cellsOf elem)
  exact ⟨c, _, fz, hb, by omega⟩
 ·cases h3
theorem ok_slice (hu : P.underlying T = some (.slice E)) (h : Value.okWide P W .any b0 T v) : v = .slice none 0 0 ∨ ∃ a len cap, v = .slice (some a) len cap := by
 simp only [Value.okWide, Cell.okWide, Cell.ok, hu] at h
 cases v with
 | slice a len cap =>
  cases a with
  | none =>
   left
   cases len with
   | zero => cases cap with
    | zero => rfl
    | succ n => simp at h
   | succ n => simp at h
  | some a => exact .inr ⟨a, len, cap, rfl⟩
 | _ => simp at h
theorem yhW {l r : List (DataW H)} : Rows.uptoBulkAll (l ++ r) = Rows.uptoBulkAll l + Rows.uptoBulkAll r := by
 induction l with
 | nil => simp [Rows.uptoBulkAll]
 | cons x l ih => simp only [List.cons_append, Rows.uptoBulkAll, ih]; omega
end
end
end Go.Proofs.YtebbcofojchkpaaGreatDoor
namespace Go.Proofs.YtebbcofojchkpaaGreatDoor.Am
open Go Go.RowKit Go.ChangeShapes Go.WideShapes Go.ChangeAt
def dsz : (t : Ty) → den t → Nat
 | .s, x => List.length x + 1
 | .pr a c, x => dsz a x.1 + dsz c x.2
 | .un, _ => 0
 | .sl e, x => (List.map (dsz e) x).sum + 1
 | _, _ => 1
def fOk (q : TypeId → Ty → Bool) (c : TypeId → Nat) : List Field → Nat → Ty → Bool
 | [], _, t => match t with
  | .un => true
  | _ => false
 | [f], off, t => (q f.type t && (Nat.beq f.offset off && Nat.beq (c f.type) (tsz t))) || (match t with
  | .pr a .un => q f.type a && (Nat.beq f.offset off && Nat.beq (c f.type) (tsz a))
  | _ => false)
 | f :: g :: fs, off, t => match t with
  | .pr a r => (q f.type a && (Nat.beq f.offset off && Nat.beq (c f.type) (tsz a))) && fOk q c (g :: fs) (off + tsz a) r
  | _ => false
def tyOk (P : Program) : Nat → TypeId → Ty → Bool
 | 0, _, _ => false
 | n + 1, T, t => match P.underlying T, t with
  | some (.int k), .i k' => (ikEq k k').isSome
  | some .bool, .b => true
  | some .string, .s => true
  | some (.slice E), .sl e => tyOk P n E e && (Nat.beq (P.cellsOf E) (tsz e) && Nat.blt 0 (tsz e))
  | some (.struct fs), t => (Nat.beq (P.cellsOf T) (tsz t) && !(one t)) && fOk (tyOk P n) P.cellsOf fs.toList 0 t
  | _, _ => false
section
variable {H : Type} {enc : TypeId × Value → H} {P : Program} {W : World} {sp : Nat → Bool} {S : Mem}
theorem yyN : ∀ {k : IntKind} {n : Int}, (Lit.int k n).wf = true → toI k (ofI k n) = n := fun {k n} h => by
 rw [ynW]
 cases k <;> simp [Lit.wf, IntKind.has, IntKind.min, IntKind.max, IntKind.signed, IntKind.bits] at h <;> simp [IntKind.wrap, IntKind.signed, IntKind.bits] <;> omega
theorem ydC {a c : Ty} {cs : LV} {x : den a} {y : den c} (hx : rep a S (cs.take (tsz a)) x) (hy : rep c S (cs.drop (tsz a)) y) : rep (.pr a c) S cs (x, y) :=
 ⟨_, _, (List.take_append_drop (tsz a) cs).symm, hx, hy⟩
theorem ysR : rep .un S ([] : LV) () := rfl
theorem ydN {q : TypeId → Ty → Bool} {fuel : Nat} (hq : ∀ (T : TypeId) (t : Ty), q T t = true → ∀ cs d ps, DataW.trod enc P W 0 sp true fuel T cs = some (d, ps) → ∃ x : den t, rep t S cs x ∧ dsz t x ≤ Rows.uptoBulk d) {cs : LV} :
  ∀ (fs : List Field) (off : Nat) (t : Ty) (xs : List (DataW H × List MemPlace)), fOk q P.cellsOf fs off t = true → cs.length = off + tsz t →
   A2 (fun (f : Field) y => DataW.trod enc P W 0 sp true fuel f.type ((cs.drop f.offset).take (P.cellsOf f.type)) = some y) fs xs →
   ∃ x : den t, rep t S (cs.drop off) x ∧ dsz t x ≤ Rows.uptoBulkAll (xs.map (·.1))
 | [], off, t, xs, h, hl, hA => by
  cases t <;> simp only [fOk] at h <;> try (cases h; done)
  cases hA
  refine ⟨(), ?_, Nat.zero_le _⟩
  rw [List.drop_eq_nil_of_le (by rw [hl]; exact Nat.le_refl _)]
  exact ysR
 | [f], off, t, xs, h, hl, hA => by
  cases hA with
  | @cons _ y _ _ h1 h2 =>
   cases h2
   simp only [fOk, Bool.or_eq_true] at h
   rcases h with h | h
   ·rw [Bool.and_eq_true, Bool.and_eq_true] at h
    obtain ⟨h0, h2, h3⟩ := h
    have h2 := Nat.eq_of_beq_eq_true h2
    have h3 := Nat.eq_of_beq_eq_true h3
    obtain ⟨x, hx, hd⟩ := hq _ _ h0 _ _ _ h1
    refine ⟨x, ?_, by simp only [List.map_cons, List.map_nil, Rows.uptoBulkAll]; omega⟩
    rw [h2, h3, List.take_of_length_le (by rw [List.length_drop]; omega)] at hx
    exact hx
   ·cases t with
    | pr a c =>
     cases c with
     | un =>
      rw [Bool.and_eq_true, Bool.and_eq_true] at h
      obtain ⟨h0, h2, h3⟩ := h
      have h2 := Nat.eq_of_beq_eq_true h2
      have h3 := Nat.eq_of_beq_eq_true h3
      obtain ⟨x, hx, hd⟩ := hq _ _ h0 _ _ _ h1
      rw [h2, h3] at hx
      have hl : cs.length = off + tsz a := hl
      refine ⟨(x, ()), ydC hx ?_, by simp only [List.map_cons, List.map_nil, Rows.uptoBulkAll]; show dsz a x + 0 ≤ _; omega⟩
      rw [List.drop_eq_nil_of_le (by rw [List.length_drop]; omega)]
      exact ysR
     | _ => simp at h
    | _ => simp at h
 | f :: g :: fs, off, t, xs, h, hl, hA => by
  cases t with
  | pr a r =>
   simp only [fOk] at h
   rw [Bool.and_eq_true, Bool.and_eq_true, Bool.and_eq_true] at h
   obtain ⟨⟨h1, h2, h3⟩, h4⟩ := h
   have h2 := Nat.eq_of_beq_eq_true h2
   have h3 := Nat.eq_of_beq_eq_true h3
   have hl : cs.length = off + (tsz a + tsz r) := hl
   cases hA with
   | @cons _ y _ ys g1 g2 =>
    obtain ⟨x, hx, hd⟩ := hq _ _ h1 _ _ _ g1
    obtain ⟨z, hz, he⟩ := ydN hq (g :: fs) (off + tsz a) r ys h4 (by omega) g2
    rw [h2, h3] at hx
    refine ⟨(x, z), ydC hx (by rw [List.drop_drop]; exact hz), ?_⟩
    simp only [List.map_cons, Rows.uptoBulkAll]
    show dsz a x + dsz r z ≤ _
    omega
  | _ => simp [fOk] at h
theorem yrZ {α β : Type} {R : α → β → Prop} : ∀ {l : List α} {m : List β}, l.length = m.length → (∀ (i : Nat) (a : α) (b : β), l[i]? = some a → m[i]? = some b → R a b) → A2 R l m
 | [], [], _, _ => .nil
 | [], _ :: _, h, _ => by cases h
 | _ :: _, [], h, _ => by cases h
 | a :: l, b :: m, h, hR => .cons (hR 0 a b rfl rfl) (yrZ (by simpa using h) fun i a b ha hb => hR (i + 1) a b (by simpa using ha) (by simpa using hb))
theorem ykT {e : Ty} : ∀ {xs : List (den e)} {cs ds : LV} {x : den e}, @RL (den e) (rpD e) S cs xs → rep e S ds x → @RL (den e) (rpD e) S (cs ++ ds) (xs ++ [x])
 | [], cs, ds, x, h, hx => by
  have h : cs = [] := h
  subst h
  exact ⟨ds, [], by simp, hx, rfl⟩
 | y :: xs, cs, ds, x, h, hx => by
  obtain ⟨c, d, rfl, h1, h2⟩ := h
  exact ⟨c, d ++ ds, by simp, h1, ykT h2 hx⟩
theorem xcF {T E : TypeId} {e : Ty} {fuel : Nat} (hu : P.underlying T = some (.slice E)) (hc : P.cellsOf E = tsz e) (hz : 0 < tsz e) (hq : ∀ (m : Nat) (cs : LV) (d : DataW H) (ps : List MemPlace), DataW.trod enc P W 0 (fun _ => true) true m E cs = some (d, ps) → ∃ x : den e, rep e (zmX W) cs x ∧ dsz e x ≤ Rows.uptoBulk d) {cs : LV} {d : DataW H} {ps : List MemPlace} (hd : DataW.trod enc P W 0 (fun _ => true) true fuel T cs = some (d, ps)) :
  ∃ xs : List (den e), rep (.sl e) (zmX W) cs xs ∧ dsz (.sl e) xs ≤ Rows.uptoBulk d := by
 rcases DataW.trod_slice hu hd with ⟨rfl, h2⟩ | ⟨a, len, cap, elems, rest, m, rfl, rfl, h2, _, hlc, _, hel, hget, hrest, _⟩
 ·cases h2
  exact ⟨[], ⟨_, rfl, [], .inl ⟨⟨none, rfl⟩, rfl, rfl⟩, rfl⟩, Nat.le_refl _⟩
 ·cases h2
  by_cases hcap : cap = 0
  ·subst hcap
   obtain rfl : len = 0 := by omega
   refine ⟨[], ⟨_, rfl, [], .inl ⟨⟨some a, rfl⟩, rfl, rfl⟩, rfl⟩, ?_⟩
   show 0 + 1 ≤ _
   simp only [Rows.uptoBulk]
   omega
  have h0 : ∃ us, W.cells? 0 a (P.cellsOf E) = some us := by
   by_cases hl0 : len = 0
   ·subst hl0
    obtain ⟨g1, g2⟩ := hrest rfl
    have g3 := g2 0 (by omega)
    rw [List.getElem?_eq_getElem (by omega : 0 < rest.length)] at g3
    obtain ⟨us, hus, _⟩ := Option.bind_eq_some_iff.1 g3
    rw [show a.add ((0 + 0) * P.cellsOf E) = a by simp [Addr.add]] at hus
    exact ⟨us, hus⟩
   ·have g3 := hget 0 (by omega)
    rw [List.getElem?_eq_getElem (by omega : 0 < elems.length)] at g3
    obtain ⟨us, hus, _⟩ := Option.bind_eq_some_iff.1 g3
    rw [show a.add (0 * P.cellsOf E) = a by simp [Addr.add]] at hus
    exact ⟨us, hus⟩
  obtain ⟨us, hus⟩ := h0
  obtain ⟨_, hul, huc⟩ := World.cells?_some hus
  have hc0 := huc 0 (by omega)
  rw [show a.add 0 = a by simp [Addr.add], List.getElem?_eq_getElem (by omega : 0 < us.length)] at hc0
  obtain ⟨blk, off, spot⟩ := a
  obtain ⟨cs, R, fz, hb, hsp, ho⟩ : ∃ cs R fz, W.heap[blk]? = some (.cells cs R fz) ∧ spot = none ∧ off ≤ cs.size := by
   unfold World.cell? at hc0
   dsimp only at hc0
   split at hc0
   ·rename_i c R fz hb
    cases spot with
    | some s => simp at hc0
    | none =>
     rw [if_neg (by simp)] at hc0
     have := (Array.getElem?_eq_some_iff.1 hc0).1
     exact ⟨c, R, fz, hb, rfl, Nat.le_of_lt this⟩
   ·cases hc0
  subst hsp
  have ad : ∀ j, (⟨blk, off, none⟩ : Addr).add j = ⟨blk, off + j, none⟩ := fun j => by simp [Addr.add]
  have each : ∀ i, i < len → ∃ y x, elems[i]? = some y ∧ rep e (zmX W) (piece cs.toList (off + i * tsz e) (tsz e)) x ∧ dsz e x ≤ Rows.uptoBulk y.1 ∧ off + (i + 1) * tsz e ≤ cs.toList.length := fun i hi => by
   have hg := hget i hi
   obtain ⟨y, hy⟩ : ∃ y, elems[i]? = some y := ⟨_, List.getElem?_eq_getElem (by omega)⟩
   rw [hy] at hg
   obtain ⟨us, hus, hg⟩ := Option.bind_eq_some_iff.1 hg
   obtain ⟨_, hul, huc⟩ := World.cells?_some hus
   obtain ⟨x, hx, hdx⟩ := hq m us y.1 y.2 hg
   rw [hc, ad] at huc
   rw [hc] at hul
   have hcell : ∀ j, j < tsz e → cs.toList[off + i * tsz e + j]? = us[j]? := fun j hj => by
    have := huc j hj
    rw [show (⟨blk, off + i * tsz e, none⟩ : Addr).add j = ⟨blk, off + i * tsz e + j, none⟩ by simp [Addr.add]] at this
    simp only [World.cell?, hb, Option.isSome_none, if_neg (show ¬ (false = true) by decide)] at this
    simpa using this
   have hlen : off + (i + 1) * tsz e ≤ cs.toList.length := by
    have h1 := hcell (tsz e - 1) (by omega)
    rw [List.getElem?_eq_getElem (by omega : tsz e - 1 < us.length)] at h1
    have := (List.getElem?_eq_some_iff.1 h1).1
    rw [Nat.add_mul]; omega
   refine ⟨y, x, hy, ?_, hdx, hlen⟩
   have : piece cs.toList (off + i * tsz e) (tsz e) = us := by
    apply List.ext_getElem?
    intro j
    rw [zaH, List.getElem?_take]
    by_cases hj : j < tsz e
    ·rw [if_pos hj, List.getElem?_drop]; exact hcell j hj
    ·rw [if_neg hj, List.getElem?_eq_none (by omega)]
   rw [this]; exact hx
  have key : ∀ k, k ≤ len → ∃ xs : List (den e), xs.length = k ∧ @RL (den e) (rpD e) (zmX W) (piece cs.toList off (k * tsz e)) xs ∧ (List.map (dsz e) xs).sum ≤ Rows.uptoBulkAll ((elems.take k).map (·.1)) := by
   intro k
   induction k with
   | zero => intro _; exact ⟨[], rfl, by simp [piece, RL], Nat.zero_le _⟩
   | succ k ih =>
    intro hk
    obtain ⟨xs, h1, h2, h3⟩ := ih (by omega)
    obtain ⟨y, x, g1, g2, g3, _⟩ := each k (by omega)
    refine ⟨xs ++ [x], by simp [h1], ?_, ?_⟩
    ·have e2 : piece cs.toList off ((k + 1) * tsz e) = piece cs.toList off (k * tsz e) ++ piece cs.toList (off + k * tsz e) (tsz e) := by
      rw [zaH, zaH, zaH, Nat.add_mul, Nat.one_mul, List.take_add, List.drop_drop]
     rw [e2]
     exact ykT h2 g2
    ·rw [List.take_add_one, g1]
     simp only [Option.toList_some, List.map_append, List.map_cons, List.map_nil, List.sum_append, List.sum_cons, List.sum_nil, yhW, Rows.uptoBulkAll]
     omega
  obtain ⟨xs, h1, h2, h3⟩ := key len (Nat.le_refl _)
  have hfit : off + len * tsz e ≤ cs.toList.length := by
   rcases Nat.eq_zero_or_pos len with h0 | h0
   ·subst h0; rw [Array.length_toList]; omega
   ·obtain ⟨_, _, _, _, _, h4⟩ := each (len - 1) (by omega)
    rwa [Nat.sub_add_cancel h0] at h4
  refine ⟨xs, ⟨_, rfl, piece cs.toList off (len * tsz e), ?_, h2⟩, ?_⟩
  ·right
   refine ⟨blk, off, cap, cs.toList, R, fz, ?_, by rw [h1]; exact hlc, by simpa [zmX] using hb, ?_, ?_⟩
   ·rw [h1]
   ·rw [h1]; show _ + _ * (rpD e).sz ≤ _; rw [ziY]; exact hfit
   ·rw [h1]; show piece _ _ (_ * (rpD e).sz) = _; rw [ziY]
  ·rw [List.take_of_length_le (by omega)] at h3
   show (List.map (dsz e) xs).sum + 1 ≤ _
   simp only [Rows.uptoBulk]
   omega
theorem yaY : ∀ (n : Nat) (T : TypeId) (t : Ty), tyOk P n T t = true → ∀ (fuel : Nat) (cs : LV) (d : DataW H) (ps : List MemPlace), DataW.trod enc P W 0 (fun _ => true) true fuel T cs = some (d, ps) → ∃ x : den t, rep t (zmX W) cs x ∧ dsz t x ≤ Rows.uptoBulk d
 | 0, _, _, h, _, _, _, _, _ => by cases h
 | n + 1, T, t, h, fuel, cs, d, ps, hd => by
  unfold tyOk at h
  split at h
  ·rename_i k k' hu
   obtain ⟨hk, _⟩ := Option.isSome_iff_exists.1 h
   obtain rfl := hk.down
   obtain ⟨m, rfl, he, hw⟩ := DataW.trod_int hu hd
   cases he
   exact ⟨ofI _ m, (by show [Value.int _ m] = [.int _ (toI _ (ofI _ m))]; rw [yyN hw]), Nat.le_refl 1⟩
  ·rename_i hu
   obtain ⟨b, rfl, he⟩ := DataW.trod_bool hu hd
   cases he
   exact ⟨b, rfl, Nat.le_refl 1⟩
  ·rename_i hu
   obtain ⟨s, rfl, he, _⟩ := DataW.trod_string hu hd
   cases he
   exact ⟨s.data.toList, (by show [Value.string s] = [str s.data.toList]; simp [str]), Nat.le_refl _⟩
  ·rename_i E e hu
   rw [Bool.and_eq_true, Bool.and_eq_true] at h
   obtain ⟨h1, h2, h3⟩ := h
   exact xcF hu (Nat.eq_of_beq_eq_true h2) (by rw [zjW] at h3; simpa using h3) (fun m cs d ps hd => yaY n E e h1 m cs d ps hd) hd
  ·rename_i fs hu
   rw [Bool.and_eq_true, Bool.and_eq_true] at h
   obtain ⟨⟨h1, _⟩, h2⟩ := h
   have h1 := Nat.eq_of_beq_eq_true h1
   obtain ⟨xs, fuel, rfl, he, hl, hxl, hm⟩ := DataW.trod_struct hu hd
   cases he
   obtain ⟨x, hx, hb⟩ := ydN (S := zmX W) (fuel := fuel) (fun T' t' hq cs d ps => yaY n T' t' hq fuel cs d ps) fs.toList 0 _ xs h2 (by rw [hl, h1]; omega) (yrZ (by simp [hxl]) fun i f y hf hy => (hm i f (by simpa using hf)).trans hy)
   exact ⟨x, by simpa using hx, by simp only [Rows.uptoBulk]; omega⟩
  ·cases h
variable {b0 : Nat} {T E : TypeId} {v : Value}
theorem yqZ {n : Nat} {e : Ty} (hu : P.underlying T = some (.slice E)) (he : tyOk P n E e = true) (hc : P.cellsOf E = tsz e) (hz : 0 < tsz e) (h : Value.okWide P W .any b0 T v) {d : DataW H} {ps : List MemPlace} (hd : DataW.Trod enc P W 0 (fun _ => true) true T v d ps) :
  ∃ xs : List (den e), @RdS (den e) (rpD e) (zmX W) v xs ∧ dsz (.sl e) xs ≤ Rows.uptoBulk d := by
 obtain ⟨fuel, hf⟩ := hd
 have hv := ok_slice hu h
 have hcells : v.cells.toList = [v] := by
  rcases hv with rfl | ⟨a, len, cap, rfl⟩ <;> rfl
 rw [hcells] at hf
 rcases DataW.trod_slice hu hf with ⟨h1, h2⟩ | ⟨a, len, cap, elems, rest, m, rfl, h1, h2, _, hlc, _, hel, hget, _, _⟩
 ·simp only [List.cons.injEq, and_true] at h1
  subst h1
  cases h2
  exact ⟨[], ⟨[], .inl ⟨⟨none, rfl⟩, rfl, rfl⟩, rfl⟩, Nat.le_refl _⟩
 ·simp only [List.cons.injEq, and_true] at h1
  subst h1
  cases h2
  obtain ⟨hsp, cs, R, fz, hb, ho⟩ := yrB hu h
  obtain ⟨blk, off, spot⟩ := a
  dsimp only at hsp hb ho
  subst hsp
  have ad : ∀ j, (⟨blk, off, none⟩ : Addr).add j = ⟨blk, off + j, none⟩ := fun j => by simp [Addr.add]
  have each : ∀ i, i < len → ∃ y x, elems[i]? = some y ∧ rep e (zmX W) (piece cs.toList (off + i * tsz e) (tsz e)) x ∧ dsz e x ≤ Rows.uptoBulk y.1 ∧ off + (i + 1) * tsz e ≤ cs.toList.length := fun i hi => by
   have hg := hget i hi
   obtain ⟨y, hy⟩ : ∃ y, elems[i]? = some y := ⟨_, List.getElem?_eq_getElem (by omega)⟩
   rw [hy] at hg
   obtain ⟨us, hus, hg⟩ := Option.bind_eq_some_iff.1 hg
   obtain ⟨_, hul, huc⟩ := World.cells?_some hus
   obtain ⟨x, hx, hdx⟩ := yaY n E e he m us y.1 y.2 hg
   rw [hc, ad] at huc
   rw [hc] at hul
   have hcell : ∀ j, j < tsz e → cs.toList[off + i * tsz e + j]? = us[j]? := fun j hj => by
    have := huc j hj
    rw [show (⟨blk, off + i * tsz e, none⟩ : Addr).add j = ⟨blk, off + i * tsz e + j, none⟩ by simp [Addr.add]] at this
    simp only [World.cell?, hb, Option.isSome_none, if_neg (show ¬ (false = true) by decide)] at this
    simpa using this
   have hlen : off + (i + 1) * tsz e ≤ cs.toList.length := by
    have h1 := hcell (tsz e - 1) (by omega)
    rw [List.getElem?_eq_getElem (by omega : tsz e - 1 < us.length)] at h1
    have := (List.getElem?_eq_some_iff.1 h1).1
    rw [Nat.add_mul]; omega
   refine ⟨y, x, hy, ?_, hdx, hlen⟩
   have : piece cs.toList (off + i * tsz e) (tsz e) = us := by
    apply List.ext_getElem?
    intro j
    rw [zaH, List.getElem?_take]
    by_cases hj : j < tsz e
    ·rw [if_pos hj, List.getElem?_drop]; exact hcell j hj
    ·rw [if_neg hj, List.getElem?_eq_none (by omega)]
   rw [this]; exact hx
  have key : ∀ k, k ≤ len → ∃ xs : List (den e), xs.length = k ∧ @RL (den e) (rpD e) (zmX W) (piece cs.toList off (k * tsz e)) xs ∧ (List.map (dsz e) xs).sum ≤ Rows.uptoBulkAll ((elems.take k).map (·.1)) := by
   intro k
   induction k with
   | zero => intro _; exact ⟨[], rfl, by simp [piece, RL], Nat.zero_le _⟩
   | succ k ih =>
    intro hk
    obtain ⟨xs, h1, h2, h3⟩ := ih (by omega)
    obtain ⟨y, x, g1, g2, g3, _⟩ := each k (by omega)
    refine ⟨xs ++ [x], by simp [h1], ?_, ?_⟩
    ·have e2 : piece cs.toList off ((k + 1) * tsz e) = piece cs.toList off (k * tsz e) ++ piece cs.toList (off + k * tsz e) (tsz e) := by
      rw [zaH, zaH, zaH, Nat.add_mul, Nat.one_mul, List.take_add, List.drop_drop]
     rw [e2]
     exact ykT h2 g2
    ·rw [List.take_add_one, g1]
     simp only [Option.toList_some, List.map_append, List.map_cons, List.map_nil, List.sum_append, List.sum_cons, List.sum_nil, yhW, Rows.uptoBulkAll]
     omega
  obtain ⟨xs, h1, h2, h3⟩ := key len (Nat.le_refl _)
  have hfit : off + len * tsz e ≤ cs.toList.length := by
   rcases Nat.eq_zero_or_pos len with h0 | h0
   ·subst h0; rw [Array.length_toList]; omega
   ·obtain ⟨_, _, _, _, _, h4⟩ := each (len - 1) (by omega)
    rwa [Nat.sub_add_cancel h0] at h4
  refine ⟨xs, ⟨piece cs.toList off (len * tsz e), ?_, h2⟩, ?_⟩
  ·right
   refine ⟨blk, off, cap, cs.toList, R, fz, ?_, by rw [h1]; exact hlc, by simpa [zmX] using hb, ?_, ?_⟩
   ·rw [h1]
   ·rw [h1]; show _ + _ * (rpD e).sz ≤ _; rw [ziY]; exact hfit
   ·rw [h1]; show piece _ _ (_ * (rpD e).sz) = _; rw [ziY]
  ·rw [List.take_of_length_le (by omega)] at h3
   show (List.map (dsz e) xs).sum + 1 ≤ _
   simp only [Rows.uptoBulk]
   omega
def xaJ (P : Program) (T : TypeId) (t : Ty) : Bool := match P.underlying T, t with
 | some (.slice E), .sl e => tyOk P 8 E e && (Nat.beq (P.cellsOf E) (tsz e) && Nat.blt 0 (tsz e))
 | _, t => tyOk P 8 T t
theorem xbT {t : Ty} (ha : xaJ P T t = true) (h : Value.okWide P W .any b0 T v) {d : DataW H} {ps : List MemPlace} (hd : DataW.Trod enc P W 0 (fun _ => true) true T v d ps) :
  ∃ x : den t, rep1 t (zmX W) v x ∧ dsz t x ≤ Rows.uptoBulk d := by
 unfold xaJ at ha
 split at ha
 ·rename_i E e hu
  rw [Bool.and_eq_true, Bool.and_eq_true] at ha
  obtain ⟨h1, h2, h3⟩ := ha
  obtain ⟨xs, g1, g2⟩ := yqZ hu h1 (Nat.eq_of_beq_eq_true h2) (by rw [zjW] at h3; simpa using h3) h hd
  exact ⟨xs, ⟨v, rfl, g1⟩, g2⟩
 ·obtain ⟨fuel, hf⟩ := hd
  obtain ⟨x, hx, hb⟩ := yaY 8 T _ ha fuel _ _ _ hf
  refine ⟨x, ?_, hb⟩
  unfold rep1
  unfold tyOk at ha
  split at ha
  ·rename_i hu
   have hv : v.cells.toList = [v] := by
    simp only [Value.okWide, hu, Cell.okWide, Cell.ok] at h
    cases v <;> simp_all <;> rfl
   rw [hv] at hx
   rw [if_pos (show one (.i _) = true from rfl)]; exact hx
  ·rename_i hu
   have hv : v.cells.toList = [v] := by
    simp only [Value.okWide, hu, Cell.okWide, Cell.ok] at h
    cases v <;> simp_all <;> rfl
   rw [hv] at hx
   rw [if_pos (show one .b = true from rfl)]; exact hx
  ·rename_i hu
   have hv : v.cells.toList = [v] := by
    simp only [Value.okWide, hu, Cell.okWide, Cell.ok] at h
    cases v <;> simp_all <;> rfl
   rw [hv] at hx
   rw [if_pos (show one .s = true from rfl)]; exact hx
  ·rename_i hu hno
   exact (hno _ _ hu rfl).elim
  ·rename_i fs hu _
   rw [Bool.and_eq_true, Bool.and_eq_true] at ha
   simp only [Value.okWide, hu] at h
   obtain ⟨cs, rfl, _, _⟩ := h
   rw [if_neg (by simpa using ha.1.2)]
   exact ⟨cs.toList, by simp, hx⟩
  ·cases ha
def posT : Ty → Bool
 | .un => false
 | .pr a c => posT a || posT c
 | _ => true
theorem yfK : ∀ {e : Ty}, posT e = true → ∀ x : den e, 1 ≤ dsz e x
 | .i _, _, _ => Nat.le_refl 1
 | .b, _, _ => Nat.le_refl 1
 | .s, _, _ => Nat.le_add_left 1 _
 | .er, _, _ => Nat.le_refl 1
 | .sl _, _, _ => Nat.le_add_left 1 _
 | .mp _ _, _, _ => Nat.le_refl 1
 | .pr a c, h, x => by
  show 1 ≤ dsz a x.1 + dsz c x.2
  have h : (posT a || posT c) = true := h
  rw [Bool.or_eq_true] at h
  rcases h with h | h
  ·have := yfK h x.1; omega
  ·have := yfK h x.2; omega
theorem ybE {e : Ty} (he : posT e = true) : ∀ xs : List (den e), xs.length + 1 ≤ dsz (.sl e) xs
 | [] => Nat.le_refl 1
 | x :: xs => by
  have h1 := yfK he x
  have h2 : xs.length + 1 ≤ (List.map (dsz e) xs).sum + 1 := ybE he xs
  show (x :: xs).length + 1 ≤ (List.map (dsz e) (x :: xs)).sum + 1
  simp only [List.length_cons, List.map_cons, List.sum_cons]
  omega
theorem xdD {t : Ty} {S : Mem} {E : List EI} {v : Value} {x : den t} (h : rep1 t S v x) : VR S E (svOf t x) v := yjW (l := [t]) h
end
end Go.Proofs.YtebbcofojchkpaaGreatDoor.Am
namespace Go.Proofs.YtebbcofojchkpaaGreatDoor.Am
open Go Go.RowKit
theorem xbU {nx : Int} {es : Es} (h : Ok nx es) {k : Nat} (hk : k < es.length) : es[k].2.1 = es[k].1 := (h.ids _ (List.getElem_mem hk)).1
theorem yhM {e : Ty} {x : den e} : ∀ {xs : List (den e)}, x ∈ xs → dsz e x ≤ dsz (.sl e) xs
 | y :: ys, h => by
  show _ ≤ (List.map (dsz e) (y :: ys)).sum + 1
  simp only [List.map_cons, List.sum_cons]
  rcases List.mem_cons.1 h with rfl | h
  ·omega
  ·have : dsz e x ≤ (List.map (dsz e) ys).sum + 1 := yhM h
   omega
theorem yuY {n : Nd} (h : dsz zmE n ≤ 1048576) : NdOk n := by
 obtain ⟨a0, a1, a2, a3, a4, a5, a6, a7, a8, a9, a10, a11, a12, a13, a14⟩ := n
 have h : dsz (.i .i64) a0 + (dsz (.i .i64) a1 + (dsz (.i .i64) a2 + (dsz .s a3 + (dsz .s a4 + (dsz .s a5 + (dsz (.sl .s) a6 + (dsz (.i .i64) a7 + (dsz (.i .i64) a8 + (dsz .b a9 + (dsz .b a10 + (dsz (.sl .s) a11 + (dsz (.i .i64) a12 + (dsz .s a13 + dsz .s a14))))))))))))) ≤ 1048576 := h
 have e3 : dsz .s a3 = a3.length + 1 := rfl
 have e4 : dsz .s a4 = a4.length + 1 := rfl
 have e5 : dsz .s a5 = a5.length + 1 := rfl
 have h6 : a6.length + 1 ≤ dsz (.sl .s) a6 := ybE (e := .s) rfl a6
 have h11 : a11.length + 1 ≤ dsz (.sl .s) a11 := ybE (e := .s) rfl a11
 refine ⟨?_, ?_, ?_, ?_, fun s hs => ?_, ?_, fun s hs => ?_⟩
 ·show a3.length ≤ _; omega
 ·show a4.length ≤ _; omega
 ·show a5.length ≤ _; omega
 ·show a6.length ≤ _; omega
 ·have h1 := yhM (e := .s) hs
  have e : dsz .s s = s.length + 1 := rfl
  have h1 : s.length + 1 ≤ dsz (.sl .s) a6 := h1
  omega
 ·show a11.length ≤ _; omega
 ·have h1 : s.length + 1 ≤ dsz (.sl .s) a11 := yhM (e := .s) hs
  omega
theorem xbC {o : OpT} (h : dsz zzB o ≤ 1048576) : NdOk o.2.2.2.2.2 := by
 obtain ⟨a, b, c, d, e, n⟩ := o
 have h : dsz (.i .i64) a + (dsz (.i .i64) b + (dsz (.i .i64) c + (dsz (.i .i64) d + (dsz .s e + dsz zmE n)))) ≤ 1048576 := h
 have h2 : dsz zmE n ≤ 1048576 := by omega
 exact yuY h2
theorem yyH {l : List OpT} (h : dsz (.sl zzB) l ≤ 1048576) : l.length ≤ 1048576 ∧ ∀ o ∈ l, NdOk o.2.2.2.2.2 := by
 have h1 : l.length + 1 ≤ dsz (.sl zzB) l := ybE (e := zzB) rfl l
 refine ⟨by omega, fun o ho => xbC ?_⟩
 have h2 : dsz zzB o ≤ dsz (.sl zzB) l := yhM (e := zzB) ho
 omega
theorem ysV {nx : Int} {es : Es} (h : Ok nx es) : ∀ (f : Nat) (i j : Int), i.toNat ≤ f → j ∈ pth es f i → ∀ k ∈ zlD es j, k ∈ pth es f i
 | 0, _, _, _, hj => by cases hj
 | f + 1, i, j, hf, hj => by
  rw [yiE] at hj ⊢
  cases hm : mget keqI es i with
  | none => rw [hm] at hj; cases hj
  | some n =>
   rw [hm] at hj
   have hp := zhP hm
   have h1 := (h.par _ hp).2
   have h2 := (h.ids _ hp).2.1
   simp only at h1 h2 hj ⊢
   rcases List.mem_cons.1 hj with rfl | hj
   ·intro k hk
    rw [zzM h hm] at hk
    unfold zlD at hk
    rw [yaW h (npar n).toNat f (npar n) (Nat.le_refl _) (by omega)] at hk
    exact hk
   ·intro k hk
    exact List.mem_cons_of_mem _ (ysV h f (npar n) j (by omega) hj k hk)
theorem yhD {es fs : Es} : ∀ (f : Nat) (i : Int), (∀ k ∈ pth es f i, mget keqI fs k = mget keqI es k) → (∀ k, mget keqI es k = none → mget keqI fs k = none) → pth fs f i = pth es f i
 | 0, _, _, _ => rfl
 | f + 1, i, h, h0 => by
  rw [yiE, yiE]
  cases hm : mget keqI es i with
  | none => rw [h0 i hm]
  | some n =>
   have h1 : ∀ k, k = i ∨ k ∈ pth es f (npar n) → mget keqI fs k = mget keqI es k := fun k hk => h k (by
    rw [yiE, hm]
    exact List.mem_cons.2 hk)
   rw [h1 i (.inl rfl), hm]
   simp only []
   rw [yhD f (npar n) (fun k hk => h1 k (.inr hk)) h0]
theorem ygS {nx : Int} {es : Es} (h : Ok nx es) (now k : Int) : mget keqI (zaQ es now) k = (mget keqI es k).filter fun _ => znO es now k := yeN h.rises (fun p => znO es now p.1) k
theorem yhU {nx : Int} {es : Es} (h : Ok nx es) {now i : Int} (hn : znO es now i = true) : mget keqI (zaQ es now) i = mget keqI es i ∧ zlD (zaQ es now) i = zlD es i ∧ ycX (zaQ es now) i = ycX es i := by
 obtain ⟨p, hp, h2⟩ := List.any_eq_true.1 hn
 rw [Bool.and_eq_true, List.contains_iff_mem] at h2
 have hneed : ∀ k ∈ zlD es i, znO es now k = true := fun k hk => List.any_eq_true.2 ⟨p, hp, by
  rw [Bool.and_eq_true, List.contains_iff_mem]
  exact ⟨h2.1, ysV h _ p.1 i (Nat.le_refl _) h2.2 k hk⟩⟩
 have hsame : ∀ k ∈ zlD es i, mget keqI (zaQ es now) k = mget keqI es k := fun k hk => by
  rw [ygS h, hneed k hk]
  cases mget keqI es k <;> rfl
 have hpath : zlD (zaQ es now) i = zlD es i := yhD _ _ hsame fun k hk => by rw [ygS h, hk]; rfl
 refine ⟨?_, hpath, ?_⟩
 ·rw [ygS h, hn]
  cases mget keqI es i <;> rfl
 ·unfold ycX
  rw [hpath]
  refine ycW fun k hk => ?_
  unfold zzW zhK
  rw [hsame k hk]
theorem ykC {nx : Int} {es : Es} (h : Ok nx es) (now i t : Int) : zmY (zaQ es now) i t = (znO es now i && zmY es i t) := by
 cases hn : znO es now i with
 | false =>
  unfold zmY
  rw [ygS h, hn]
  cases mget keqI es i <;> rfl
 | true =>
  obtain ⟨h1, _, h3⟩ := yhU h hn
  unfold zmY
  rw [h1, h3]
  rfl
theorem ycM {nx : Int} {es : Es} (h : Ok nx es) {now i : Int} (hl : zmY es i now = true) : znO es now i = true := by
 cases hm : mget keqI es i with
 | none => unfold zmY at hl; rw [hm] at hl; cases hl
 | some n =>
  refine List.any_eq_true.2 ⟨(i, n), zhP hm, ?_⟩
  rw [Bool.and_eq_true, List.contains_iff_mem]
  exact ⟨hl, by rw [zzM h hm]; exact List.mem_cons_self⟩
theorem ycS {es : Es} {now later i : Int} (hle : now ≤ later) (hl : zmY es i later = true) : zmY es i now = true := by
 unfold zmY at hl ⊢
 cases hm : mget keqI es i with
 | none => rw [hm] at hl; cases hl
 | some n =>
  rw [hm] at hl
  simp only [] at hl ⊢
  unfold canB at hl ⊢
  simp only [Bool.and_eq_true, decide_eq_true_eq] at hl ⊢
  exact ⟨⟨hl.1.1, by omega⟩, hl.2⟩
theorem ysM {nx : Int} {es : Es} (h : Ok nx es) {now t : Int} (hle : now ≤ t) (i : Int) : zmY (zaQ es now) i t = zmY es i t := by
 rw [ykC h]
 cases hl : zmY es i t with
 | false => rw [Bool.and_false]
 | true => rw [ycM h (ycS hle hl)]; rfl
theorem yqH {nx : Int} {es : Es} (h : Ok nx es) (now : Int) : zaQ (zaQ es now) now = zaQ es now := by
 refine List.filter_eq_self.2 fun p hp => ?_
 have hn := (List.mem_filter.1 hp).2
 obtain ⟨q, hq, h2⟩ := List.any_eq_true.1 hn
 rw [Bool.and_eq_true, List.contains_iff_mem] at h2
 have hqn := ycM h h2.1
 refine List.any_eq_true.2 ⟨q, List.mem_filter.2 ⟨hq, hqn⟩, ?_⟩
 rw [Bool.and_eq_true, List.contains_iff_mem, ykC h, hqn, (yhU h hqn).2.1]
 exact h2
section
variable {P : Program} {G : List (Nat × Obj)}
theorem yeY {f : FuncId} {K V : Ty} (hfn : IsFn P f)
  (hc : ∀ (b : Nat) (es : Array MapEntry) (ck : Nat) (w : World), w.heap[b]? = some (.map es ck) → Calls P f #[.map (some b)] w fun e w' => e = .returned (.map (some w.heap.size)) ∧ w' = w.alloc (.map es ck)) :
  SCok P G f ⟨⟨[(0, .mpr 0)], [.mp true K V]⟩, 1, [(none, ⟨[(0, .mpr 1)], [.mp true K V, .mp true K V]⟩)], fun (es : List (den K × den V)) => some (es, es)⟩ := by
 obtain ⟨q, hq⟩ := zdW (.mp K V)
 have e0 : ∀ y : den (.mp K V), zeX [.mp true K V] [.v (.mp K V) y] = [.mp 0 K V y] := fun y => by simp only [zeX, hq]; rfl
 refine ⟨hfn, fun S0 w0 us E0 L0 (es : List (den K × den V)) (d : List (den K × den V) × List (den K × den V)) _ hul R hy => ?_⟩
 have hd : d = (es, es) := (osi hy).symm
 subst hd
 have hul : us.length = 1 := hul
 obtain ⟨u, rfl⟩ : ∃ u, us = [u] := by
  match us, hul with
  | [u], _ => exact ⟨u, rfl⟩
 have hput : (Shp.put (⟨[(0, .mpr 0)], [.mp true K V]⟩ : Shp) es) = ⟨[(0, .mpr 0)], [.mp 0 K V es]⟩ := congrArg (fun hp => (⟨[(0, .mpr 0)], hp⟩ : St)) (e0 es)
 have R : RelV ⟨S0, zbT L0, w0⟩ S0 E0 L0 ⟨[(0, .mpr 0)], [.mp 0 K V es]⟩ (fun t => [u].getD t undef) w0 := by rw [← hput]; exact R
 obtain ⟨r1, e1', c1, c2, b, ents, ck, rfl, rfl, c3, c4⟩ := R.objN (i := 0) rfl
 obtain ⟨_, e1, a5, a6⟩ := (show VB S0 E0 (.mpr 0) u from R.sl 0)
 rw [c2] at a5; cases a5
 have hu := a6 _ _ _ _ rfl
 subst hu
 have hh1 : w0.heap[b]? = some (.map ents.toArray ck) := R.hs.own 0 _ c1
 have hL : L0.length = 1 := R.lL
 have hE : E0.length = 1 := R.lE
 refine (hc b _ ck w0 hh1).mono ?_
 rintro x w' ⟨rfl, rfl⟩
 have H : HS ⟨S0, zbT L0, w0⟩ S0 (w0.alloc (.map ents.toArray ck)) (.obj w0.heap.size (.map ents.toArray ck) :: L0) := R.hs.push (Ext.alloc w0 _) (zaF w0 _) fun b hb => by cases hb; exact Nat.le_refl _
 refine ⟨_, rfl, S0, E0 ++ [.mp 0 w0.heap.size ck ents], L0 ++ [.obj w0.heap.size (.map ents.toArray ck)], ⟨[(0, .mpr 1)], [.mp 0 K V es, .mp 0 K V es]⟩, fun _ => .map (some w0.heap.size), fun k => ?_, Mem.le_refl _, Pin.of (ELe.push _ _), ⟨HS.snoc H, by simp [hL], by simp [hE], fun i o ho => ?_, fun t => ?_⟩, ?_, by simp, rfl⟩
 ·show k (exOf none) _ = _
  have h2 : (Shp.put (⟨[(0, .mpr 1)], [.mp true K V, .mp true K V]⟩ : Shp) ((es, es) : List (den K × den V) × List (den K × den V))) = ⟨[(0, .mpr 1)], [.mp 0 K V es, .mp 0 K V es]⟩ := by
   have e2 : ∀ y z : den (.mp K V), zeX [.mp true K V, .mp true K V] [.v (.mp K V) y, .v (.mp K V) z] = [.mp 0 K V y, .mp 0 K V z] := fun y z => by
    rw [zeX, hq]
    simp only []
    rw [e0]; rfl
   exact congrArg (fun hp => (⟨[(0, .mpr 1)], hp⟩ : St)) (e2 es es)
  rw [h2]; rfl
 ·cases i with
  | zero =>
   cases ho
   exact ⟨_, _, by rw [List.getElem?_append_left (by omega), ← zaW]; exact c1, by rw [List.getElem?_append_left (by omega)]; exact c2, b, ents, ck, rfl, rfl, c3, c4⟩
  | succ i =>
   cases i with
   | zero =>
    cases ho
    exact ⟨_, _, by rw [List.getElem?_append_right (by omega), hL]; rfl, by rw [List.getElem?_append_right (by omega), hE]; rfl, w0.heap.size, ents, ck, rfl, rfl, c3, c4⟩
   | succ i => simp at ho
 ·cases t with
  | zero => exact VR.ofC (show VC S0 _ (.mpr 1) _ from ⟨rfl, .mp 0 w0.heap.size ck ents, by rw [List.getElem?_append_right (by omega), hE]; rfl, fun g b ck es he => by cases he; rfl⟩)
  | succ t => trivial
 ·intro i ver e' T' xs' hi
  cases i with
  | zero => cases hi
  | succ i =>
   cases i with
   | zero => cases hi
   | succ i => simp at hi
end
end Go.Proofs.YtebbcofojchkpaaGreatDoor.Am
namespace Go.Proofs
open Go.Shelf
def Tryz.mclone73_ren : Go.Shelf.Ren := ⟨fun | 5 => 73 | 7 => 128 | n => n, fun | 23 => 73 | 25 => 3 | 3 => 81 | 4 => 4 | 20 => 20 | n => n, fun | n => n⟩
theorem Tryz.mclone73 : Go.Proofs.SlLaysW.n5 Tryz.prog Tryz.mclone73_ren := {
  mixed := by kernel_rfl
  f5 := ⟨Tryz.f73.name, by decide, Tryz.func73.trans (congrArg some (by kernel_rfl))⟩
  f7 := Tryz.func128.trans (congrArg some (by kernel_rfl))
  t4 := Tryz.underlying4
  a4 := Tryz.isAgg4
  z4 := Tryz.sizeOf4
  v4 := Tryz.zeroValue4
  t20 := Tryz.underlying20
  a20 := Tryz.isAgg20
  z20 := Tryz.sizeOf20
  v20 := Tryz.zeroValue20
  t23 := Tryz.underlying73
  a23 := Tryz.isAgg73
  z23 := Tryz.sizeOf73
  v23 := Tryz.zeroValue73 }
end Go.Proofs
namespace Go.Proofs.YtebbcofojchkpaaGreatDoor.Am
open Go Go.RowKit
theorem mclone73 (b : Nat) (es : Array MapEntry) (ck : Nat) (w : World) (hb : w.heap[b]? = some (.map es ck)) : Calls Tryz.prog 73 #[.map (some b)] w fun e w' => e = .returned (.map (some w.heap.size)) ∧ w' = w.alloc (.map es ck) := AnyW.maps_Clone Tryz.mclone73 b es ck w hb
def τWkP : TE := [(3, ⟨.int .i64, 1, [.v (.i .i64) (show Int from 0)], (.i .i64), 8⟩),
 (4, ⟨.b, 1, [.v .b (show Bool from false)], .b, 1⟩),
 (25, ⟨.pt 75, 1, [.nilp], .un, 8⟩),
 (35, ⟨.sl 47, 1, [.nils], (.sl (.pr (.i .i64) (.pr (.i .i64) (.pr (.i .i64) (.pr .s (.pr .s (.pr .s (.pr (.sl .s) (.pr (.i .i64) (.pr (.i .i64) (.pr .b (.pr .b (.pr (.sl .s) (.pr (.i .i64) (.pr .s .s))))))))))))))), 24⟩),
 (47, ⟨.st [(3, 0), (3, 1), (3, 2), (9, 3), (9, 4), (9, 5), (45, 6), (3, 7), (3, 8), (4, 9), (4, 10), (45, 11), (3, 12), (9, 13), (9, 14)], 15, [.v (.i .i64) (show Int from 0), .v (.i .i64) (show Int from 0), .v (.i .i64) (show Int from 0), .v .s (show Bs from []), .v .s (show Bs from []), .v .s (show Bs from []), .nils, .v (.i .i64) (show Int from 0), .v (.i .i64) (show Int from 0), .v .b (show Bool from false), .v .b (show Bool from false), .nils, .v (.i .i64) (show Int from 0), .v .s (show Bs from []), .v .s (show Bs from [])], (.pr (.i .i64) (.pr (.i .i64) (.pr (.i .i64) (.pr .s (.pr .s (.pr .s (.pr (.sl .s) (.pr (.i .i64) (.pr (.i .i64) (.pr .b (.pr .b (.pr (.sl .s) (.pr (.i .i64) (.pr .s .s)))))))))))))), 184⟩),
 (73, ⟨.map 3 81, 1, [.nilm], (.mp (.i .i64) (.pr (.i .i64) (.pr (.i .i64) (.pr (.i .i64) (.pr .s (.pr .s (.pr .s (.pr (.sl .s) (.pr (.i .i64) (.pr (.i .i64) (.pr .b (.pr .b (.pr (.sl .s) (.pr (.i .i64) (.pr .s .s))))))))))))))), 8⟩),
 (75, ⟨.st [(73, 0), (3, 1)], 2, [.nilm, .v (.i .i64) (show Int from 0)], (.pr (.mp (.i .i64) (.pr (.i .i64) (.pr (.i .i64) (.pr (.i .i64) (.pr .s (.pr .s (.pr .s (.pr (.sl .s) (.pr (.i .i64) (.pr (.i .i64) (.pr .b (.pr .b (.pr (.sl .s) (.pr (.i .i64) (.pr .s .s))))))))))))))) (.i .i64)), 16⟩)]
theorem τ_okWkP : TEok Tryz.prog τWkP := ynE (by kernel_rfl) (by kernel_rfl)
theorem ysL : Tryz.prog.follows .mixedOrders = true := by kernel_rfl
theorem yzN {G : List (Nat × Obj)} {o : Ops} [zoR G] [znP G o] {Γ : CT} {η : HT} {f : FuncId} {fn : Func} {c : SC} (hΓ : ∀ B, GB G B → CTok Tryz.prog Γ B) (hf : Tryz.prog.funcs[f]? = some fn) (i : (fn.name == "runtime.NumGoroutine") = false := by kernel_rfl) (j : fn.body.isNone = false := by kernel_rfl) (l : Nat.ble c.I.sl.length fn.ntmps = true := by kernel_rfl) (r : Nat.beq fn.results.toList.length c.nr = true := by kernel_rfl) (e : fnS τWkP Γ η fn c.I c.outs = c.p := by kernel_rfl) : SCok Tryz.prog G f c := witO (G := G) (o := o) <| yuP ysL τ_okWkP hΓ hf (isFn hf i j) l r e
theorem yzZ {G : List (Nat × Obj)} {o : Ops} [zoR G] [znP G o] {Γ : CT} {η : HT} {f : FuncId} {fn : Func} {c : PC} (hΓ : ∀ B, GB G B → CTok Tryz.prog Γ B) (hf : Tryz.prog.funcs[f]? = some fn) (i : (fn.name == "runtime.NumGoroutine") = false := by kernel_rfl) (j : fn.body.isNone = false := by kernel_rfl) (l : Nat.ble c.ash.length fn.ntmps = true := by kernel_rfl) (r : c.cl = false := by kernel_rfl) (e : fnP τWkP Γ η fn c.ash c.rts = c.p := by kernel_rfl) : PCok Tryz.prog G f c := witO (G := G) (o := o) <| yuB ysL τ_okWkP hΓ hf (isFn hf i j) l r e
abbrev yiD : Type := Int × Int × Int × Bs × Bs × Bs × (List Bs) × Int × Int × Bool × Bool × (List Bs) × Int × Bs × Bs
abbrev ypO : Ty := .pr (.i .i64) (.pr (.i .i64) (.pr (.i .i64) (.pr .s (.pr .s (.pr .s (.pr (.sl .s) (.pr (.i .i64) (.pr (.i .i64) (.pr .b (.pr .b (.pr (.sl .s) (.pr (.i .i64) (.pr .s .s)))))))))))))
abbrev zrK : Type := Int × yiD
abbrev zxL : OSh := .mp true (.i .i64) ypO
abbrev yxB : OSh := .blk 75 [(.mpr 1), hI]
abbrev ytJ : OSh := .blk 75 [(.mpr 3), hI]
section
variable {tabs : List (Nat × Obj)} [zoR tabs] {o : Ops} [znP tabs o]
def ydE : SC := ⟨⟨[(0, (.mpr 0))], [zxL]⟩, 1, [(none, ⟨[(0, (.mpr 1))], [zxL, zxL]⟩)], fun (es : List zrK) => some (es, es)⟩
theorem ykW : SCok Tryz.prog tabs 73 ydE := wit (G := tabs) <| yeY (isFn Tryz.func73) mclone73
def zhZ (o : Ops) (v0 : Int) (v1 : List zrK) : Option ((Int × (List zrK) × Int × List zrK)) :=
 ((fun (es : List zrK) => some (es, es)) v1).bind fun v2 => some (v0, v2.1, v0, v2.2)
def zkH (o : Ops) : SC := ⟨⟨[(0, (.ptr 0 0))], [yxB, zxL]⟩, 1, [(none, ⟨[(0, (.ptr 2 0))], [yxB, zxL, ytJ, zxL]⟩)], fun x => zhZ o x.1 x.2⟩
theorem zqZ : SCok Tryz.prog tabs 28 (zkH o) := yzN (o := o) (η := [(4000001, .sch [(.pu, 0, []), (.pu, 1, []), (.pu, 2, []), (.pu, 3, []), (.pu, 5, [1]), (.pu, 6, [1]), (.pu, 7, [1]), (.pu, 8, [1]), (.mn, 4, [1]), (.pu, 9, []), (.mn, 10, [0, 1, 2, 3]), (.pu, 11, [])])]) (Γ := ⟨[], [(73, ydE)], false⟩) (ctok trivial ⟨ykW, trivial⟩) Tryz.func28
noncomputable def zdA (o : Ops) (v1 : Int) (v2 : Int) (v3 : (Int × List zrK)) : Option ((Int × Int × Int × List zrK)) :=
 bif decide (v2 < v1) then some (v2, v1, v3) else some (v1, v2, v3)
noncomputable def zdB (o : Ops) (v4 : Int × Int × Int × List zrK) (v6 : (Int × (List zrK) × List yiD)) (v7 : (Int × Int × List zrK)) : Option (Bool ⊕ (Int × Int × (List yiD) × (List zrK) × List zrK)) :=
 (zbH o v7.2.1 v7.2.2).bind fun v8 => let v9 : Bool := ((v8.2.2.length : Int) != (w64 ((v6.2.2.length : Int) - v7.1)))
 bif v9 then some (.inl false) else ((zaT o v4.1 v8.1 v8.2.1).bind fun v10 => bif (v10.1 != 0) then some (.inl false) else some (.inr (v6.1, v10.2.1, v6.2.2, v6.2.1, v10.2.2)))
noncomputable def zbQ (o : Ops) (v4 : Int × Int × Int × List zrK) (v14 : Int) (v15 : Int) (v16 : Int) (v17 : List yiD) (v18 : List zrK) (v19 : List zrK) : Option ((Int × Int × Int × (List yiD) × (List zrK) × List zrK) ⊕ (Bool ⊕ Unit)) :=
 bif decide (v14 < (v17.length : Int)) then ((chk (decide ((0 : Int) ≤ v14) && decide (v14 < (v17.length : Int)))).bind fun _ => (idx v17 v14).bind fun v20 => (zaC o v20.1 v4.2.1 v15 v18).bind fun v21 => bif v21.1 then ((zaC o v20.1 v4.1 v21.2.1 v21.2.2).bind fun v22 => bif (!v22.1) then some (.inr (.inl false)) else ((zaC o v20.1 v4.1 v16 v19).bind fun v23 => (zaC o v20.1 v4.1 v22.2.1 v22.2.2).bind fun v24 => bif (v23.1 != v24.1) then some (.inr (.inl false)) else ((zaC o v20.1 v4.2.1 v23.2.1 v23.2.2).bind fun v25 => (zaC o v20.1 v4.2.1 v24.2.1 v24.2.2).bind fun v26 => bif (v25.1 != v26.1) then some (.inr (.inl false)) else some (.inl (w64 (v14 + 1), v26.2.1, v25.2.1, v17, v26.2.2, v25.2.2))))) else ((zaC o v20.1 v4.1 v16 v19).bind fun v27 => (zaC o v20.1 v4.1 v21.2.1 v21.2.2).bind fun v28 => bif (v27.1 != v28.1) then some (.inr (.inl false)) else ((zaC o v20.1 v4.2.1 v27.2.1 v27.2.2).bind fun v29 => (zaC o v20.1 v4.2.1 v28.2.1 v28.2.2).bind fun v30 => bif (v29.1 != v30.1) then some (.inr (.inl false)) else some (.inl (w64 (v14 + 1), v30.2.1, v29.2.1, v17, v30.2.2, v29.2.2))))) else some (.inr (.inr ()))
noncomputable def zbW (o : Ops) (v0 : List (Int × Int × Int × Int × Bs × yiD)) (v1 : Int) (v2 : Int) : Option (Bool) :=
 (zeJ o v0).bind fun v3 => (zdA o v1 v2 v3).bind fun v4 => (zhZ o v4.2.2.1 v4.2.2.2).bind fun v5 => (zbH o v5.1 v5.2.1).bind fun v6 => (zaT o v4.1 v5.2.2.1 v5.2.2.2).bind fun v7 => (zdB o v4 v6 v7).bind fun v11 => match v11 with
 | .inl v12 => (some v12)
 | .inr v13 => ((iter (fun x => zbQ o v4 x.1 x.2.1 x.2.2.1 x.2.2.2.1 x.2.2.2.2.1 x.2.2.2.2.2) ((0 : Int), v13)).bind fun v31 => match v31 with
 | .inl v32 => (some v32)
 | .inr v33 => ((some true).bind fun v34 => some v34))
noncomputable def zlR (o : Ops) : PC := ⟨[(.h (.sl (.pr (.i .i64) (.pr (.i .i64) (.pr (.i .i64) (.pr (.i .i64) (.pr .s ypO))))))), hI, hI], [.b], fun x => zbW o x.1 x.2.1 x.2.2, false⟩
theorem zvI : PCok Tryz.prog tabs 9 (zlR o) := yzZ (o := o) (η := [(2000006, .join [] [] [(none, ⟨[(1, hI), (2, hI), (7, (.ptr 0 0))], [yxB, zxL]⟩)]),
 (2000013, .join [] [1, 2] [(some 1000000, ⟨[(6, hB)], []⟩), (none, ⟨[(7, (.ptr 0 0)), (8, (.ptr 1 0)), (9, (.own 2))], [ytJ, .blk 75 [(.mpr 4), hI], .osl ypO 47, zxL, zxL]⟩)]),
 (200014, .loop [] ⟨[(7, (.ptr 0 0)), (8, (.ptr 1 0)), (9, (.own 2)), (11, hI)], [ytJ, .blk 75 [(.mpr 4), hI], .osl ypO 47, zxL, zxL]⟩ [1, 2] [(some 1000000, ⟨[(6, hB)], []⟩), (some 0, ⟨[], []⟩)])]) (Γ := ⟨[(13, yhQ)], [(17, (zkV o)), (28, (zkH o)), (15, (zeC o)), (31, (zbS o)), (22, (zcE o))], false⟩) (ctok ⟨yrL, trivial⟩ ⟨zqO, ⟨zqZ, ⟨zgY, ⟨zcQ, ⟨zdE, trivial⟩⟩⟩⟩⟩) Tryz.func9
end
theorem yrD (script : List OpT) (now later : Int) (hl : script.length ≤ 1048576) (ho : ∀ o ∈ script, NdOk o.2.2.2.2.2) : zbW zaB script now later = some true := by
 unfold zbW
 rw [yuQ hl ho, zaA]
 have h := ynP script
 generalize zwT script = s at h
 obtain ⟨nx, es⟩ := s
 simp only [] at h
 have hlen := h.len
 have hj : ∃ a b, zdA zaB now later (nx, es) = some (a, b, nx, es) ∧ a ≤ b := by
  unfold zdA
  by_cases hlt : later < now
  ·rw [zoH hlt]; exact ⟨later, now, rfl, by omega⟩
  ·rw [zsZ hlt]; exact ⟨now, later, rfl, by omega⟩
 obtain ⟨a, b, hj, hab⟩ := hj
 rw [hj, zaA]
 have hc : zhZ zaB nx es = some (nx, es, nx, es) := rfl
 simp only []
 rw [hc, zaA]
 simp only []
 rw [yaT h, zaA, zsM h, zaA]
 have hO := h.pruned a
 have hle : (zaQ es a).length ≤ es.length := List.length_filter_le _ _
 have hj1 : zdB zaB (a, b, nx, es) (nx, es, es.map (·.2)) ((es.length : Int) - ((zaQ es a).length : Int), nx, zaQ es a) = some (.inr (nx, nx, es.map (·.2), es, zaQ es a)) := by
  unfold zdB
  simp only []
  rw [yaT hO, zaA]
  simp only [List.length_map]
  rw [zmG (by omega) (by omega), show (((zaQ es a).length : Int) != ((es.length : Int) - ((es.length : Int) - ((zaQ es a).length : Int)))) = false from by rw [bne_eq_false_iff_eq]; omega]
  simp only [cond_false]
  rw [zsM hO, zaA, yqH h a]
  simp only []
  rw [show (((zaQ es a).length : Int) - ((zaQ es a).length : Int) != (0 : Int)) = false from by rw [bne_eq_false_iff_eq]; omega]
  rfl
 rw [hj1, zaA]
 simp only []
 have hI : iter (fun x => zbQ zaB (a, b, nx, es) x.1 x.2.1 x.2.2.1 x.2.2.2.1 x.2.2.2.2.1 x.2.2.2.2.2) ((0 : Int), nx, nx, es.map (·.2), es, zaQ es a) = some (.inr ()) := by
  refine ybT (fun k => ((k : Int), nx, nx, es.map (·.2), es, zaQ es a)) es.length (by omega) _ (fun k hk => ?_) ?_
  ·have h1 := ysM h (Int.le_refl a) es[k].1
   have h2 := ysM h hab es[k].1
   unfold zbQ
   simp only [List.length_map]
   rw [zoH (show (k : Int) < (es.length : Int) by omega), decide_eq_true (show (0 : Int) ≤ (k : Int) by omega), decide_eq_true (show (k : Int) < (es.length : Int) by omega), Bool.and_self, zrW rfl, zaA, zoE (i := k) rfl (by rw [List.length_map]; exact hk), zaA, List.getElem_map, xbU h hk, zlG h, zaA]
   simp only []
   cases hb : zmY es es[k].1 b with
   | true =>
    have ha := ycS hab hb
    simp only [cond_true]
    rw [zlG h, zaA, ha]
    simp only [Bool.not_true, cond_false]
    rw [zlG hO, zaA, zlG h, zaA, h1]
    simp only [bne_self_eq_false, cond_false]
    rw [zlG hO, zaA, zlG h, zaA, h2]
    simp only [bne_self_eq_false, cond_false]
    rw [zdM (by omega)]
   | false =>
    simp only [cond_false]
    rw [zlG hO, zaA, zlG h, zaA, h1]
    simp only [bne_self_eq_false, cond_false]
    rw [zlG hO, zaA, zlG h, zaA, h2]
    simp only [bne_self_eq_false, cond_false]
    rw [zdM (by omega)]
  ·unfold zbQ
   simp only [List.length_map]
   rw [zsZ (by omega)]
 rw [show iter _ _ = _ from hI, zaA]
 rfl
theorem yjH (script : List yrA) (now later : Int) (hk : dsz (.sl (.pr (.i .i64) (.pr (.i .i64) (.pr (.i .i64) (.pr (.i .i64) (.pr .s (.pr (.i .i64) (.pr (.i .i64) (.pr (.i .i64) (.pr .s (.pr .s (.pr .s (.pr (.sl .s) (.pr (.i .i64) (.pr (.i .i64) (.pr .b (.pr .b (.pr (.sl .s) (.pr (.i .i64) (.pr .s .s)))))))))))))))))))) script + dsz (.i .i64) now + dsz (.i .i64) later ≤ 1048576) : zbW zaB script now later = some true := by
 have hk : dsz (.sl zzB) script + dsz (.i .i64) now + dsz (.i .i64) later ≤ 1048576 := hk
 have h := yyH (l := script) (by omega)
 exact yrD script now later h.1 h.2
end Go.Proofs.YtebbcofojchkpaaGreatDoor.Am
namespace Go.Proofs.YtebbcofojchkpaaGreatDoor
open Go Go.RowKit
section
open Go Go.RowKit Go.ChangeShapes Go.WideShapes Go.ChangeAt
attribute [local irreducible] Value.okWide
theorem ywC {W : World} (h : W.ShapedOpen Tryz.prog) (hL : laidMet Tryz.prog Rows.forestPrunesUptoRow.laid W) : ∃ G : List (Nat × Obj), Am.zoR G ∧ Am.GS G (zmX W) := by
 obtain ⟨m, hm⟩ := Tryz.laysM219.s1_3 W h
 have hm : W.cell? ⟨0, 0, none⟩ = some (.int .i64 m) := hm
 have h0 : ∃ c E fz, W.heap[0]? = some (.cells c E fz) ∧ c[0]? = some (.int .i64 m) := by
  unfold World.cell? at hm
  split at hm
  ·rename_i c E fz hb
   simp only [Option.isSome_none, if_neg (show ¬ (false = true) by decide)] at hm
   exact ⟨c, E, fz, hb, hm⟩
  ·cases hm
 obtain ⟨c, E, fz, h1, h2⟩ := h0
 have hT := Lib.tabIs_of_head (P := Tryz.prog) (k := .u64) (zs := Lib.pow10Tab) (g := 3) (t := 218) (e := 167) (n := 20) (by kernel_rfl) (by kernel_rfl) (by kernel_rfl) (by kernel_rfl) (by kernel_rfl) (by kernel_rfl) (show laidMet Tryz.prog (("internal/strconv.uint64pow10", Lib.tabData .u64 Lib.pow10Tab) :: _) W from hL.tail.tail)
 have h3 : ∃ T f, W.heap[3]? = some (.cells ylX.toArray T f) := by
  unfold Lib.TabIs World.var? at hT
  rw [show Tryz.prog.globalNamed "internal/strconv.uint64pow10" = some 3 by kernel_rfl, Option.bind_some] at hT
  split at hT
  ·rename_i cs T f hb
   cases hT
   exact ⟨T, f, hb⟩
  ·cases hT
 obtain ⟨T, f, h4⟩ := h3
 refine ⟨[(0, .cells c E fz), (3, .cells ylX.toArray T f)], ⟨fun S hS => ⟨⟨c, E, fz, m, hS _ (List.mem_cons_self ..), h2⟩, T, f, hS _ (List.mem_cons_of_mem _ (List.mem_cons_self ..))⟩⟩, fun p hp => ?_⟩
 rcases List.mem_cons.1 hp with rfl | hp
 ·exact h1
 ·rcases List.mem_cons.1 hp with rfl | hp
  ·exact h4
  ·cases hp
theorem zrE (H : Type) (enc : TypeId × Value → H) (W : World) (base : Nat) (args : Array Value) (ds gs : List (DataW H)) (before : List MemPlace)
  (hval : ∀ (j : Nat) t v, Tryz.f9.params[j]? = some t → args[j]? = some v → Value.okWide Tryz.prog W .any base t v)
  (hW : DataW.Whole enc Tryz.prog Tryz.f9.params.toList Rows.forestPrunesSpec.vars false W args.toList ds gs before) (hk : Rows.uptoSmall H (ds ++ gs) = true) (hsh : W.ShapedOpen Tryz.prog) (hL : laidMet Tryz.prog Rows.forestPrunesUptoRow.laid W) :
  Calls Tryz.prog 9 args W fun e W' => ∃ v, e = .returned v ∧ Rows.forestPrunesSpec.post enc Tryz.prog Tryz.f9 false true false false W args v W' := by
 have hW' := hW
 obtain ⟨p, q, hA0, hV, rfl, _, _⟩ := hW
 have hA : DataW.TrodAll enc Tryz.prog W 0 (fun _ => true) true Tryz.f9.params.toList args.toList ds p := hA0
 rw [Tryz.params9] at hA hval
 obtain ⟨v0, vs0, d0, ds0, p0, q0, hargs, rfl, rfl, t0, r0⟩ := trodAll_cons hA
 obtain ⟨v1, vs1, d1, ds1, p1, q1, rfl, rfl, rfl, t1, r1⟩ := trodAll_cons r0
 obtain ⟨v2, vs2, d2, ds2, p2, q2, rfl, rfl, rfl, t2, r2⟩ := trodAll_cons r1
 obtain ⟨rfl, rfl, rfl⟩ := trodAll_nil r2
 obtain rfl : args = #[v0, v1, v2] := by cases args; simp_all
 obtain ⟨rfl, rfl⟩ := trodVars_none hV
 obtain ⟨x0, e0, b0⟩ := Am.xbT (t := (.sl (.pr (.i .i64) (.pr (.i .i64) (.pr (.i .i64) (.pr (.i .i64) (.pr .s (.pr (.i .i64) (.pr (.i .i64) (.pr (.i .i64) (.pr .s (.pr .s (.pr .s (.pr (.sl .s) (.pr (.i .i64) (.pr (.i .i64) (.pr .b (.pr .b (.pr (.sl .s) (.pr (.i .i64) (.pr .s .s))))))))))))))))))))) (show Am.xaJ Tryz.prog 41 (.sl (.pr (.i .i64) (.pr (.i .i64) (.pr (.i .i64) (.pr (.i .i64) (.pr .s (.pr (.i .i64) (.pr (.i .i64) (.pr (.i .i64) (.pr .s (.pr .s (.pr .s (.pr (.sl .s) (.pr (.i .i64) (.pr (.i .i64) (.pr .b (.pr .b (.pr (.sl .s) (.pr (.i .i64) (.pr .s .s)))))))))))))))))))) = true by kernel_rfl) (hval 0 41 v0 rfl rfl) t0
 obtain ⟨x1, e1, b1⟩ := Am.xbT (t := (.i .i64)) (show Am.xaJ Tryz.prog 3 (.i .i64) = true by kernel_rfl) (hval 1 3 v1 rfl rfl) t1
 obtain ⟨x2, e2, b2⟩ := Am.xbT (t := (.i .i64)) (show Am.xaJ Tryz.prog 3 (.i .i64) = true by kernel_rfl) (hval 2 3 v2 rfl rfl) t2
 simp only [List.cons_append, List.nil_append, List.append_nil, Rows.uptoSmall, decide_eq_true_eq, Rows.uptoBulkAll] at hk
 obtain ⟨G, hG, hGS⟩ := ywC hsh hL
 refine ((Am.zvI (tabs := G) (o := Am.zaB)).ok (zmX W) W [v0, v1, v2] (x0, x1, x2) true hGS (ygD W) (.cons (Am.xdD e0) (.cons (Am.xdD e1) (.cons (Am.xdD e2) .nil))) (Am.yjH x0 x1 x2 (by omega))).mono fun e W' ⟨hx, v, he, hr, _⟩ => ?_
 have hr : [v] = [Value.bool true] := hr
 rw [(List.cons.inj hr).1] at he
 subst he
 refine ⟨_, rfl, yqR (B := 4) (n := 3) (by kernel_rfl) rfl (by kernel_rfl) (by kernel_rfl) (by kernel_rfl) (by kernel_rfl) (fun ds hds => ?_) hW' hx⟩
 match ds, hds with
 | [x0, x1, x2], _ => exact ⟨rfl, rfl, rfl⟩
theorem yqA : ownKnob Tryz.prog.godebug = none := by kernel_rfl
def zzP : DataW Unit → LV
 | .lit (.int k n) => [.int k n]
 | .agg l => go l
 | _ => []
where go : List (DataW Unit) → LV
 | [] => []
 | d :: l => zzP d ++ go l
def zpI (l : LV) : Obj → Obj
 | .cells _ t frozen => .cells l.toArray t frozen
 | o => o
noncomputable def zwV (os : Os) : World := { World.holding Tryz.prog os ⟨#[], #[], []⟩ with heap := (((((((((World.holding Tryz.prog os ⟨#[], #[], []⟩).heap).modify 6 (zpI (zzP Rows.laid_math_bits_deBruijn32tab))).modify 7 (zpI (zzP Rows.laid_math_bits_deBruijn64tab))).modify 3 (zpI (zzP Rows.laid_internal_strconv_uint64pow10))).modify 5 (zpI (zzP Rows.laid_unicode_utf8_acceptRanges))).modify 2 (zpI [.iface 227 (.pointer (some ⟨(World.holding Tryz.prog os ⟨#[], #[], []⟩).heap.size + 0, 0, none⟩))])).modify 1 (zpI [.iface 227 (.pointer (some ⟨(World.holding Tryz.prog os ⟨#[], #[], []⟩).heap.size + 1, 0, none⟩))])).modify 4 (zpI (zzP Go.Pinned.utf8First))) ++ #[.cells #[.string ⟨#[118, 97, 108, 117, 101, 32, 111, 117, 116, 32, 111, 102, 32, 114, 97, 110, 103, 101]⟩] 229, .cells #[.string ⟨#[105, 110, 118, 97, 108, 105, 100, 32, 115, 121, 110, 116, 97, 120]⟩] 229] }
theorem zrM (os : Os) : laidMet Tryz.prog Rows.forestPrunesUptoRow.laid ((zwV os).forCall (fun _ _ => 0) ⟨#[], #[.slice none 0 0, .int .i64 0, .int .i64 0], []⟩).memory :=
 laidMet_of_run' 8 (by kernel_rfl) (by kernel_rfl)
theorem zuL (os : Os) {H : Type} (enc : TypeId × Value → H) : ∃ places, DataW.whole enc Tryz.prog ((zwV os).forCall (fun _ _ => 0) ⟨#[], #[.slice none 0 0, .int .i64 0, .int .i64 0], []⟩).memory Tryz.f9.params.toList Rows.forestPrunesSpec.vars false (#[.slice none 0 0, .int .i64 0, .int .i64 0] : Array Value).toList 8 = some ([.nil, .lit (.int .i64 0), .lit (.int .i64 0)], [], places) :=
 ⟨[], by kernel_rfl⟩
set_option maxRecDepth 100000 in
theorem ztQ (os : Os) (started : os.Started) (H : Type) (enc : TypeId × Value → H) (F : Stop.Interp) :
  ReturnsInHanded {} Tryz.checked os 9 .any ((Rows.OpenSpec.upto Rows.forestPrunesSpec).preRow enc Tryz.prog Tryz.f9 Rows.forestPrunesUptoRow.domain false Rows.forestPrunesUptoRow.laid) (((Rows.OpenSpec.upto Rows.forestPrunesSpec).at F).post enc Tryz.prog Tryz.f9 false true false false) := by
 obtain ⟨places, hx⟩ := zuL os enc
 refine returnsInHanded_of_row (C := Tryz.checked) (s := Rows.OpenSpec.upto Rows.forestPrunesSpec) yqA started (by kernel_rfl) Tryz.func9
  (witness_row_at (enc := enc) (C := Tryz.checked) false (zwV os) #[.slice none 0 0, .int .i64 0, .int .i64 0] rfl (by kernel_rfl) (by kernel_rfl) (by kernel_rfl)
   (OpenSpec.preRow_of_cond 8 hx (by kernel_rfl) (fun k hk => by cases hk; kernel_rfl) (by kernel_rfl) (zrM os))) ?_
 intro W base args ds gs before hval hW _ hcond _ hL hsh _
 exact zrE H enc W base args ds gs before hval hW (hcond _ rfl) hsh hL
theorem zwB : Rows.ForestPrunesUptoSaid :=
 OpenClaim.holds_of_cond 9 Tryz.f9 rfl rfl rfl rfl rfl rfl rfl ⟨rfl, rfl, rfl, rfl, rfl⟩ rfl rfl rfl rfl rfl (by kernel_rfl) Tryz.func9 (by kernel_rfl)
  (of_decide_eq_true (by kernel_rfl)) (by unfold Func.isWrapper; first | (rw [if_pos (by decide +kernel)]; kernel_rfl) | (rw [if_neg (by decide +kernel)]; exact ⟨rfl, rfl⟩))
  (fun os started H enc _ F => by rw [OpenClaim.pre_eq_preRow]; exact ztQ os started H enc F)
theorem zuR (f : FuncId) (fn : Func) (hf : Tryz.pinned.checked.prog.funcNamed "seneschal/seneschallaw13.ForestPrunes" = some f) (hfn : Tryz.pinned.checked.prog.funcs[f]? = some fn) :
  true = Tryz.pinned.checked.prog.looks [] ∧ ∀ (j : Nat) t, fn.params[j]? = some t → Tryz.pinned.checked.prog.wantsStandIn t = false := by
 obtain rfl : f = 9 := osi ((show Tryz.prog.funcNamed "seneschal/seneschallaw13.ForestPrunes" = some 9 by kernel_rfl).symm.trans hf) |>.symm
 obtain rfl : fn = Tryz.f9 := (osi (Tryz.func9.symm.trans hfn)).symm
 refine ⟨by kernel_rfl, fun j t ht => ?_⟩
 rw [Tryz.params9] at ht
 have hm : t ∈ [41, 3, 3] := by simpa using Array.mem_of_getElem? ht
 have hall : ([41, 3, 3].all fun u => !Tryz.prog.wantsStandIn u) = true := by kernel_rfl
 exact (show Tryz.prog.wantsStandIn t = false by simpa using List.all_eq_true.1 hall t hm)
theorem forestPrunes_said : Rows.ForestPrunesUptoCardSaid :=
 Claim7.holds_tied_plain_at .later [] _ _ _ _ zwB (fun _ h => by cases h) (by kernel_rfl) (fun _ h => by cases h) forestPrunesUpto_row_tie rfl ⟨rfl, rfl⟩ (by kernel_rfl) rfl zuR (by kernel_rfl)
end
end Go.Proofs.YtebbcofojchkpaaGreatDoor
