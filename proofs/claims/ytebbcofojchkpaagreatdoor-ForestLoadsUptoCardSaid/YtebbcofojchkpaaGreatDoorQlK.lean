/- Forests: what is planted: plain laws. Calls on forests whose answers the document fixes: plain law, and that the code does so. What some functions compute, over plain values, and that they do. Forests: what is planted by a script: plain laws. Forests: what is told, spent, lifted, noted: plain laws. Forests: all of a principal's nodes killed: plain laws. The document's forest answers: what may be, where a number stands, paths: plain laws. The document's forest answers, whatever is called: plain laws. Forests: what a script makes: plain laws. From a walk of a law to what is said of it: parts that the laws over texts share. What a law's arguments are, as plain values. Forests: who is killed takes all along that hangs on it, and no other one: plain law. The document's forest without nodes answers, whatever is called: plain laws. Rows of texts go there and back: plain laws. Forests: their rows: plain laws. Forests: their rows, told: plain laws. Forests: a row read again: plain laws. Forests: rows loaded again show the same: plain laws. Conditions: as each theorem says. -/
import Derived.KernelRfl
import Derived.Test.YtebbcofojchkpaaGreatDoorRows
import Derived.Test.YtebbcofojchkpaaGreatDoorTie
import Derived.Test.YtebbcofojchkpaaGreatDoorCards
import Derived.ProofKit
import Derived.OpenShut
import Derived.Carry
import Derived.JoinedCond
import Derived.ChangeMaps5
import Derived.Deep.SlicePairs
import Derived.Deep.DeepHandedRow
import Derived.Lib.LaidTab
import Derived.SevenTiedAt
import Derived.Test.YtebbcofojchkpaaGreatDoorQlJ
namespace Go.Proofs.YtebbcofojchkpaaGreatDoor.Am
open Go Go.RowKit
abbrev sNew (i : Int) (n : Nd) : Nd := (i, n.2.1, n.2.2.1, n.2.2.2.1, n.2.2.2.2.1, n.2.2.2.2.2.1, n.2.2.2.2.2.2.1, n.2.2.2.2.2.2.2.1, n.2.2.2.2.2.2.2.2.1, false, false, n.2.2.2.2.2.2.2.2.2.2.2.1, n.2.2.2.2.2.2.2.2.2.2.2.2.1, n.2.2.2.2.2.2.2.2.2.2.2.2.2.1, n.2.2.2.2.2.2.2.2.2.2.2.2.2.2)
def yhV (es : Es) (par : Int) : Bool := decide (par > 0) && (!mhas keqI es par || ypF es par)
def zqU (n : Nd) (now nx : Int) (es : Es) : Int × Int × Int × Es :=
 bif !mayB n then (0, 131, nx, es) else
 bif (zqI es (nsec n)).isSome then (0, 132, nx, es) else
 bif yhV es (npar n) then (0, 133, nx, es) else
 bif decide ((zeA es now).length ≥ 256) || decide (nx ≥ 99999999) then (0, 130, nx, zeA es now) else
 (nx, 0, nx + 1, zeA es now ++ [(nx, sNew nx n)])
theorem Ok.plant {nx : Int} {es : Es} (h : Ok nx es) (n : Nd) (now : Int) : Ok (zqU n now nx es).2.2.1 (zqU n now nx es).2.2.2 := by
 unfold zqU
 cases hm : mayB n with
 | false => exact h
 | true =>
  simp only [Bool.not_true, cond_false]
  cases hf : (zqI es (nsec n)).isSome with
  | true => exact h
  | false =>
   simp only [cond_false]
   cases ho : yhV es (npar n) with
   | true => exact h
   | false =>
    simp only [cond_false]
    cases hg : decide ((zeA es now).length ≥ 256) || decide (nx ≥ 99999999) with
    | true => exact h.pruned now
    | false =>
     simp only [cond_false]
     rw [Bool.or_eq_false_iff, decide_eq_false_iff_not, decide_eq_false_iff_not] at hg
     have hP := h.pruned now
     have hnx := h.next
     have hlow : ∀ p ∈ zeA es now, p.1 < nx := fun p hp => (hP.ids p hp).2.2
     have hpar : 0 ≤ npar n ∧ npar n < nx := by
      have h0 := (zpP hm).2.2.2.2.2
      refine ⟨h0, ?_⟩
      unfold yhV at ho
      by_cases hp : npar n > 0
      ·rw [decide_eq_true hp, Bool.true_and, Bool.or_eq_false_iff, Bool.not_eq_false'] at ho
       obtain ⟨v, hv⟩ := zhM.1 ho.1
       exact (h.ids _ hv).2.2
      ·omega
     have hno : ∀ p ∈ es, nsec p.2 ≠ nsec n := fun p hp e => by
      unfold zqI at hf
      rw [Option.isSome_map, Option.isSome_eq_false_iff, Option.isNone_iff_eq_none, List.find?_eq_none] at hf
      exact hf p hp (beq_iff_eq.2 e)
     have hno' : ∀ p ∈ zeA es now, nsec p.2 ≠ nsec n := fun p hp => hno p (List.mem_filter.1 hp).1
     have hmem : ∀ p, p ∈ zeA es now ++ [(nx, sNew nx n)] → p ∈ zeA es now ∨ p = (nx, sNew nx n) := fun p hp => by simpa using hp
     exact {
       rises := by
        unfold zmM
        rw [List.pairwise_append]
        refine ⟨hP.rises, List.pairwise_singleton _ _, fun p hp q hq => ?_⟩
        rw [List.mem_singleton] at hq
        subst hq
        exact hlow p hp
       ids := fun p hp => by
        rcases hmem p hp with hp | rfl
        ·have := hP.ids p hp
         exact ⟨this.1, this.2.1, by omega⟩
        ·exact ⟨rfl, hnx.1, by simp only []; omega⟩
       par := fun p hp => by
        rcases hmem p hp with hp | rfl
        ·exact hP.par p hp
        ·exact hpar
       may := fun p hp => by
        rcases hmem p hp with hp | rfl
        ·exact hP.may p hp
        ·exact hm
       uniq := fun p hp q hq e => by
        rcases hmem p hp with hp | rfl <;> rcases hmem q hq with hq | rfl
        ·exact hP.uniq p hp q hq e
        ·exact absurd e (hno' p hp)
        ·exact absurd e.symm (hno' q hq)
        ·rfl
       next := ⟨by omega, by omega⟩
       len := by rw [List.length_append, List.length_singleton]; omega }
theorem zwM {nx : Int} {es : Es} (h : Ok nx es) (now a0 a1 a2 : Int) (a3 a4 a5 : L8) (a6 a7 : Int) (a8 a9 : Bool) (a10 : Int) (a11 a12 : L8) :
  zbN zaB a0 a1 a2 a3 a4 a5 a6 a7 a8 a9 a10 a11 a12 now nx es = some (zqU (a0, a1, a2, a3, a4, a5, ([] : List L8), a6, a7, a8, a9, ([] : List L8), a10, a11, a12) now nx es) := by
 unfold zbN zqU
 rw [show ziA zaB _ = some (mayB (a0, a1, a2, a3, a4, a5, ([] : List L8), a6, a7, a8, a9, ([] : List L8), a10, a11, a12)) from ysQ (a0, a1, a2, a3, a4, a5, ([] : List L8), a6, a7, a8, a9, ([] : List L8), a10, a11, a12) (Nat.zero_le _), zaA]
 cases hm : mayB (a0, a1, a2, a3, a4, a5, ([] : List L8), a6, a7, a8, a9, ([] : List L8), a10, a11, a12) with
 | false => rfl
 | true =>
  simp only [Bool.not_true, cond_false]
  rw [ztT h, zaA]
  cases hf : zqI es a11 with
  | some q => rfl
  | none =>
   simp only [Option.isSome_none, Option.getD_none, cond_false]
   have hj : zfT zaB a0 a1 a2 a3 a4 a5 a6 a7 a8 a9 a10 a11 a12 (zN, false, nx, es) = some (bif yhV es a2 then .inl (0, 133, nx, es) else .inr (nx, es, a0, a1, a2, a3, a4, a5, a6, a7, a8, a9, a10, a11, a12)) := by
    unfold zfT yhV
    simp only []
    by_cases hp : a2 > 0
    ·rw [zbC hp, decide_eq_true hp, ymJ h, zaA]
     cases mhas keqI es a2 with
     | false => rfl
     | true =>
      simp only [Bool.not_true, cond_false, Bool.true_and, Bool.false_or]
      cases ypF es a2 <;> rfl
    ·rw [zaR hp, decide_eq_false hp]
     rfl
   rw [hj, zaA]
   cases yhV es a2 with
   | true => rfl
   | false =>
    simp only [cond_false]
    rw [yeN h, zaA]
    unfold zjQ
    simp only []
    by_cases hg : (zeA es now).length ≥ 256
    ·rw [zbC (by omega), decide_eq_true hg]
     rfl
    ·rw [zaR (by omega), decide_eq_false hg]
     by_cases hx : nx ≥ 99999999
     ·rw [zbC hx, decide_eq_true hx]
      rfl
     ·rw [zaR hx, decide_eq_false hx]
      have hnx := h.next
      simp only [zaA, Bool.or_false, cond_false]
      rw [own_ok ⟨Nat.zero_le _, Nat.zero_le _⟩, zaA, ziX (by omega) (by omega)]
      simp only []
      rw [yaX fun p hp => ((h.pruned now).ids p hp).2.2]
theorem ysG : Ok 1 [] := ⟨List.Pairwise.nil, fun _ h => (by cases h), fun _ h => (by cases h), fun _ h => (by cases h), fun _ h => (by cases h), ⟨by decide, by decide⟩, by decide⟩
def fn1 : Nd := (0, 1, 0, [117, 58, 97, 110, 110], [], [], [], 0, 9, false, false, [], 0, [115], [])
def fn2 : Nd := (0, 1, 1, [117, 58, 97, 110, 110], [], [], [], 0, 9, false, false, [], 0, [116], [])
def fe1 : Es := [(1, 1, 1, 0, [117, 58, 97, 110, 110], [], [], [], 0, 9, false, false, [], 0, [115], [])]
def fe2 : Es := [(1, 1, 1, 0, [117, 58, 97, 110, 110], [], [], [], 0, 9, false, false, [], 0, [115], []), (2, 2, 1, 1, [117, 58, 97, 110, 110], [], [], [], 0, 9, false, false, [], 0, [116], [])]
def fe3 : Es := [(1, 1, 1, 0, [117, 58, 97, 110, 110], [], [], [], 0, 9, true, false, [], 0, [115], []), (2, 2, 1, 1, [117, 58, 97, 110, 110], [], [], [], 0, 9, false, false, [], 0, [116], [])]
def zzZ : L8 × L8 := ([110, 111, 100, 101, 47, 48, 48, 48, 48, 48, 48, 48, 49], [49, 58, 49, 49, 58, 48, 53, 58, 117, 58, 97, 110, 110, 48, 58, 48, 58, 49, 58, 48, 49, 58, 48, 49, 58, 57, 49, 58, 49, 49, 58, 48, 49, 58, 48, 49, 58, 48, 49, 58, 115, 48, 58])
def zzR : L8 × L8 := ([110, 111, 100, 101, 47, 48, 48, 48, 48, 48, 48, 48, 50], [49, 58, 49, 49, 58, 49, 53, 58, 117, 58, 97, 110, 110, 48, 58, 48, 58, 49, 58, 48, 49, 58, 48, 49, 58, 57, 49, 58, 48, 49, 58, 48, 49, 58, 48, 49, 58, 48, 49, 58, 116, 48, 58])
def yiW : List (L8 × L8) := [([102, 111, 114, 101, 115, 116], [49, 58, 51]), zzZ, zzR]
theorem pl1 : zqU fn1 0 1 [] = (1, 0, 2, fe1) := by kernel_rfl
theorem pl2 : zqU fn1 0 2 fe1 = (0, 132, 2, fe1) := by kernel_rfl
theorem pl3 : zqU fn2 0 2 fe1 = (2, 0, 3, fe2) := by kernel_rfl
theorem fok1 : Ok 2 fe1 := by
 have h := ysG.plant fn1 0
 rw [pl1] at h
 exact h
theorem fok2 : Ok 3 fe2 := by
 have h := fok1.plant fn2 0
 rw [pl3] at h
 exact h
theorem fok3 : Ok 3 fe3 := by
 have h := fok2.ch (zqA fun p => p.1 = 1)
 rw [show (chE fe2 fun p => if p.1 = 1 then ygX p.2 else p.2) = fe3 by kernel_rfl] at h
 exact h
theorem fok0 : Ok 3 [] := by
 have h := fok3.filter fun _ => false
 exact h
theorem fok4 : Ok 3 [(1, 1, 1, 0, [117, 58, 97, 110, 110], [], [], [], 0, 9, true, false, [], 0, [115], [])] := by
 have h := fok3.filter fun p => keqI p.1 1
 rw [show (fe3.filter fun p => keqI p.1 1) = [(1, 1, 1, 0, [117, 58, 97, 110, 110], [], [], [], 0, 9, true, false, [], 0, [115], [])] by kernel_rfl] at h
 exact h
theorem frd1 : zfE zaB zzZ = some ((1, 1, 0, [117, 58, 97, 110, 110], [], [], [], 0, 9, true, false, [], 0, [115], []), true) := by kernel_rfl
theorem frd2 : zfE zaB zzR = some ((2, 1, 1, [117, 58, 97, 110, 110], [], [], [], 0, 9, false, false, [], 0, [116], []), true) := by kernel_rfl
theorem fst1 : zbD zaB [zzZ, zzR] 0 0 3 [] = some (.inl (1, 1, 3, [(1, 1, 1, 0, [117, 58, 97, 110, 110], [], [], [], 0, 9, true, false, [], 0, [115], [])])) := by
 unfold zbD
 rw [show idx [zzZ, zzR] 0 = some zzZ from rfl, zaA, frd1, zaA]
 simp only []
 rw [ztT fok0, zaA]
 kernel_rfl
theorem fst2 : zbD zaB [zzZ, zzR] 1 1 3 [(1, 1, 1, 0, [117, 58, 97, 110, 110], [], [], [], 0, 9, true, false, [], 0, [115], [])] = some (.inl (2, 2, 3, fe3)) := by
 unfold zbD
 rw [show idx [zzZ, zzR] 1 = some zzR from rfl, zaA, frd2, zaA]
 simp only []
 rw [ztT fok4, zaA]
 kernel_rfl
theorem xbD : zeJ zaB yiW = some (.inr (0, 3, fe3)) := by
 unfold zeJ
 rw [show zdI zaB yiW = some (.inr ()) by kernel_rfl, zaA]
 simp only []
 rw [show idx yiW 0 = some ([102, 111, 114, 101, 115, 116], [49, 58, 51]) from rfl, zaA]
 simp only []
 rw [show zfR zaB [49, 58, 51] = some ([[51]], true) by kernel_rfl, zaA, show zfP zaB ([[51]], true) = some (.inr ()) by kernel_rfl, zaA]
 simp only []
 rw [show zgX zaB = some (1, []) from rfl, zaA, show zeL zaB ([[51]], true) (1, []) = some (.inr (3, [])) by kernel_rfl, zaA]
 simp only []
 rw [show subL yiW 1 = some [zzZ, zzR] from rfl, zaA]
 have hI : iter (fun x => zbD zaB [zzZ, zzR] x.1 x.2.1 x.2.2.1 x.2.2.2) ((0 : Int), (0 : Int), (3 : Int), ([] : Es)) = some (.inr (3, fe3)) := by
  show zkC _ (1099511627773 + 1 + 1 + 1) _ = _
  rw [zbB fst1, zbB fst2]
  exact zaL rfl
 rw [show iter _ _ = _ from hI, zaA]
theorem yxE : zgD zaB = some true := by
 unfold zgD
 rw [show zgX zaB = some (1, []) from rfl, zaA]
 simp only []
 rw [(zwM ysG 0 0 1 0 [117, 58, 97, 110, 110] [] [] 0 9 false false 0 [115] []).trans (congrArg some pl1), zaA]
 simp only []
 rw [(zwM fok1 0 0 1 0 [117, 58, 97, 110, 110] [] [] 0 9 false false 0 [115] []).trans (congrArg some pl2), zaA]
 simp only []
 rw [(zwM fok1 0 0 1 1 [117, 58, 97, 110, 110] [] [] 0 9 false false 0 [116] []).trans (congrArg some pl3), zaA]
 rw [show ziE zaB (1, 0, 2, fe1) (0, 132, 2, fe1) (2, 0, 3, fe2) = some (.inr (3, fe3)) by kernel_rfl, zaA]
 simp only []
 rw [show zcC zaB 3 fe3 = some (yiW, 3, fe3) by kernel_rfl, zaA]
 simp only []
 rw [xbD, zaA]
 simp only []
 rw [zyX fok3, zaA]
 simp only []
 rw [yeN fok3, zaA]
 kernel_rfl
def yfM : PC := ⟨[], [.b], fun _ => some true, false⟩
theorem ypR {G : List (Nat × Obj)} [zlS G] : PCok Tryz.prog G 13 yfM := by
 have h := znP (tabs := G) (o := zaB)
 unfold ziV at h
 rw [yxE] at h
 exact h
def τWkM : TE := [(3, ⟨.int .i64, 1, [.v (.i .i64) (show Int from 0)], (.i .i64), 8⟩),
 (4, ⟨.b, 1, [.v .b (show Bool from false)], .b, 1⟩),
 (9, ⟨.s, 1, [.v .s (show Bs from [])], .s, 16⟩),
 (25, ⟨.pt 75, 1, [.nilp], .un, 8⟩),
 (35, ⟨.sl 47, 1, [.nils], (.sl (.pr (.i .i64) (.pr (.i .i64) (.pr (.i .i64) (.pr .s (.pr .s (.pr .s (.pr (.sl .s) (.pr (.i .i64) (.pr (.i .i64) (.pr .b (.pr .b (.pr (.sl .s) (.pr (.i .i64) (.pr .s .s))))))))))))))), 24⟩),
 (38, ⟨.st [(35, 0), (3, 1)], 2, [.nils, .v (.i .i64) (show Int from 0)], (.pr (.sl (.pr (.i .i64) (.pr (.i .i64) (.pr (.i .i64) (.pr .s (.pr .s (.pr .s (.pr (.sl .s) (.pr (.i .i64) (.pr (.i .i64) (.pr .b (.pr .b (.pr (.sl .s) (.pr (.i .i64) (.pr .s .s))))))))))))))) (.i .i64)), 32⟩),
 (41, ⟨.sl 50, 1, [.nils], (.sl (.pr (.i .i64) (.pr (.i .i64) (.pr (.i .i64) (.pr (.i .i64) (.pr .s (.pr (.i .i64) (.pr (.i .i64) (.pr (.i .i64) (.pr .s (.pr .s (.pr .s (.pr (.sl .s) (.pr (.i .i64) (.pr (.i .i64) (.pr .b (.pr .b (.pr (.sl .s) (.pr (.i .i64) (.pr .s .s)))))))))))))))))))), 24⟩),
 (44, ⟨.sl 3, 1, [.nils], (.sl (.i .i64)), 24⟩),
 (45, ⟨.sl 9, 1, [.nils], (.sl .s), 24⟩),
 (47, ⟨.st [(3, 0), (3, 1), (3, 2), (9, 3), (9, 4), (9, 5), (45, 6), (3, 7), (3, 8), (4, 9), (4, 10), (45, 11), (3, 12), (9, 13), (9, 14)], 15, [.v (.i .i64) (show Int from 0), .v (.i .i64) (show Int from 0), .v (.i .i64) (show Int from 0), .v .s (show Bs from []), .v .s (show Bs from []), .v .s (show Bs from []), .nils, .v (.i .i64) (show Int from 0), .v (.i .i64) (show Int from 0), .v .b (show Bool from false), .v .b (show Bool from false), .nils, .v (.i .i64) (show Int from 0), .v .s (show Bs from []), .v .s (show Bs from [])], (.pr (.i .i64) (.pr (.i .i64) (.pr (.i .i64) (.pr .s (.pr .s (.pr .s (.pr (.sl .s) (.pr (.i .i64) (.pr (.i .i64) (.pr .b (.pr .b (.pr (.sl .s) (.pr (.i .i64) (.pr .s .s)))))))))))))), 184⟩),
 (50, ⟨.st [(3, 0), (3, 1), (3, 2), (3, 3), (9, 4), (47, 5)], 20, [.v (.i .i64) (show Int from 0), .v (.i .i64) (show Int from 0), .v (.i .i64) (show Int from 0), .v (.i .i64) (show Int from 0), .v .s (show Bs from []), .v (.i .i64) (show Int from 0), .v (.i .i64) (show Int from 0), .v (.i .i64) (show Int from 0), .v .s (show Bs from []), .v .s (show Bs from []), .v .s (show Bs from []), .nils, .v (.i .i64) (show Int from 0), .v (.i .i64) (show Int from 0), .v .b (show Bool from false), .v .b (show Bool from false), .nils, .v (.i .i64) (show Int from 0), .v .s (show Bs from []), .v .s (show Bs from [])], (.pr (.i .i64) (.pr (.i .i64) (.pr (.i .i64) (.pr (.i .i64) (.pr .s (.pr (.i .i64) (.pr (.i .i64) (.pr (.i .i64) (.pr .s (.pr .s (.pr .s (.pr (.sl .s) (.pr (.i .i64) (.pr (.i .i64) (.pr .b (.pr .b (.pr (.sl .s) (.pr (.i .i64) (.pr .s .s))))))))))))))))))), 232⟩),
 (57, ⟨.sl 4, 1, [.nils], (.sl .b), 24⟩),
 (73, ⟨.map 3 81, 1, [.nilm], (.mp (.i .i64) (.pr (.i .i64) (.pr (.i .i64) (.pr (.i .i64) (.pr .s (.pr .s (.pr .s (.pr (.sl .s) (.pr (.i .i64) (.pr (.i .i64) (.pr .b (.pr .b (.pr (.sl .s) (.pr (.i .i64) (.pr .s .s))))))))))))))), 8⟩),
 (75, ⟨.st [(73, 0), (3, 1)], 2, [.nilm, .v (.i .i64) (show Int from 0)], (.pr (.mp (.i .i64) (.pr (.i .i64) (.pr (.i .i64) (.pr (.i .i64) (.pr .s (.pr .s (.pr .s (.pr (.sl .s) (.pr (.i .i64) (.pr (.i .i64) (.pr .b (.pr .b (.pr (.sl .s) (.pr (.i .i64) (.pr .s .s))))))))))))))) (.i .i64)), 16⟩),
 (81, ⟨.st [(47, 0)], 15, [.v (.i .i64) (show Int from 0), .v (.i .i64) (show Int from 0), .v (.i .i64) (show Int from 0), .v .s (show Bs from []), .v .s (show Bs from []), .v .s (show Bs from []), .nils, .v (.i .i64) (show Int from 0), .v (.i .i64) (show Int from 0), .v .b (show Bool from false), .v .b (show Bool from false), .nils, .v (.i .i64) (show Int from 0), .v .s (show Bs from []), .v .s (show Bs from [])], (.pr (.i .i64) (.pr (.i .i64) (.pr (.i .i64) (.pr .s (.pr .s (.pr .s (.pr (.sl .s) (.pr (.i .i64) (.pr (.i .i64) (.pr .b (.pr .b (.pr (.sl .s) (.pr (.i .i64) (.pr .s .s)))))))))))))), 184⟩)]
theorem τ_okWkM : TEok Tryz.prog τWkM := yhY (by kernel_rfl) (by kernel_rfl)
theorem ysB : Tryz.prog.follows .mixedOrders = true := by kernel_rfl
theorem xdC {G : List (Nat × Obj)} {o : Ops} [zlS G] [zkE G o] {Γ : CT} {η : HT} {f : FuncId} {fn : Func} {c : SC} (hΓ : ∀ B, GB G B → CTok Tryz.prog Γ B) (hf : Tryz.prog.funcs[f]? = some fn) (i : (fn.name == "runtime.NumGoroutine") = false := by kernel_rfl) (j : fn.body.isNone = false := by kernel_rfl) (l : Nat.ble c.I.sl.length fn.ntmps = true := by kernel_rfl) (r : Nat.beq fn.results.toList.length c.nr = true := by kernel_rfl) (e : fnS τWkM Γ η fn c.I c.outs = c.p := by kernel_rfl) : SCok Tryz.prog G f c := witO (G := G) (o := o) <| yoP ysB τ_okWkM hΓ hf (isFn hf i j) l r e
theorem zrP {G : List (Nat × Obj)} {o : Ops} [zlS G] [zkE G o] {Γ : CT} {η : HT} {f : FuncId} {fn : Func} {c : PC} (hΓ : ∀ B, GB G B → CTok Tryz.prog Γ B) (hf : Tryz.prog.funcs[f]? = some fn) (i : (fn.name == "runtime.NumGoroutine") = false := by kernel_rfl) (j : fn.body.isNone = false := by kernel_rfl) (l : Nat.ble c.ash.length fn.ntmps = true := by kernel_rfl) (r : c.cl = false := by kernel_rfl) (e : fnP τWkM Γ η fn c.ash c.rts = c.p := by kernel_rfl) : PCok Tryz.prog G f c := witO (G := G) (o := o) <| yrE ysB τ_okWkM hΓ hf (isFn hf i j) l r e
abbrev ztE : Type := Int × Int × Int × Bs × Bs × Bs × (List Bs) × Int × Int × Bool × Bool × (List Bs) × Int × Bs × Bs
abbrev ytY : Ty := .pr (.i .i64) (.pr (.i .i64) (.pr (.i .i64) (.pr .s (.pr .s (.pr .s (.pr (.sl .s) (.pr (.i .i64) (.pr (.i .i64) (.pr .b (.pr .b (.pr (.sl .s) (.pr (.i .i64) (.pr .s .s)))))))))))))
abbrev xcZ : Type := Int × ztE
abbrev yhX : OSh := .blk 47 [hI, hI, hI, hS, hS, hS, (.h (.sl .s)), hI, hI, hB, hB, (.h (.sl .s)), hI, hS, hS]
section
variable {tabs : List (Nat × Obj)} [zlS tabs] {o : Ops} [zkE tabs o]
def zaS (o : Ops) (v0 : UInt8) : Option (Bool) :=
 bif decide ((v0.toNat : Int) ≥ ((97 : UInt8).toNat : Int)) then (bif decide ((v0.toNat : Int) ≤ ((122 : UInt8).toNat : Int)) then (some true) else (bif decide ((v0.toNat : Int) ≥ ((48 : UInt8).toNat : Int)) then (bif decide ((v0.toNat : Int) ≤ ((57 : UInt8).toNat : Int)) then (some true) else (bif ((v0.toNat : Int) == ((46 : UInt8).toNat : Int)) then (some true) else (bif ((v0.toNat : Int) == ((95 : UInt8).toNat : Int)) then (some true) else (some ((v0.toNat : Int) == ((45 : UInt8).toNat : Int)))))) else (bif ((v0.toNat : Int) == ((46 : UInt8).toNat : Int)) then (some true) else (bif ((v0.toNat : Int) == ((95 : UInt8).toNat : Int)) then (some true) else (some ((v0.toNat : Int) == ((45 : UInt8).toNat : Int))))))) else (bif decide ((v0.toNat : Int) ≥ ((48 : UInt8).toNat : Int)) then (bif decide ((v0.toNat : Int) ≤ ((57 : UInt8).toNat : Int)) then (some true) else (bif ((v0.toNat : Int) == ((46 : UInt8).toNat : Int)) then (some true) else (bif ((v0.toNat : Int) == ((95 : UInt8).toNat : Int)) then (some true) else (some ((v0.toNat : Int) == ((45 : UInt8).toNat : Int)))))) else (bif ((v0.toNat : Int) == ((46 : UInt8).toNat : Int)) then (some true) else (bif ((v0.toNat : Int) == ((95 : UInt8).toNat : Int)) then (some true) else (some ((v0.toNat : Int) == ((45 : UInt8).toNat : Int))))))
def zeU (o : Ops) : PC := ⟨[(.h (.i .u8))], [.b], fun x => zaS o x, false⟩
theorem zhY : PCok Tryz.prog tabs 167 (zeU o) := zrP (o := o) (η := []) (Γ := ⟨[], [], false⟩) (ctok trivial trivial) Tryz.func167
def zgH (o : Ops) (v0 : Bs) (v1 : Int) : Option (Int ⊕ (Bool ⊕ Unit)) :=
 bif decide (v1 < (v0.length : Int)) then ((idx v0 v1).bind fun v2 => (zaS o v2).bind fun v3 => bif (!v3) then some (.inr (.inl false)) else some (.inl (w64 (v1 + 1)))) else some (.inr (.inr ()))
def zbS (o : Ops) (v0 : Bs) : Option (Bool) :=
 (iter (zgH o v0) (0 : Int)).bind fun v4 => match v4 with
 | .inl v5 => (some v5)
 | .inr v6 => (bif decide ((v0.length : Int) ≥ 1) then (some (decide ((v0.length : Int) ≤ 24))) else (some false))
def zfV (o : Ops) : PC := ⟨[hS], [.b], fun x => zbS o x, false⟩
theorem zjH : PCok Tryz.prog tabs 140 (zfV o) := zrP (o := o) (η := [(200002, .loop [] ⟨[(3, hI)], []⟩ [0] [(some 1000000, ⟨[(2, hB)], []⟩), (some 0, ⟨[], []⟩)])]) (Γ := ⟨[(167, (zeU o))], [], false⟩) (ctok ⟨zhY, trivial⟩ trivial) Tryz.func140
def zbF (o : Ops) (v0 : Bs) : Option (Bool) :=
 bif decide ((v0.length : Int) > 2) then ((subH v0 (2 : Int)).bind fun v1 => bif (v1 == ([117, 58] : Bs)) then ((subL v0 (2 : Int)).bind fun v2 => (zbS o v2).bind fun v3 => some v3) else ((subH v0 (2 : Int)).bind fun v4 => bif (v4 == ([99, 58] : Bs)) then ((subL v0 (2 : Int)).bind fun v5 => (zbS o v5).bind fun v6 => some v6) else (some false))) else (some false)
def zgW (o : Ops) : PC := ⟨[hS], [.b], fun x => zbF o x, false⟩
theorem zlL : PCok Tryz.prog tabs 139 (zgW o) := zrP (o := o) (η := []) (Γ := ⟨[(140, (zfV o))], [], false⟩) (ctok ⟨zjH, trivial⟩ trivial) Tryz.func139
def zgB (o : Ops) (v0 : Bs) (v1 : Int) : Option (Int ⊕ (Bool ⊕ Unit)) :=
 bif decide (v1 < (v0.length : Int)) then ((idx v0 v1).bind fun v2 => bif decide ((v2.toNat : Int) < ((33 : UInt8).toNat : Int)) then some (.inr (.inl false)) else ((idx v0 v1).bind fun v3 => bif decide ((v3.toNat : Int) > ((126 : UInt8).toNat : Int)) then some (.inr (.inl false)) else some (.inl (w64 (v1 + 1))))) else some (.inr (.inr ()))
def zbQ (o : Ops) (v0 : Bs) : Option (Bool) :=
 (iter (zgB o v0) (0 : Int)).bind fun v4 => match v4 with
 | .inl v5 => (some v5)
 | .inr v6 => (bif decide ((v0.length : Int) ≥ 1) then (some (decide ((v0.length : Int) ≤ 128))) else (some false))
def zgE (o : Ops) : PC := ⟨[hS], [.b], fun x => zbQ o x, false⟩
theorem zjO : PCok Tryz.prog tabs 141 (zgE o) := zrP (o := o) (η := [(200002, .loop [] ⟨[(3, hI)], []⟩ [0] [(some 1000000, ⟨[(2, hB)], []⟩), (some 0, ⟨[], []⟩)])]) (Γ := ⟨[], [], false⟩) (ctok trivial trivial) Tryz.func141
def zfC (o : Ops) (v0 : Bs) (v1 : Int) : Option (Int ⊕ (Bool ⊕ Unit)) :=
 bif decide (v1 < (v0.length : Int)) then ((idx v0 v1).bind fun v2 => (zaS o v2).bind fun v3 => bif (!v3) then ((idx v0 v1).bind fun v4 => bif ((v4.toNat : Int) != ((58 : UInt8).toNat : Int)) then some (.inr (.inl false)) else some (.inl (w64 (v1 + 1)))) else some (.inl (w64 (v1 + 1)))) else some (.inr (.inr ()))
def zcH (o : Ops) (v0 : Bs) : Option (Bool) :=
 (iter (zfC o v0) (0 : Int)).bind fun v5 => match v5 with
 | .inl v6 => (some v6)
 | .inr v7 => (bif decide ((v0.length : Int) ≥ 1) then (some (decide ((v0.length : Int) ≤ 32))) else (some false))
def ziF (o : Ops) : PC := ⟨[hS], [.b], fun x => zcH o x, false⟩
theorem znT : PCok Tryz.prog tabs 168 (ziF o) := zrP (o := o) (η := [(200002, .loop [] ⟨[(3, hI)], []⟩ [0] [(some 1000000, ⟨[(2, hB)], []⟩), (some 0, ⟨[], []⟩)])]) (Γ := ⟨[(167, (zeU o))], [], false⟩) (ctok ⟨zhY, trivial⟩ trivial) Tryz.func168
def zbY (o : Ops) (v0 : List Bs) (v2 : Int) (v3 : Int) : Option (Int ⊕ (Bool ⊕ Unit)) :=
 bif decide (v3 < (v0.length : Int)) then (bif (v2 == 0) then ((idx v0 v3).bind fun v4 => (zbQ o v4).bind fun v5 => bif (!v5) then some (.inr (.inl false)) else (bif (v2 == 1) then ((idx v0 v3).bind fun v6 => (zcH o v6).bind fun v7 => bif (!v7) then some (.inr (.inl false)) else (bif decide (v3 > 0) then ((idx v0 v3).bind fun v8 => (idx v0 (w64 (v3 - 1))).bind fun v9 => bif (Op.bytesLess v8 v9 || v8 == v9) then some (.inr (.inl false)) else some (.inl (w64 (v3 + 1)))) else some (.inl (w64 (v3 + 1))))) else (bif decide (v3 > 0) then ((idx v0 v3).bind fun v10 => (idx v0 (w64 (v3 - 1))).bind fun v11 => bif (Op.bytesLess v10 v11 || v10 == v11) then some (.inr (.inl false)) else some (.inl (w64 (v3 + 1)))) else some (.inl (w64 (v3 + 1)))))) else (bif (v2 == 1) then ((idx v0 v3).bind fun v12 => (zcH o v12).bind fun v13 => bif (!v13) then some (.inr (.inl false)) else (bif decide (v3 > 0) then ((idx v0 v3).bind fun v14 => (idx v0 (w64 (v3 - 1))).bind fun v15 => bif (Op.bytesLess v14 v15 || v14 == v15) then some (.inr (.inl false)) else some (.inl (w64 (v3 + 1)))) else some (.inl (w64 (v3 + 1))))) else (bif decide (v3 > 0) then ((idx v0 v3).bind fun v16 => (idx v0 (w64 (v3 - 1))).bind fun v17 => bif (Op.bytesLess v16 v17 || v16 == v17) then some (.inr (.inl false)) else some (.inl (w64 (v3 + 1)))) else some (.inl (w64 (v3 + 1)))))) else some (.inr (.inr ()))
def zdU (o : Ops) (v0 : List Bs) (v1 : Int) (v2 : Int) : Option (Bool) :=
 (iter (zbY o v0 v2) (0 : Int)).bind fun v18 => match v18 with
 | .inl v19 => (some v19)
 | .inr v20 => (some (decide ((v0.length : Int) ≤ v1)))
def ziR (o : Ops) : PC := ⟨[(.h (.sl .s)), hI, hI], [.b], fun x => zdU o x.1 x.2.1 x.2.2, false⟩
theorem znG : PCok Tryz.prog tabs 142 (ziR o) := zrP (o := o) (η := [(200002, .loop [] ⟨[(7, hI)], []⟩ [0, 1, 2] [(some 1000000, ⟨[(6, hB)], []⟩), (some 0, ⟨[], []⟩)]),
 (4000004, .sch [(.pu, 0, []), (.pu, 1, []), (.pu, 2, []), (.pu, 3, []), (.pu, 4, []), (.pu, 5, []), (.pu, 6, []), (.mn, 7, []), (.pu, 8, []), (.pu, 9, []), (.pu, 10, []), (.pu, 11, []), (.pu, 12, []), (.pu, 13, []), (.pu, 14, []), (.pu, 15, []), (.pu, 16, []), (.pu, 17, []), (.mn, 18, []), (.pu, 19, []), (.pu, 20, []), (.pu, 21, []), (.pu, 22, []), (.pu, 23, []), (.pu, 24, []), (.pu, 25, []), (.pu, 26, []), (.pu, 27, []), (.pu, 28, []), (.pu, 29, []), (.pu, 30, []), (.pu, 31, []), (.pu, 32, []), (.pu, 33, []), (.pu, 34, []), (.pu, 35, []), (.pu, 36, []), (.pu, 37, [])])]) (Γ := ⟨[(141, (zgE o)), (168, (ziF o))], [], false⟩) (ctok ⟨zjO, ⟨znT, trivial⟩⟩ trivial) Tryz.func142
def zgT (o : Ops) (v0 : ztE) : Option (Bool ⊕ ztE) :=
 bif decide (v0.2.1 < 1) then some (.inl false) else (bif decide (v0.2.1 > 5) then some (.inl false) else (bif decide (v0.2.2.1 < 0) then some (.inl false) else ((zbF o v0.2.2.2.1).bind fun v1 => bif (!v1) then some (.inl false) else (bif (v0.2.2.2.2.1 != ([] : Bs)) then ((zbS o v0.2.2.2.2.1).bind fun v2 => bif (!v2) then some (.inl false) else (bif (v0.2.2.2.2.2.1 != ([] : Bs)) then ((zbQ o v0.2.2.2.2.2.1).bind fun v3 => bif (!v3) then some (.inl false) else some (.inr v0)) else some (.inr v0))) else (bif (v0.2.2.2.2.2.1 != ([] : Bs)) then ((zbQ o v0.2.2.2.2.2.1).bind fun v4 => bif (!v4) then some (.inl false) else some (.inr v0)) else some (.inr v0))))))
def zcO (o : Ops) (v8 : Int) (v9 : Int) (v10 : Int) (v11 : Int) (v12 : Bs) (v13 : Bs) (v14 : Bs) (v15 : List Bs) (v16 : Int) (v17 : Int) (v18 : Bool) (v19 : Bool) (v20 : List Bs) (v21 : Int) (v22 : Bs) (v23 : Bs) : Option (xcZ ⊕ (Bool ⊕ ztE)) :=
 bif decide (v8 < (v20.length : Int)) then ((idx v20 v8).bind fun v24 => (zbF o v24).bind fun v25 => bif (!v25) then some (.inr (.inl false)) else some (.inl (w64 (v8 + 1), v9, v10, v11, v12, v13, v14, v15, v16, v17, v18, v19, v20, v21, v22, v23))) else some (.inr (.inr (v9, v10, v11, v12, v13, v14, v15, v16, v17, v18, v19, v20, v21, v22, v23)))
def zgV (o : Ops) (v28 : ztE) : Option ((Bool × ztE)) :=
 bif decide (v28.2.2.2.2.2.2.2.1 ≥ 0) then (bif decide (v28.2.2.2.2.2.2.2.1 ≤ 1099511627776) then (bif decide (v28.2.2.2.2.2.2.2.2.1 ≥ 0) then some (decide (v28.2.2.2.2.2.2.2.2.1 ≤ 1099511627776), v28) else some (false, v28)) else some (false, v28)) else some (false, v28)
def zeM (o : Ops) (v0 : ztE) : Option (Bool) :=
 (zgT o v0).bind fun v5 => match v5 with
 | .inl v6 => (some v6)
 | .inr v7 => ((iter (fun x => zcO o x.1 x.2.1 x.2.2.1 x.2.2.2.1 x.2.2.2.2.1 x.2.2.2.2.2.1 x.2.2.2.2.2.2.1 x.2.2.2.2.2.2.2.1 x.2.2.2.2.2.2.2.2.1 x.2.2.2.2.2.2.2.2.2.1 x.2.2.2.2.2.2.2.2.2.2.1 x.2.2.2.2.2.2.2.2.2.2.2.1 x.2.2.2.2.2.2.2.2.2.2.2.2.1 x.2.2.2.2.2.2.2.2.2.2.2.2.2.1 x.2.2.2.2.2.2.2.2.2.2.2.2.2.2.1 x.2.2.2.2.2.2.2.2.2.2.2.2.2.2.2) ((0 : Int), v7)).bind fun v26 => match v26 with
 | .inl v27 => (some v27)
 | .inr v28 => ((zgV o v28).bind fun v29 => bif v29.1 then ((zdU o v29.2.2.2.2.2.2.2.1 (16 : Int) (1 : Int)).bind fun v30 => bif v30 then (let v31 : Bool := decide ((v29.2.2.2.2.2.2.2.2.2.2.2.2.1.length : Int) ≤ 4)
 bif v31 then (bif decide (v29.2.2.2.2.2.2.2.2.2.2.2.2.2.1 ≥ 0) then (bif decide (v29.2.2.2.2.2.2.2.2.2.2.2.2.2.1 ≤ 3) then (let v32 : Bool := decide ((v29.2.2.2.2.2.2.2.2.2.2.2.2.2.2.1.length : Int) ≥ 1)
 bif v32 then (let v33 : Bool := decide ((v29.2.2.2.2.2.2.2.2.2.2.2.2.2.2.1.length : Int) ≤ 64)
 bif v33 then (let v34 : Bool := decide ((v29.2.2.2.2.2.2.2.2.2.2.2.2.2.2.2.length : Int) ≤ 256)
 some v34) else (some false)) else (some false)) else (some false)) else (some false)) else (some false)) else (some false)) else (some false)))
def zkK (o : Ops) : PC := ⟨[(.h ytY)], [.b], fun x => zeM o x, false⟩
theorem zpS : PCok Tryz.prog tabs 93 (zkK o) := zrP (o := o) (η := [(2000003, .join [] [] [(some 1000000, ⟨[(2, hB)], []⟩), (none, ⟨[(1, (.ptr 0 0))], [yhX]⟩)]),
 (200004, .loop [] ⟨[(1, (.ptr 0 0)), (3, hI)], [yhX]⟩ [] [(some 1000000, ⟨[(2, hB)], []⟩), (some 0, ⟨[(1, (.ptr 0 0))], [yhX]⟩)]),
 (2000009, .join [] [] [(none, ⟨[(1, (.ptr 0 0)), (4, hB)], [yhX]⟩)])]) (Γ := ⟨[(139, (zgW o)), (140, (zfV o)), (141, (zgE o)), (142, (ziR o))], [], false⟩) (ctok ⟨zlL, ⟨zjH, ⟨zjO, ⟨znG, trivial⟩⟩⟩⟩ trivial) Tryz.func93
def zfX (o : Ops) (v0 : List Bs) (v1 : List Bs) (v2 : Int) : Option (Int ⊕ (Bool ⊕ Unit)) :=
 bif decide (v2 < (v0.length : Int)) then ((idx v0 v2).bind fun v3 => (idx v1 v2).bind fun v4 => bif (v3 != v4) then some (.inr (.inl false)) else some (.inl (w64 (v2 + 1)))) else some (.inr (.inr ()))
def zcN (o : Ops) (v0 : List Bs) (v1 : List Bs) : Option (Bool) :=
 bif ((v0.length : Int) != (v1.length : Int)) then (some false) else ((iter (zfX o v0 v1) (0 : Int)).bind fun v5 => match v5 with
 | .inl v6 => (some v6)
 | .inr v7 => (some true))
def zjN (o : Ops) : PC := ⟨[(.h (.sl .s)), (.h (.sl .s))], [.b], fun x => zcN o x.1 x.2, false⟩
theorem zoQ : PCok Tryz.prog tabs 94 (zjN o) := zrP (o := o) (η := [(200004, .loop [] ⟨[(5, hI)], []⟩ [0, 1] [(some 1000000, ⟨[(4, hB)], []⟩), (some 0, ⟨[], []⟩)]),
 (4000006, .sch [(.pu, 0, []), (.pu, 1, []), (.pu, 2, []), (.pu, 3, []), (.pu, 4, []), (.pu, 5, []), (.pu, 6, []), (.pu, 7, []), (.pu, 8, [])])]) (Γ := ⟨[], [], false⟩) (ctok trivial trivial) Tryz.func94
def zgA (o : Ops) (v0 : ztE) (v1 : ztE) : Option (Bool ⊕ (Int × Int × Int × Bs × Bs × Bs × (List Bs) × Int × Int × Bool × Bool × (List Bs) × Int × Bs × Bs × ztE)) :=
 (zcN o v0.2.2.2.2.2.2.1 v1.2.2.2.2.2.2.1).bind fun v2 => bif (!v2) then some (.inl false) else ((zcN o v0.2.2.2.2.2.2.2.2.2.2.2.1 v1.2.2.2.2.2.2.2.2.2.2.2.1).bind fun v3 => bif (!v3) then some (.inl false) else some (.inr (v0.1, v0.2.1, v0.2.2.1, v0.2.2.2.1, v0.2.2.2.2.1, v0.2.2.2.2.2.1, v0.2.2.2.2.2.2.1, v0.2.2.2.2.2.2.2.1, v0.2.2.2.2.2.2.2.2.1, v0.2.2.2.2.2.2.2.2.2.1, v0.2.2.2.2.2.2.2.2.2.2.1, v0.2.2.2.2.2.2.2.2.2.2.2.1, v0.2.2.2.2.2.2.2.2.2.2.2.2.1, v0.2.2.2.2.2.2.2.2.2.2.2.2.2.1, v0.2.2.2.2.2.2.2.2.2.2.2.2.2.2, v1)))
def zeG (o : Ops) (v0 : ztE) (v1 : ztE) : Option (Bool) :=
 (zgA o v0 v1).bind fun v4 => match v4 with
 | .inl v5 => (some v5)
 | .inr v6 => (bif (v6.1 == v6.2.2.2.2.2.2.2.2.2.2.2.2.2.2.2.1) then (bif (v6.2.1 == v6.2.2.2.2.2.2.2.2.2.2.2.2.2.2.2.2.1) then (bif (v6.2.2.1 == v6.2.2.2.2.2.2.2.2.2.2.2.2.2.2.2.2.2.1) then (bif (v6.2.2.2.1 == v6.2.2.2.2.2.2.2.2.2.2.2.2.2.2.2.2.2.2.1) then (bif (v6.2.2.2.2.1 == v6.2.2.2.2.2.2.2.2.2.2.2.2.2.2.2.2.2.2.2.1) then (let v7 : Bool := (v6.2.2.2.2.2.1 == v6.2.2.2.2.2.2.2.2.2.2.2.2.2.2.2.2.2.2.2.2.1)
 bif v7 then (let v8 : Bool := (v6.2.2.2.2.2.2.2.1 == v6.2.2.2.2.2.2.2.2.2.2.2.2.2.2.2.2.2.2.2.2.2.2.1)
 bif v8 then (let v9 : Bool := (v6.2.2.2.2.2.2.2.2.1 == v6.2.2.2.2.2.2.2.2.2.2.2.2.2.2.2.2.2.2.2.2.2.2.2.1)
 bif v9 then (let v10 : Bool := (v6.2.2.2.2.2.2.2.2.2.1 == v6.2.2.2.2.2.2.2.2.2.2.2.2.2.2.2.2.2.2.2.2.2.2.2.2.1)
 bif v10 then (let v11 : Bool := (v6.2.2.2.2.2.2.2.2.2.2.1 == v6.2.2.2.2.2.2.2.2.2.2.2.2.2.2.2.2.2.2.2.2.2.2.2.2.2.1)
 bif v11 then (let v12 : Bool := (v6.2.2.2.2.2.2.2.2.2.2.2.2.1 == v6.2.2.2.2.2.2.2.2.2.2.2.2.2.2.2.2.2.2.2.2.2.2.2.2.2.2.2.1)
 bif v12 then (let v13 : Bool := (v6.2.2.2.2.2.2.2.2.2.2.2.2.2.1 == v6.2.2.2.2.2.2.2.2.2.2.2.2.2.2.2.2.2.2.2.2.2.2.2.2.2.2.2.2.1)
 bif v13 then (let v14 : Bool := (v6.2.2.2.2.2.2.2.2.2.2.2.2.2.2.1 == v6.2.2.2.2.2.2.2.2.2.2.2.2.2.2.2.2.2.2.2.2.2.2.2.2.2.2.2.2.2)
 some v14) else (some false)) else (some false)) else (some false)) else (some false)) else (some false)) else (some false)) else (some false)) else (some false)) else (some false)) else (some false)) else (some false)) else (some false))
def zjT (o : Ops) : PC := ⟨[(.h ytY), (.h ytY)], [.b], fun x => zeG o x.1 x.2, false⟩
theorem zoN : PCok Tryz.prog tabs 41 (zjT o) := zrP (o := o) (η := [(2000003, .join [] [] [(some 1000000, ⟨[(4, hB)], []⟩), (none, ⟨[(2, (.ptr 0 0)), (3, (.ptr 1 0))], [yhX, yhX]⟩)])]) (Γ := ⟨[(94, (zjN o))], [], false⟩) (ctok ⟨zoQ, trivial⟩ trivial) Tryz.func41
end
def ynT (es : Es) (id now : Int) : Int × Es := match mget keqI es id with
 | none => (131, es)
 | some n => bif zxR n then (134, chI es id ygX) else (bif zxE es id now then (0, chI es id ysM) else (133, es))
def yvT (es : Es) (id l : Int) : Int × Es := match mget keqI es id with
 | none => (131, es)
 | some n => bif (n.2.1 != (1 : Int)) then (131, es) else (bif inB l 1 3 then (0, chI es id (sLev l)) else (131, es))
def yvI (es : Es) (id : Int) (d : L8) : Int × Es := bif mhas keqI es id && !decide ((d.length : Int) > 256) then (0, chI es id (yyY d)) else (131, es)
theorem Ok.spend {nx : Int} {es : Es} (h : Ok nx es) (id now : Int) : Ok nx (ynT es id now).2 := by
 unfold ynT
 cases mget keqI es id with
 | none => exact h
 | some n =>
  simp only []
  cases zxR n with
  | true => exact h.ch (zqA _)
  | false => cases zxE es id now with
   | true => exact h.ch (ycL _)
   | false => exact h
theorem Ok.lift {nx : Int} {es : Es} (h : Ok nx es) (id l : Int) : Ok nx (yvT es id l).2 := by
 unfold yvT
 cases mget keqI es id with
 | none => exact h
 | some n =>
  simp only []
  cases (n.2.1 != (1 : Int)) with
  | true => exact h
  | false =>
   cases hl : inB l 1 3 with
   | false => exact h
   | true =>
    unfold inB at hl
    simp only [Bool.and_eq_true, decide_eq_true_eq] at hl
    exact h.ch (ynA _ hl.1 hl.2)
theorem Ok.note {nx : Int} {es : Es} (h : Ok nx es) (id : Int) (d : L8) : Ok nx (yvI es id d).2 := by
 unfold yvI
 cases hc : mhas keqI es id && !decide ((d.length : Int) > 256) with
 | false => exact h
 | true =>
  simp only [Bool.and_eq_true, Bool.not_eq_true', decide_eq_false_iff_not] at hc
  exact h.ch (yhE _ (by omega))
def cutC (s : L8) : L8 × Bool := bif (s.take 2 == ([99, 58] : L8)) then (s.drop 2, true) else (s, false)
def xdA (s : L8) (n : Nd) : Bool := n.2.2.2.1 == s || ((cutC s).2 && ((cutC s).1 != ([] : L8) && n.2.2.2.2.1 == (cutC s).1))
def hitB (s : L8) (n : Nd) : Bool := !ygU n && xdA s n
def ykV (es : Es) (s : L8) : Es := chE es fun p => if hitB s p.2 = true then ygX p.2 else p.2
theorem Ok.killed {nx : Int} {es : Es} (h : Ok nx es) (s : L8) : Ok nx (ykV es s) := h.ch (zqA _)
section
theorem zjF {k : Nat} (h : k < 1099511627776) : w64 ((k : Int) + 1) = ((k + 1 : Nat) : Int) := by rw [ziX (by omega) (by omega)]; omega
def NdOk (n : Nd) : Prop := n.2.2.2.1.length ≤ 1048576 ∧ n.2.2.2.2.1.length ≤ 1048576 ∧ n.2.2.2.2.2.1.length ≤ 1048576 ∧ n.2.2.2.2.2.2.1.length ≤ 1048576 ∧ (∀ s ∈ n.2.2.2.2.2.2.1, s.length ≤ 1048576) ∧ n.2.2.2.2.2.2.2.2.2.2.2.1.length ≤ 1048576 ∧ ∀ s ∈ n.2.2.2.2.2.2.2.2.2.2.2.1, s.length ≤ 1048576
variable {L : List Nd} {nx : Int}
end
section
variable {L : List Nd} {nx : Int}
end
abbrev OpT : Type := Int × Int × Int × Int × L8 × Nd
def yvB (o : OpT) (nx : Int) (es : Es) : Int × Es :=
 bif o.2.1 == (0 : Int) then ((zqU o.2.2.2.2.2 o.2.2.1 nx es).2.2.1, (zqU o.2.2.2.2.2 o.2.2.1 nx es).2.2.2) else
 bif o.2.1 == (1 : Int) then (nx, es) else
 bif o.2.1 == (2 : Int) then (nx, (ynT es o.2.2.1 o.2.2.2.1).2) else
 bif o.2.1 == (3 : Int) then (nx, bif mhas keqI es o.2.2.1 then chI es o.2.2.1 ygX else es) else
 bif o.2.1 == (4 : Int) then (nx, ykV es o.2.2.2.2.1) else
 bif o.2.1 == (5 : Int) then (nx, (yvT es o.2.2.1 o.2.2.2.1).2) else
 bif o.2.1 == (6 : Int) then (nx, (yvI es o.2.2.1 o.2.2.2.2.1).2) else
 bif o.2.1 == (7 : Int) then (nx, zeA es o.2.2.1) else (nx, es)
theorem Ok.kill {nx : Int} {es : Es} (h : Ok nx es) (i : Int) : Ok nx (bif mhas keqI es i then chI es i ygX else es) := by
 cases mhas keqI es i with
 | false => exact h
 | true => exact h.ch (zqA _)
theorem Ok.step {nx : Int} {es : Es} (h : Ok nx es) (o : OpT) : Ok (yvB o nx es).1 (yvB o nx es).2 := by
 unfold yvB
 cases o.2.1 == (0 : Int) with
 | true => exact h.plant _ _
 | false =>
  cases o.2.1 == (1 : Int) with
  | true => exact h
  | false =>
   cases o.2.1 == (2 : Int) with
   | true => exact h.spend _ _
   | false =>
    cases o.2.1 == (3 : Int) with
    | true => exact h.kill _
    | false =>
     cases o.2.1 == (4 : Int) with
     | true => exact h.killed _
     | false =>
      cases o.2.1 == (5 : Int) with
      | true => exact h.lift _ _
      | false =>
       cases o.2.1 == (6 : Int) with
       | true => exact h.note _ _
       | false =>
        cases o.2.1 == (7 : Int) with
        | true => exact h.pruned _
        | false => exact h
end Go.Proofs.YtebbcofojchkpaaGreatDoor.Am
namespace Go.Proofs.YtebbcofojchkpaaGreatDoor
open Go Go.RowKit
section
open Go Go.RowKit Go.ChangeShapes Go.WideShapes Go.ChangeAt
section
variable {H : Type} {enc : TypeId × Value → H} {P : Program} {W W' : World}
theorem zwB (hl : laidOutB P = true) (hx : Below W.heap.size W W') : ∀ {ts : List TypeId} {vs : LV} {ds : List (DataW H)} {ps : List MemPlace}, ts.all (fun t => P.readableRec t && decide (t < P.types.size)) = true →
  DataW.TrodAll enc P W 0 (fun _ => true) true ts vs ds ps → (∀ x ∈ ps, x.block < W.heap.size) → DataW.TrodAll enc P W' 0 (fun b => decide (b < W.heap.size)) true ts vs ds ps
 | [], vs, ds, ps, _, h, _ => by
  obtain ⟨rfl, rfl, rfl⟩ := trodAll_nil h
  exact trodAll_mk0
 | t :: ts, vs, ds, ps, ha, h, hlt => by
  obtain ⟨v, vs', d, ds', p, q, rfl, rfl, rfl, h0, hr⟩ := trodAll_cons h
  simp only [List.all_cons, Bool.and_eq_true, decide_eq_true_eq] at ha
  exact trodAll_cons_mk (Below.trod hl ha.1.1 ha.1.2 h0 hx fun x hx => hlt x (List.mem_append.2 (.inl hx)))
   (zwB hl hx ha.2 hr fun x hx => hlt x (List.mem_append.2 (.inr hx)))
theorem trodAll_length : ∀ {ts : List TypeId} {vs : LV} {ds : List (DataW H)} {ps : List MemPlace} {w : World} {b : Nat} {sp : Nat → Bool} {hd : Bool}, DataW.TrodAll enc P w b sp hd ts vs ds ps → vs.length = ts.length ∧ ds.length = ts.length
 | [], vs, ds, ps, _, _, _, _, h => by
  obtain ⟨rfl, rfl, rfl⟩ := trodAll_nil h
  exact ⟨rfl, rfl⟩
 | t :: ts, vs, ds, ps, _, _, _, _, h => by
  obtain ⟨v, vs', d, ds', p, q, rfl, rfl, rfl, h0, hr⟩ := trodAll_cons h
  have := trodAll_length hr
  simp [this.1, this.2]
theorem ypT {f : Func} {s : ChangeSpec} {args : Array Value} {ds gs : List (DataW H)} {before : List MemPlace} {B : TypeId} {n : Nat} (hl : laidOutB P = true) (hv : s.vars = [])
  (hp : f.params.toList.all (fun t => P.readableRec t && decide (t < P.types.size)) = true) (hn : f.params.toList.length = n) (hB : P.underlying B = some .bool) (hr : f.resultTypes = #[B])
  (hfn : ∀ ds : List (DataW H), ds.length = n → (s.fn H (ds ++ [])).results = [.lit (.bool true)] ∧ (s.fn H (ds ++ [])).args = ds ∧ (s.fn H (ds ++ [])).vars = [])
  (hW : DataW.Whole enc P f.params.toList s.vars false W args.toList ds gs before) (hx : Ext W W') : s.post enc P f false true false false W args (.bool true) W' := by
 have hW' := hW
 obtain ⟨p, q, hA, hV, rfl, _, _⟩ := hW
 rw [hv] at hV
 obtain ⟨rfl, rfl⟩ := trodVars_none hV
 have hA : DataW.TrodAll enc P W 0 (fun _ => true) true f.params.toList args.toList ds p := hA
 have hlen := trodAll_length hA
 obtain ⟨f1, f2, f3⟩ := hfn ds (hlen.2.trans hn)
 refine ⟨ds, [], p ++ [], [], p, [], hW', ?_, ?_, ?_, Below.frame hx _, fun h => by cases h⟩
 ·rw [f1, hr]
  exact trodAll_mk1 (shut_bool hB _)
 ·rw [f2]
  exact zwB hl hx hp hA fun x hxp => by simpa using hW'.lt x (by simp [hxp])
 ·rw [f3, hv]; exact rfl
variable {b0 : Nat} {T E : TypeId} {v : Value}
theorem yqJ {fits : TypeId → Bool} : ∀ {d : Nat} {e : TypeId} {count off n : Nat}, rowAt P fits d e count off n = true → off ≤ count * P.cellsOf e
 | 0, _, _, _, _, h => by simp [rowAt] at h
 | d + 1, e, count, off, n, h => by
  unfold rowAt at h
  by_cases hs : P.cellsOf e = 0
  ·simp [hs] at h
  ·have hd := Nat.div_add_mod off (P.cellsOf e)
   have hm := Nat.mod_lt off (Nat.pos_of_ne_zero hs)
   simp only [hs, if_false, Bool.or_eq_true, Bool.and_eq_true, decide_eq_true_eq, beq_iff_eq] at h
   rcases h with ⟨⟨h1, h2⟩, _⟩ | ⟨h1, _⟩
   ·have h3 : P.cellsOf e * (off / P.cellsOf e) ≤ P.cellsOf e * count := Nat.mul_le_mul_left _ (by omega)
    rw [Nat.mul_comm count]; omega
   ·have h3 : P.cellsOf e * (off / P.cellsOf e + 1) ≤ P.cellsOf e * count := Nat.mul_le_mul_left _ (by omega)
    rw [Nat.mul_add, Nat.mul_one] at h3
    rw [Nat.mul_comm count]; omega
theorem ycB : ∀ {d : Nat} {e : TypeId} {count off : Nat} {u : TypeId} {n : Nat}, liesAt P d e count off u n = true → off ≤ count * P.cellsOf e
 | 0, _, _, _, _, _, h => by simp [liesAt] at h
 | d + 1, e, count, off, u, n, h => by
  unfold liesAt at h
  rw [Bool.or_eq_true] at h
  rcases h with h | h
  ·exact yqJ h
  ·split at h
   ·exact ycB h
   ·cases h
theorem ypP {a : Addr} {len cap : Nat} (hu : P.underlying T = some (.slice E)) (h : Value.okWide P W .any b0 T (.slice (some a) len cap)) :
  a.spot = none ∧ ∃ cs R fz, W.heap[a.block]? = some (.cells cs R fz) ∧ a.off ≤ cs.size := by
 simp only [Value.okWide, Cell.okWide, Cell.ok, hu] at h
 obtain ⟨_, _, _, h2, row, cells, h3, h4⟩ := h
 refine ⟨h2, ?_⟩
 unfold World.shape? at h3
 split at h3
 ·rename_i c elem fz hb
  simp only [Option.some.injEq, Prod.mk.injEq] at h3
  obtain ⟨rfl, rfl⟩ := h3
  have h5 := ycB h4
  have h6 := Nat.div_mul_le_self c.size (P.cellsOf elem)
  exact ⟨c, _, fz, hb, by omega⟩
 ·cases h3
theorem ok_slice (hu : P.underlying T = some (.slice E)) (h : Value.okWide P W .any b0 T v) : v = .slice none 0 0 ∨ ∃ a len cap, v = .slice (some a) len cap := by
 simp only [Value.okWide, Cell.okWide, Cell.ok, hu] at h
 cases v with
 | slice a len cap =>
  cases a with
  | none =>
   left
   cases len with
   | zero => cases cap with
    | zero => rfl
    | succ n => simp at h
   | succ n => simp at h
  | some a => exact .inr ⟨a, len, cap, rfl⟩
 | _ => simp at h
theorem yfF {l r : List (DataW H)} : Rows.uptoBulkAll (l ++ r) = Rows.uptoBulkAll l + Rows.uptoBulkAll r := by
 induction l with
 | nil => simp [Rows.uptoBulkAll]
 | cons x l ih => simp only [List.cons_append, Rows.uptoBulkAll, ih]; omega
end
end
end Go.Proofs.YtebbcofojchkpaaGreatDoor
namespace Go.Proofs.YtebbcofojchkpaaGreatDoor.Am
open Go Go.RowKit Go.ChangeShapes Go.WideShapes Go.ChangeAt
def dsz : (t : Ty) → den t → Nat
 | .s, x => List.length x + 1
 | .pr a c, x => dsz a x.1 + dsz c x.2
 | .un, _ => 0
 | .sl e, x => (List.map (dsz e) x).sum + 1
 | _, _ => 1
def fOk (q : TypeId → Ty → Bool) (c : TypeId → Nat) : List Field → Nat → Ty → Bool
 | [], _, t => match t with
  | .un => true
  | _ => false
 | [f], off, t => (q f.type t && (Nat.beq f.offset off && Nat.beq (c f.type) (tsz t))) || (match t with
  | .pr a .un => q f.type a && (Nat.beq f.offset off && Nat.beq (c f.type) (tsz a))
  | _ => false)
 | f :: g :: fs, off, t => match t with
  | .pr a r => (q f.type a && (Nat.beq f.offset off && Nat.beq (c f.type) (tsz a))) && fOk q c (g :: fs) (off + tsz a) r
  | _ => false
def tyOk (P : Program) : Nat → TypeId → Ty → Bool
 | 0, _, _ => false
 | n + 1, T, t => match P.underlying T, t with
  | some (.int k), .i k' => (ikEq k k').isSome
  | some .bool, .b => true
  | some .string, .s => true
  | some (.slice E), .sl e => tyOk P n E e && (Nat.beq (P.cellsOf E) (tsz e) && Nat.blt 0 (tsz e))
  | some (.struct fs), t => (Nat.beq (P.cellsOf T) (tsz t) && !(one t)) && fOk (tyOk P n) P.cellsOf fs.toList 0 t
  | _, _ => false
section
variable {H : Type} {enc : TypeId × Value → H} {P : Program} {W : World} {sp : Nat → Bool} {S : Mem}
theorem yzW : ∀ {k : IntKind} {n : Int}, (Lit.int k n).wf = true → toI k (ofI k n) = n := fun {k n} h => by
 rw [ynL]
 cases k <;> simp [Lit.wf, IntKind.has, IntKind.min, IntKind.max, IntKind.signed, IntKind.bits] at h <;> simp [IntKind.wrap, IntKind.signed, IntKind.bits] <;> omega
theorem ybY {a c : Ty} {cs : LV} {x : den a} {y : den c} (hx : rep a S (cs.take (tsz a)) x) (hy : rep c S (cs.drop (tsz a)) y) : rep (.pr a c) S cs (x, y) :=
 ⟨_, _, (List.take_append_drop (tsz a) cs).symm, hx, hy⟩
theorem ysZ : rep .un S ([] : LV) () := rfl
theorem yaL {q : TypeId → Ty → Bool} {fuel : Nat} (hq : ∀ (T : TypeId) (t : Ty), q T t = true → ∀ cs d ps, DataW.trod enc P W 0 sp true fuel T cs = some (d, ps) → ∃ x : den t, rep t S cs x ∧ dsz t x ≤ Rows.uptoBulk d) {cs : LV} :
  ∀ (fs : List Field) (off : Nat) (t : Ty) (xs : List (DataW H × List MemPlace)), fOk q P.cellsOf fs off t = true → cs.length = off + tsz t →
   A2 (fun (f : Field) y => DataW.trod enc P W 0 sp true fuel f.type ((cs.drop f.offset).take (P.cellsOf f.type)) = some y) fs xs →
   ∃ x : den t, rep t S (cs.drop off) x ∧ dsz t x ≤ Rows.uptoBulkAll (xs.map (·.1))
 | [], off, t, xs, h, hl, hA => by
  cases t <;> simp only [fOk] at h <;> try (cases h; done)
  cases hA
  refine ⟨(), ?_, Nat.zero_le _⟩
  rw [List.drop_eq_nil_of_le (by rw [hl]; exact Nat.le_refl _)]
  exact ysZ
 | [f], off, t, xs, h, hl, hA => by
  cases hA with
  | @cons _ y _ _ h1 h2 =>
   cases h2
   simp only [fOk, Bool.or_eq_true] at h
   rcases h with h | h
   ·rw [Bool.and_eq_true, Bool.and_eq_true] at h
    obtain ⟨h0, h2, h3⟩ := h
    have h2 := Nat.eq_of_beq_eq_true h2
    have h3 := Nat.eq_of_beq_eq_true h3
    obtain ⟨x, hx, hd⟩ := hq _ _ h0 _ _ _ h1
    refine ⟨x, ?_, by simp only [List.map_cons, List.map_nil, Rows.uptoBulkAll]; omega⟩
    rw [h2, h3, List.take_of_length_le (by rw [List.length_drop]; omega)] at hx
    exact hx
   ·cases t with
    | pr a c =>
     cases c with
     | un =>
      rw [Bool.and_eq_true, Bool.and_eq_true] at h
      obtain ⟨h0, h2, h3⟩ := h
      have h2 := Nat.eq_of_beq_eq_true h2
      have h3 := Nat.eq_of_beq_eq_true h3
      obtain ⟨x, hx, hd⟩ := hq _ _ h0 _ _ _ h1
      rw [h2, h3] at hx
      have hl : cs.length = off + tsz a := hl
      refine ⟨(x, ()), ybY hx ?_, by simp only [List.map_cons, List.map_nil, Rows.uptoBulkAll]; show dsz a x + 0 ≤ _; omega⟩
      rw [List.drop_eq_nil_of_le (by rw [List.length_drop]; omega)]
      exact ysZ
     | _ => simp at h
    | _ => simp at h
 | f :: g :: fs, off, t, xs, h, hl, hA => by
  cases t with
  | pr a r =>
   simp only [fOk] at h
   rw [Bool.and_eq_true, Bool.and_eq_true, Bool.and_eq_true] at h
   obtain ⟨⟨h1, h2, h3⟩, h4⟩ := h
   have h2 := Nat.eq_of_beq_eq_true h2
   have h3 := Nat.eq_of_beq_eq_true h3
   have hl : cs.length = off + (tsz a + tsz r) := hl
   cases hA with
   | @cons _ y _ ys g1 g2 =>
    obtain ⟨x, hx, hd⟩ := hq _ _ h1 _ _ _ g1
    obtain ⟨z, hz, he⟩ := yaL hq (g :: fs) (off + tsz a) r ys h4 (by omega) g2
    rw [h2, h3] at hx
    refine ⟨(x, z), ybY hx (by rw [List.drop_drop]; exact hz), ?_⟩
    simp only [List.map_cons, Rows.uptoBulkAll]
    show dsz a x + dsz r z ≤ _
    omega
  | _ => simp [fOk] at h
theorem yrU {α β : Type} {R : α → β → Prop} : ∀ {l : List α} {m : List β}, l.length = m.length → (∀ (i : Nat) (a : α) (b : β), l[i]? = some a → m[i]? = some b → R a b) → A2 R l m
 | [], [], _, _ => .nil
 | [], _ :: _, h, _ => by cases h
 | _ :: _, [], h, _ => by cases h
 | a :: l, b :: m, h, hR => .cons (hR 0 a b rfl rfl) (yrU (by simpa using h) fun i a b ha hb => hR (i + 1) a b (by simpa using ha) (by simpa using hb))
theorem ymS {e : Ty} : ∀ {xs : List (den e)} {cs ds : LV} {x : den e}, @RL (den e) (rpD e) S cs xs → rep e S ds x → @RL (den e) (rpD e) S (cs ++ ds) (xs ++ [x])
 | [], cs, ds, x, h, hx => by
  have h : cs = [] := h
  subst h
  exact ⟨ds, [], by simp, hx, rfl⟩
 | y :: xs, cs, ds, x, h, hx => by
  obtain ⟨c, d, rfl, h1, h2⟩ := h
  exact ⟨c, d ++ ds, by simp, h1, ymS h2 hx⟩
theorem xcG {T E : TypeId} {e : Ty} {fuel : Nat} (hu : P.underlying T = some (.slice E)) (hc : P.cellsOf E = tsz e) (hz : 0 < tsz e) (hq : ∀ (m : Nat) (cs : LV) (d : DataW H) (ps : List MemPlace), DataW.trod enc P W 0 (fun _ => true) true m E cs = some (d, ps) → ∃ x : den e, rep e (zmZ W) cs x ∧ dsz e x ≤ Rows.uptoBulk d) {cs : LV} {d : DataW H} {ps : List MemPlace} (hd : DataW.trod enc P W 0 (fun _ => true) true fuel T cs = some (d, ps)) :
  ∃ xs : List (den e), rep (.sl e) (zmZ W) cs xs ∧ dsz (.sl e) xs ≤ Rows.uptoBulk d := by
 rcases DataW.trod_slice hu hd with ⟨rfl, h2⟩ | ⟨a, len, cap, elems, rest, m, rfl, rfl, h2, _, hlc, _, hel, hget, hrest, _⟩
 ·cases h2
  exact ⟨[], ⟨_, rfl, [], .inl ⟨⟨none, rfl⟩, rfl, rfl⟩, rfl⟩, Nat.le_refl _⟩
 ·cases h2
  by_cases hcap : cap = 0
  ·subst hcap
   obtain rfl : len = 0 := by omega
   refine ⟨[], ⟨_, rfl, [], .inl ⟨⟨some a, rfl⟩, rfl, rfl⟩, rfl⟩, ?_⟩
   show 0 + 1 ≤ _
   simp only [Rows.uptoBulk]
   omega
  have h0 : ∃ us, W.cells? 0 a (P.cellsOf E) = some us := by
   by_cases hl0 : len = 0
   ·subst hl0
    obtain ⟨g1, g2⟩ := hrest rfl
    have g3 := g2 0 (by omega)
    rw [List.getElem?_eq_getElem (by omega : 0 < rest.length)] at g3
    obtain ⟨us, hus, _⟩ := Option.bind_eq_some_iff.1 g3
    rw [show a.add ((0 + 0) * P.cellsOf E) = a by simp [Addr.add]] at hus
    exact ⟨us, hus⟩
   ·have g3 := hget 0 (by omega)
    rw [List.getElem?_eq_getElem (by omega : 0 < elems.length)] at g3
    obtain ⟨us, hus, _⟩ := Option.bind_eq_some_iff.1 g3
    rw [show a.add (0 * P.cellsOf E) = a by simp [Addr.add]] at hus
    exact ⟨us, hus⟩
  obtain ⟨us, hus⟩ := h0
  obtain ⟨_, hul, huc⟩ := World.cells?_some hus
  have hc0 := huc 0 (by omega)
  rw [show a.add 0 = a by simp [Addr.add], List.getElem?_eq_getElem (by omega : 0 < us.length)] at hc0
  obtain ⟨blk, off, spot⟩ := a
  obtain ⟨cs, R, fz, hb, hsp, ho⟩ : ∃ cs R fz, W.heap[blk]? = some (.cells cs R fz) ∧ spot = none ∧ off ≤ cs.size := by
   unfold World.cell? at hc0
   dsimp only at hc0
   split at hc0
   ·rename_i c R fz hb
    cases spot with
    | some s => simp at hc0
    | none =>
     rw [if_neg (by simp)] at hc0
     have := (Array.getElem?_eq_some_iff.1 hc0).1
     exact ⟨c, R, fz, hb, rfl, Nat.le_of_lt this⟩
   ·cases hc0
  subst hsp
  have ad : ∀ j, (⟨blk, off, none⟩ : Addr).add j = ⟨blk, off + j, none⟩ := fun j => by simp [Addr.add]
  have each : ∀ i, i < len → ∃ y x, elems[i]? = some y ∧ rep e (zmZ W) (piece cs.toList (off + i * tsz e) (tsz e)) x ∧ dsz e x ≤ Rows.uptoBulk y.1 ∧ off + (i + 1) * tsz e ≤ cs.toList.length := fun i hi => by
   have hg := hget i hi
   obtain ⟨y, hy⟩ : ∃ y, elems[i]? = some y := ⟨_, List.getElem?_eq_getElem (by omega)⟩
   rw [hy] at hg
   obtain ⟨us, hus, hg⟩ := Option.bind_eq_some_iff.1 hg
   obtain ⟨_, hul, huc⟩ := World.cells?_some hus
   obtain ⟨x, hx, hdx⟩ := hq m us y.1 y.2 hg
   rw [hc, ad] at huc
   rw [hc] at hul
   have hcell : ∀ j, j < tsz e → cs.toList[off + i * tsz e + j]? = us[j]? := fun j hj => by
    have := huc j hj
    rw [show (⟨blk, off + i * tsz e, none⟩ : Addr).add j = ⟨blk, off + i * tsz e + j, none⟩ by simp [Addr.add]] at this
    simp only [World.cell?, hb, Option.isSome_none, if_neg (show ¬ (false = true) by decide)] at this
    simpa using this
   have hlen : off + (i + 1) * tsz e ≤ cs.toList.length := by
    have h1 := hcell (tsz e - 1) (by omega)
    rw [List.getElem?_eq_getElem (by omega : tsz e - 1 < us.length)] at h1
    have := (List.getElem?_eq_some_iff.1 h1).1
    rw [Nat.add_mul]; omega
   refine ⟨y, x, hy, ?_, hdx, hlen⟩
   have : piece cs.toList (off + i * tsz e) (tsz e) = us := by
    apply List.ext_getElem?
    intro j
    rw [zaI, List.getElem?_take]
    by_cases hj : j < tsz e
    ·rw [if_pos hj, List.getElem?_drop]; exact hcell j hj
    ·rw [if_neg hj, List.getElem?_eq_none (by omega)]
   rw [this]; exact hx
  have key : ∀ k, k ≤ len → ∃ xs : List (den e), xs.length = k ∧ @RL (den e) (rpD e) (zmZ W) (piece cs.toList off (k * tsz e)) xs ∧ (List.map (dsz e) xs).sum ≤ Rows.uptoBulkAll ((elems.take k).map (·.1)) := by
   intro k
   induction k with
   | zero => intro _; exact ⟨[], rfl, by simp [piece, RL], Nat.zero_le _⟩
   | succ k ih =>
    intro hk
    obtain ⟨xs, h1, h2, h3⟩ := ih (by omega)
    obtain ⟨y, x, g1, g2, g3, _⟩ := each k (by omega)
    refine ⟨xs ++ [x], by simp [h1], ?_, ?_⟩
    ·have e2 : piece cs.toList off ((k + 1) * tsz e) = piece cs.toList off (k * tsz e) ++ piece cs.toList (off + k * tsz e) (tsz e) := by
      rw [zaI, zaI, zaI, Nat.add_mul, Nat.one_mul, List.take_add, List.drop_drop]
     rw [e2]
     exact ymS h2 g2
    ·rw [List.take_add_one, g1]
     simp only [Option.toList_some, List.map_append, List.map_cons, List.map_nil, List.sum_append, List.sum_cons, List.sum_nil, yfF, Rows.uptoBulkAll]
     omega
  obtain ⟨xs, h1, h2, h3⟩ := key len (Nat.le_refl _)
  have hfit : off + len * tsz e ≤ cs.toList.length := by
   rcases Nat.eq_zero_or_pos len with h0 | h0
   ·subst h0; rw [Array.length_toList]; omega
   ·obtain ⟨_, _, _, _, _, h4⟩ := each (len - 1) (by omega)
    rwa [Nat.sub_add_cancel h0] at h4
  refine ⟨xs, ⟨_, rfl, piece cs.toList off (len * tsz e), ?_, h2⟩, ?_⟩
  ·right
   refine ⟨blk, off, cap, cs.toList, R, fz, ?_, by rw [h1]; exact hlc, by simpa [zmZ] using hb, ?_, ?_⟩
   ·rw [h1]
   ·rw [h1]; show _ + _ * (rpD e).sz ≤ _; rw [zjD]; exact hfit
   ·rw [h1]; show piece _ _ (_ * (rpD e).sz) = _; rw [zjD]
  ·rw [List.take_of_length_le (by omega)] at h3
   show (List.map (dsz e) xs).sum + 1 ≤ _
   simp only [Rows.uptoBulk]
   omega
theorem zzX : ∀ (n : Nat) (T : TypeId) (t : Ty), tyOk P n T t = true → ∀ (fuel : Nat) (cs : LV) (d : DataW H) (ps : List MemPlace), DataW.trod enc P W 0 (fun _ => true) true fuel T cs = some (d, ps) → ∃ x : den t, rep t (zmZ W) cs x ∧ dsz t x ≤ Rows.uptoBulk d
 | 0, _, _, h, _, _, _, _, _ => by cases h
 | n + 1, T, t, h, fuel, cs, d, ps, hd => by
  unfold tyOk at h
  split at h
  ·rename_i k k' hu
   obtain ⟨hk, _⟩ := Option.isSome_iff_exists.1 h
   obtain rfl := hk.down
   obtain ⟨m, rfl, he, hw⟩ := DataW.trod_int hu hd
   cases he
   exact ⟨ofI _ m, (by show [Value.int _ m] = [.int _ (toI _ (ofI _ m))]; rw [yzW hw]), Nat.le_refl 1⟩
  ·rename_i hu
   obtain ⟨b, rfl, he⟩ := DataW.trod_bool hu hd
   cases he
   exact ⟨b, rfl, Nat.le_refl 1⟩
  ·rename_i hu
   obtain ⟨s, rfl, he, _⟩ := DataW.trod_string hu hd
   cases he
   exact ⟨s.data.toList, (by show [Value.string s] = [str s.data.toList]; simp [str]), Nat.le_refl _⟩
  ·rename_i E e hu
   rw [Bool.and_eq_true, Bool.and_eq_true] at h
   obtain ⟨h1, h2, h3⟩ := h
   exact xcG hu (Nat.eq_of_beq_eq_true h2) (by rw [ziQ] at h3; simpa using h3) (fun m cs d ps hd => zzX n E e h1 m cs d ps hd) hd
  ·rename_i fs hu
   rw [Bool.and_eq_true, Bool.and_eq_true] at h
   obtain ⟨⟨h1, _⟩, h2⟩ := h
   have h1 := Nat.eq_of_beq_eq_true h1
   obtain ⟨xs, fuel, rfl, he, hl, hxl, hm⟩ := DataW.trod_struct hu hd
   cases he
   obtain ⟨x, hx, hb⟩ := yaL (S := zmZ W) (fuel := fuel) (fun T' t' hq cs d ps => zzX n T' t' hq fuel cs d ps) fs.toList 0 _ xs h2 (by rw [hl, h1]; omega) (yrU (by simp [hxl]) fun i f y hf hy => (hm i f (by simpa using hf)).trans hy)
   exact ⟨x, by simpa using hx, by simp only [Rows.uptoBulk]; omega⟩
  ·cases h
variable {b0 : Nat} {T E : TypeId} {v : Value}
theorem ypV {n : Nat} {e : Ty} (hu : P.underlying T = some (.slice E)) (he : tyOk P n E e = true) (hc : P.cellsOf E = tsz e) (hz : 0 < tsz e) (h : Value.okWide P W .any b0 T v) {d : DataW H} {ps : List MemPlace} (hd : DataW.Trod enc P W 0 (fun _ => true) true T v d ps) :
  ∃ xs : List (den e), @RdS (den e) (rpD e) (zmZ W) v xs ∧ dsz (.sl e) xs ≤ Rows.uptoBulk d := by
 obtain ⟨fuel, hf⟩ := hd
 have hv := ok_slice hu h
 have hcells : v.cells.toList = [v] := by
  rcases hv with rfl | ⟨a, len, cap, rfl⟩ <;> rfl
 rw [hcells] at hf
 rcases DataW.trod_slice hu hf with ⟨h1, h2⟩ | ⟨a, len, cap, elems, rest, m, rfl, h1, h2, _, hlc, _, hel, hget, _, _⟩
 ·simp only [List.cons.injEq, and_true] at h1
  subst h1
  cases h2
  exact ⟨[], ⟨[], .inl ⟨⟨none, rfl⟩, rfl, rfl⟩, rfl⟩, Nat.le_refl _⟩
 ·simp only [List.cons.injEq, and_true] at h1
  subst h1
  cases h2
  obtain ⟨hsp, cs, R, fz, hb, ho⟩ := ypP hu h
  obtain ⟨blk, off, spot⟩ := a
  dsimp only at hsp hb ho
  subst hsp
  have ad : ∀ j, (⟨blk, off, none⟩ : Addr).add j = ⟨blk, off + j, none⟩ := fun j => by simp [Addr.add]
  have each : ∀ i, i < len → ∃ y x, elems[i]? = some y ∧ rep e (zmZ W) (piece cs.toList (off + i * tsz e) (tsz e)) x ∧ dsz e x ≤ Rows.uptoBulk y.1 ∧ off + (i + 1) * tsz e ≤ cs.toList.length := fun i hi => by
   have hg := hget i hi
   obtain ⟨y, hy⟩ : ∃ y, elems[i]? = some y := ⟨_, List.getElem?_eq_getElem (by omega)⟩
   rw [hy] at hg
   obtain ⟨us, hus, hg⟩ := Option.bind_eq_some_iff.1 hg
   obtain ⟨_, hul, huc⟩ := World.cells?_some hus
   obtain ⟨x, hx, hdx⟩ := zzX n E e he m us y.1 y.2 hg
   rw [hc, ad] at huc
   rw [hc] at hul
   have hcell : ∀ j, j < tsz e → cs.toList[off + i * tsz e + j]? = us[j]? := fun j hj => by
    have := huc j hj
    rw [show (⟨blk, off + i * tsz e, none⟩ : Addr).add j = ⟨blk, off + i * tsz e + j, none⟩ by simp [Addr.add]] at this
    simp only [World.cell?, hb, Option.isSome_none, if_neg (show ¬ (false = true) by decide)] at this
    simpa using this
   have hlen : off + (i + 1) * tsz e ≤ cs.toList.length := by
    have h1 := hcell (tsz e - 1) (by omega)
    rw [List.getElem?_eq_getElem (by omega : tsz e - 1 < us.length)] at h1
    have := (List.getElem?_eq_some_iff.1 h1).1
    rw [Nat.add_mul]; omega
   refine ⟨y, x, hy, ?_, hdx, hlen⟩
   have : piece cs.toList (off + i * tsz e) (tsz e) = us := by
    apply List.ext_getElem?
    intro j
    rw [zaI, List.getElem?_take]
    by_cases hj : j < tsz e
    ·rw [if_pos hj, List.getElem?_drop]; exact hcell j hj
    ·rw [if_neg hj, List.getElem?_eq_none (by omega)]
   rw [this]; exact hx
  have key : ∀ k, k ≤ len → ∃ xs : List (den e), xs.length = k ∧ @RL (den e) (rpD e) (zmZ W) (piece cs.toList off (k * tsz e)) xs ∧ (List.map (dsz e) xs).sum ≤ Rows.uptoBulkAll ((elems.take k).map (·.1)) := by
   intro k
   induction k with
   | zero => intro _; exact ⟨[], rfl, by simp [piece, RL], Nat.zero_le _⟩
   | succ k ih =>
    intro hk
    obtain ⟨xs, h1, h2, h3⟩ := ih (by omega)
    obtain ⟨y, x, g1, g2, g3, _⟩ := each k (by omega)
    refine ⟨xs ++ [x], by simp [h1], ?_, ?_⟩
    ·have e2 : piece cs.toList off ((k + 1) * tsz e) = piece cs.toList off (k * tsz e) ++ piece cs.toList (off + k * tsz e) (tsz e) := by
      rw [zaI, zaI, zaI, Nat.add_mul, Nat.one_mul, List.take_add, List.drop_drop]
     rw [e2]
     exact ymS h2 g2
    ·rw [List.take_add_one, g1]
     simp only [Option.toList_some, List.map_append, List.map_cons, List.map_nil, List.sum_append, List.sum_cons, List.sum_nil, yfF, Rows.uptoBulkAll]
     omega
  obtain ⟨xs, h1, h2, h3⟩ := key len (Nat.le_refl _)
  have hfit : off + len * tsz e ≤ cs.toList.length := by
   rcases Nat.eq_zero_or_pos len with h0 | h0
   ·subst h0; rw [Array.length_toList]; omega
   ·obtain ⟨_, _, _, _, _, h4⟩ := each (len - 1) (by omega)
    rwa [Nat.sub_add_cancel h0] at h4
  refine ⟨xs, ⟨piece cs.toList off (len * tsz e), ?_, h2⟩, ?_⟩
  ·right
   refine ⟨blk, off, cap, cs.toList, R, fz, ?_, by rw [h1]; exact hlc, by simpa [zmZ] using hb, ?_, ?_⟩
   ·rw [h1]
   ·rw [h1]; show _ + _ * (rpD e).sz ≤ _; rw [zjD]; exact hfit
   ·rw [h1]; show piece _ _ (_ * (rpD e).sz) = _; rw [zjD]
  ·rw [List.take_of_length_le (by omega)] at h3
   show (List.map (dsz e) xs).sum + 1 ≤ _
   simp only [Rows.uptoBulk]
   omega
def yxP (P : Program) (T : TypeId) (t : Ty) : Bool := match P.underlying T, t with
 | some (.slice E), .sl e => tyOk P 8 E e && (Nat.beq (P.cellsOf E) (tsz e) && Nat.blt 0 (tsz e))
 | _, t => tyOk P 8 T t
theorem xbS {t : Ty} (ha : yxP P T t = true) (h : Value.okWide P W .any b0 T v) {d : DataW H} {ps : List MemPlace} (hd : DataW.Trod enc P W 0 (fun _ => true) true T v d ps) :
  ∃ x : den t, rep1 t (zmZ W) v x ∧ dsz t x ≤ Rows.uptoBulk d := by
 unfold yxP at ha
 split at ha
 ·rename_i E e hu
  rw [Bool.and_eq_true, Bool.and_eq_true] at ha
  obtain ⟨h1, h2, h3⟩ := ha
  obtain ⟨xs, g1, g2⟩ := ypV hu h1 (Nat.eq_of_beq_eq_true h2) (by rw [ziQ] at h3; simpa using h3) h hd
  exact ⟨xs, ⟨v, rfl, g1⟩, g2⟩
 ·obtain ⟨fuel, hf⟩ := hd
  obtain ⟨x, hx, hb⟩ := zzX 8 T _ ha fuel _ _ _ hf
  refine ⟨x, ?_, hb⟩
  unfold rep1
  unfold tyOk at ha
  split at ha
  ·rename_i hu
   have hv : v.cells.toList = [v] := by
    simp only [Value.okWide, hu, Cell.okWide, Cell.ok] at h
    cases v <;> simp_all <;> rfl
   rw [hv] at hx
   rw [if_pos (show one (.i _) = true from rfl)]; exact hx
  ·rename_i hu
   have hv : v.cells.toList = [v] := by
    simp only [Value.okWide, hu, Cell.okWide, Cell.ok] at h
    cases v <;> simp_all <;> rfl
   rw [hv] at hx
   rw [if_pos (show one .b = true from rfl)]; exact hx
  ·rename_i hu
   have hv : v.cells.toList = [v] := by
    simp only [Value.okWide, hu, Cell.okWide, Cell.ok] at h
    cases v <;> simp_all <;> rfl
   rw [hv] at hx
   rw [if_pos (show one .s = true from rfl)]; exact hx
  ·rename_i hu hno
   exact (hno _ _ hu rfl).elim
  ·rename_i fs hu _
   rw [Bool.and_eq_true, Bool.and_eq_true] at ha
   simp only [Value.okWide, hu] at h
   obtain ⟨cs, rfl, _, _⟩ := h
   rw [if_neg (by simpa using ha.1.2)]
   exact ⟨cs.toList, by simp, hx⟩
  ·cases ha
def posT : Ty → Bool
 | .un => false
 | .pr a c => posT a || posT c
 | _ => true
theorem ydJ : ∀ {e : Ty}, posT e = true → ∀ x : den e, 1 ≤ dsz e x
 | .i _, _, _ => Nat.le_refl 1
 | .b, _, _ => Nat.le_refl 1
 | .s, _, _ => Nat.le_add_left 1 _
 | .er, _, _ => Nat.le_refl 1
 | .sl _, _, _ => Nat.le_add_left 1 _
 | .mp _ _, _, _ => Nat.le_refl 1
 | .pr a c, h, x => by
  show 1 ≤ dsz a x.1 + dsz c x.2
  have h : (posT a || posT c) = true := h
  rw [Bool.or_eq_true] at h
  rcases h with h | h
  ·have := ydJ h x.1; omega
  ·have := ydJ h x.2; omega
theorem ylU {e : Ty} (he : posT e = true) : ∀ xs : List (den e), xs.length + 1 ≤ dsz (.sl e) xs
 | [] => Nat.le_refl 1
 | x :: xs => by
  have h1 := ydJ he x
  have h2 : xs.length + 1 ≤ (List.map (dsz e) xs).sum + 1 := ylU he xs
  show (x :: xs).length + 1 ≤ (List.map (dsz e) (x :: xs)).sum + 1
  simp only [List.length_cons, List.map_cons, List.sum_cons]
  omega
theorem xcI {t : Ty} {S : Mem} {E : List EI} {v : Value} {x : den t} (h : rep1 t S v x) : VR S E (svOf t x) v := ykW (l := [t]) h
end
end Go.Proofs.YtebbcofojchkpaaGreatDoor.Am
namespace Go.Proofs.YtebbcofojchkpaaGreatDoor.Am
open Go Go.RowKit
theorem xbK {nx : Int} {es : Es} (h : Ok nx es) {k : Nat} (hk : k < es.length) : es[k].2.1 = es[k].1 := (h.ids _ (List.getElem_mem hk)).1
theorem ysX {e : Ty} {x : den e} : ∀ {xs : List (den e)}, x ∈ xs → dsz e x ≤ dsz (.sl e) xs
 | y :: ys, h => by
  show _ ≤ (List.map (dsz e) (y :: ys)).sum + 1
  simp only [List.map_cons, List.sum_cons]
  rcases List.mem_cons.1 h with rfl | h
  ·omega
  ·have : dsz e x ≤ (List.map (dsz e) ys).sum + 1 := ysX h
   omega
theorem yjO (u : Nat) (hu : u < 1000000000000000) : zfN zaB (Lib.decDigits u) = some (.inr ()) := by
 have hl := ziM 15 u (by decide) hu
 have ht : zaB.trim (Lib.decDigits u) tenL = some [] := ynR u hu
 unfold zfN
 by_cases h0 : u = 0
 ·subst h0
  rw [show Lib.decDigits 0 = [48] by rw [ziP]; rfl] at ht ⊢
  rw [show zaB.trim ([48] : Bs) ([48, 49, 50, 51, 52, 53, 54, 55, 56, 57] : Bs) = some [] from ht]
  rfl
 ·obtain ⟨b, l, h1, h2⟩ := yiG u h0
  rw [h1] at hl ht ⊢
  rw [show ((b :: l : Bs) == []) = false from rfl]
  simp only [cond_false]
  rw [zaR (by simp only [List.length_cons] at hl ⊢; omega), show idx (b :: l) 0 = some b from rfl, zaA]
  have : ((b.toNat : Int) == ((48 : UInt8).toNat : Int)) = false := beq_eq_false_iff_ne.2 fun e => h2 (UInt8.toNat_inj.1 (by exact_mod_cast e))
  rw [this]
  simp only [cond_false]
  rw [show zaB.trim (b :: l) ([48, 49, 50, 51, 52, 53, 54, 55, 56, 57] : Bs) = some [] from ht, zaA]
  rfl
theorem ynJ (u : Nat) (hu : u < 1000000000000000) : zeS zaB (Lib.decDigits u) = some ((u : Int), true) := by
 unfold zeS
 rw [yjO u hu, zaA]
 simp only []
 rw [show zaB.atoi (Lib.decDigits u) = some ((u : Int), false) from ymL u hu, zaA]
 rfl
theorem zwH : ∀ (a b : List Bs), zfW (a ++ b) = zfW a ++ zfW b
 | [], _ => rfl
 | t :: a, b => by
  show Lib.decDigits t.length ++ 58 :: (t ++ zfW (a ++ b)) = (Lib.decDigits t.length ++ 58 :: (t ++ zfW a)) ++ zfW b
  rw [zwH a b]; simp
theorem ylL (ts : List Bs) (hl : (zfW ts).length < 4294967281) (hn : ts.length < 1099511627776) : zhF ts = some (zfW ts) := by
 have key : ∀ (k : Nat), (zfW (ts.take k)).length ≤ (zfW ts).length := fun k => by
  have := zwH (ts.take k) (ts.drop k)
  rw [List.take_append_drop] at this
  rw [this, List.length_append]; omega
 have h : iter (zfS ts) ((((0 : Nat) : Int)), zfW (ts.take 0)) = some (zfW ts) := by
  refine zmC (fun k => ((k : Int), zfW (ts.take k))) ts.length hn (zfW ts) (fun k hk => ?_) ?_
  ·have ht : ts.take (k + 1) = ts.take k ++ [ts[k]] := by rw [List.take_succ_eq_append_getElem hk]
   have e : zfW (ts.take (k + 1)) = zfW (ts.take k) ++ (Lib.decDigits ts[k].length ++ 58 :: ts[k]) := by
    rw [ht, zwH]; simp [zfW]
   have h1 := key (k + 1)
   rw [e] at h1
   simp only [List.length_append, List.length_cons] at h1
   unfold zfS
   simp only []
   rw [zbC (by omega), zdW rfl hk, zaA, zvL _ (by omega), zaA, Am.zmX (by simp only [List.length_cons, List.length_nil]; omega), zaA, Am.zmX (by simp only [List.length_append, List.length_cons, List.length_nil]; omega), zaA]
   unfold zeI
   rw [show zhS (zfW (ts.take k)) = some _ from rfl, zaA, Am.zmX (by simp only [List.length_append, List.length_cons, List.length_nil]; omega), zaA, zaA, ziX (by omega) (by omega), e]
   simp
  ·unfold zfS
   simp only []
   rw [zaR (by omega), List.take_length]
 unfold zhF
 have h : iter (zfS ts) ((0 : Int), ([] : Bs)) = some (zfW ts) := h
 rw [h, zaA, zaA, ycJ (decide_eq_true (by omega)), zaA]
theorem ysT {s : L8} {n : Int} {cs : L8} (h : zdL zaB s n cs = some true) : (s.length : Int) ≤ n := by
 unfold zdL at h
 by_cases hl : (s.length : Int) ≤ n
 ·exact hl
 ·rw [zaR hl] at h
  cases hb : s != ([] : L8) <;> rw [hb] at h <;> cases h
theorem ygI {s : L8} (h : nmB s = true) : s.length ≤ 24 := by
 have h1 := ykT s
 rw [h] at h1
 unfold zcL at h1
 cases ho : zdL zaB s 24 [97, 98, 99, 100, 101, 102, 103, 104, 105, 106, 107, 108, 109, 110, 111, 112, 113, 114, 115, 116, 117, 118, 119, 120, 121, 122, 48, 49, 50, 51, 52, 53, 54, 55, 56, 57, 46, 95, 45] with
 | none => rw [ho] at h1; cases h1
 | some b =>
  rw [ho] at h1
  cases h1
  have := ysT ho
  omega
theorem yjS {s : L8} (h : scB s = true) : s.length ≤ 32 := by
 have h1 := ylV s
 rw [h] at h1
 unfold zdH at h1
 cases ho : zdL zaB s 32 [97, 98, 99, 100, 101, 102, 103, 104, 105, 106, 107, 108, 109, 110, 111, 112, 113, 114, 115, 116, 117, 118, 119, 120, 121, 122, 48, 49, 50, 51, 52, 53, 54, 55, 56, 57, 46, 95, 45, 58] with
 | none => rw [ho] at h1; cases h1
 | some b =>
  rw [ho] at h1
  cases h1
  have := ysT ho
  omega
theorem yqX {s : L8} (h : txB s = true) : s.length ≤ 128 := by
 have h1 := ywQ s
 rw [h] at h1
 unfold zdB at h1
 by_cases hl : (s.length : Int) ≤ 128
 ·omega
 ·rw [zaR hl] at h1
  cases hb : s != ([] : L8) <;> rw [hb] at h1 <;> cases h1
theorem yfT {s : L8} (h : prB s = true) : s.length ≤ 26 := by
 have h1 := yqF s
 rw [h] at h1
 unfold zbA at h1
 by_cases hl : (s.length : Int) > 2
 ·rw [zbC hl, show subH s 2 = some (s.take 2) from znZ (n := 2) (by omega), zaA, show subL s 2 = some (s.drop 2) from znK (n := 2) (by omega)] at h1
  have hd : (s.drop 2).length = s.length - 2 := List.length_drop ..
  simp only [zaA] at h1
  rw [ykT] at h1
  simp only [zaA] at h1
  cases hn : nmB (s.drop 2) with
  | true =>
   have := ygI hn
   omega
  | false =>
   rw [hn] at h1
   cases h2 : s.take 2 == ([117, 58] : L8) <;> cases h3 : s.take 2 == ([99, 58] : L8) <;> rw [h2] at h1 <;> simp only [cond_true, cond_false] at h1 <;> (try rw [h3] at h1) <;> cases h1
 ·rw [zaR hl] at h1
  cases h1
theorem yjP {l : List L8} (hl : l.length ≤ 1048576) : axB l = l.any fun s => !prB s := by
 have h : T (iter (zfI zaB l) (0 : Int)) fun r => match r with
   | .inl i => 0 ≤ i ∧ (l.any fun s => !prB s) = true
   | .inr _ => (l.any fun s => !prB s) = false := by
  refine T.iter (fun x => 0 ≤ x ∧ x ≤ (l.length : Int) ∧ ((l.take x.toNat).any fun s => !prB s) = false) (fun x => l.length - x.toNat) _ (fun x hx => ?_) ⟨Int.le_refl _, by omega, rfl⟩ (by omega)
  obtain ⟨h2, h3, h4⟩ := hx
  obtain ⟨k, rfl⟩ : ∃ k : Nat, x = k := ⟨x.toNat, by omega⟩
  rw [Int.toNat_natCast] at h4
  unfold zfI
  refine T.dif (fun h5 => ?_) fun h5 => T.ok ?_
  ·have hk : k < l.length := by omega
   rw [zdW rfl hk, zaA]
   unfold zhJ
   rw [yqF, zaA, zaA]
   refine T.bif (fun h6 => T.ok ⟨by omega, ykH hk h6⟩) fun h6 => T.ok ⟨⟨?_, ?_, ?_⟩, ?_⟩
   ·rw [zjF (by omega)]; omega
   ·rw [zjF (by omega)]; omega
   ·rw [zjF (by omega), Int.toNat_natCast]
    exact zzQ (p := fun s => !prB s) hk h4 h6
   ·rw [zjF (by omega)]; omega
  ·rw [List.take_of_length_le (by omega)] at h4
   exact h4
 obtain ⟨r, h1, h2⟩ := h
 have h3 := yzC hl
 unfold zaM zgK at h3
 rw [h1, zaA] at h3
 cases r with
 | inl i =>
  simp only [zaA] at h3
  rw [decide_eq_true (show i ≥ 0 from h2.1)] at h3
  rw [← osi h3, h2.2]
 | inr u =>
  simp only [zaA] at h3
  rw [← osi h3, show (l.any fun s => !prB s) = false from h2]
  rfl
theorem ynO {l : List L8} : ∀ (f i : Nat), f + i = l.length → scpF l f i = true → ∀ k, i ≤ k → (hk : k < l.length) → scB l[k] = true
 | 0, i, hf, _, k, hi, hk => by omega
 | f + 1, i, hf, h, k, hi, hk => by
  have hil : i < l.length := by omega
  unfold scpF at h
  rw [List.getElem?_eq_getElem hil] at h
  simp only [Bool.and_eq_true] at h
  by_cases e : k = i
  ·subst e; exact h.1.1
  ·exact ynO f (i + 1) (by omega) h.2 k (by omega) hk
theorem yjH (l : List (List L8)) (h : l.flatten.length ≤ 1000000) (hn : l.length ≤ 1000000) : ziW zaB l = some l.flatten := by
 have hp : ∀ k, (l.take k).flatten.length ≤ l.flatten.length := fun k => by
  have e : l.flatten = (l.take k).flatten ++ (l.drop k).flatten := by rw [← List.flatten_append, List.take_append_drop]
  rw [e, List.length_append]
  omega
 have hs : ∀ (k : Nat) (hk : k < l.length), (l.take (k + 1)).flatten = (l.take k).flatten ++ l[k] := fun k hk => by
  rw [List.take_succ_eq_append_getElem hk, List.flatten_append, List.flatten_singleton]
 have hI : iter (fun x => zhL zaB l x.1 x.2) ((0 : Int), (0 : Int)) = some (l.flatten.length : Int) := by
  refine zmC (fun k => (((l.take k).flatten.length : Int), (k : Int))) l.length (by omega) _ (fun k hk => ?_) ?_
  ·have h1 := hp (k + 1)
   rw [hs k hk, List.length_append] at h1
   unfold zhL
   simp only []
   rw [zbC (by omega), zdW rfl hk, zaA, ziX (by omega) (by omega), zaR (by omega), zjF (by omega), hs k hk, List.length_append]
   simp only [Int.natCast_add]
  ·unfold zhL
   simp only []
   rw [zaR (by omega), List.take_of_length_le (Nat.le_refl _)]
 have hI2 : iter (fun x => zhP zaB l x.1 x.2) ((0 : Int), ([] : List L8)) = some l.flatten := by
  refine zmC (fun k => ((k : Int), (l.take k).flatten)) l.length (by omega) _ (fun k hk => ?_) ?_
  ·have h1 := hp (k + 1)
   rw [hs k hk, List.length_append] at h1
   unfold zhP
   simp only []
   rw [zbC (by omega), zdW rfl hk, zaA, zmX (by omega), zaA, zjF (by omega), hs k hk]
  ·unfold zhP
   simp only []
   rw [zaR (by omega), List.take_of_length_le (Nat.le_refl _)]
 unfold ziW
 rw [show iter _ ((0 : Int), (0 : Int)) = _ from hI, zaA]
 unfold ygV
 rw [decide_eq_true (show (0 : Int) ≤ (l.flatten.length : Int) by omega), decide_eq_true (show (l.flatten.length : Int) ≤ 1048576 by omega)]
 simp only [Bool.and_self, cond_true, zaA]
 exact bind_ok hI2
theorem ygD (m : Nat) (hm : m < 1000000) : ∀ (ts : List L8), (∀ t ∈ ts, t.length ≤ m) → (zfW ts).length ≤ ts.length * (m + 16)
 | [], _ => Nat.zero_le _
 | t :: ts, h => by
  have h1 := ygD m hm ts fun t ht => h t (List.mem_cons_of_mem _ ht)
  have h2 := h t List.mem_cons_self
  have h3 := ziM 15 t.length (by decide) (by omega)
  simp only [zfW, List.length_append, List.length_cons, Nat.add_mul]
  omega
abbrev decI (x : Int) : L8 := Lib.decDigits x.toNat
def zzH (b : Bool) : L8 := bif b then [49] else [48]
def zlV (n : Nd) : List L8 := ([([decI n.2.1, decI n.2.2.1, n.2.2.2.1, n.2.2.2.2.1, n.2.2.2.2.2.1] : List L8), Lib.decDigits (zdA n).length :: zdA n, ([decI n.2.2.2.2.2.2.2.1, decI (nexp n), zzH (ygU n), zzH (zxR n)] : List L8), Lib.decDigits (nact n).length :: nact n, ([decI (nlev n), nsec n, ypI n] : List L8)] : List (List L8)).flatten
def padE (i : Int) : L8 := Lib.repeatL [48] (8 - (decI i).length) ++ decI i
def rowE (p : Int × Nd) : L8 × L8 := ([110, 111, 100, 101, 47] ++ padE p.1, zfW (zlV p.2))
def yqZ (nx : Int) (es : Es) : List (L8 × L8) := ([102, 111, 114, 101, 115, 116], zfW [decI nx]) :: es.map rowE
theorem zuT {x : Int} (h0 : 0 ≤ x) (h : x < 9223372036854775808) : zaB.itoa x = some (decI x) := by
 obtain ⟨k, rfl⟩ : ∃ k : Nat, x = k := ⟨x.toNat, by omega⟩
 exact zvL k (by omega)
theorem yfV {n : Nd} (h : mayB n = true) : (1 ≤ n.2.1 ∧ n.2.1 ≤ 5) ∧ (0 ≤ n.2.2.2.2.2.2.2.1 ∧ n.2.2.2.2.2.2.2.1 ≤ 1099511627776) ∧ (0 ≤ nexp n ∧ nexp n ≤ 1099511627776) ∧ (0 ≤ nlev n ∧ nlev n ≤ 3) := by
 unfold mayB inB at h
 simp only [Bool.and_eq_true, decide_eq_true_eq] at h
 exact ⟨by omega, by omega, ⟨h.1.1.1.1.1.2.1, h.1.1.1.1.1.2.2⟩, ⟨show 0 ≤ n.2.2.2.2.2.2.2.2.2.2.2.2.1 by omega, show n.2.2.2.2.2.2.2.2.2.2.2.2.1 ≤ 3 by omega⟩⟩
theorem ylQ {n : Nd} (h : mayB n = true) : n.2.2.2.1.length ≤ 26 ∧ n.2.2.2.2.1.length ≤ 24 ∧ n.2.2.2.2.2.1.length ≤ 128 ∧ (∀ s ∈ zdA n, s.length ≤ 32) ∧ ∀ s ∈ nact n, s.length ≤ 26 := by
 have hl := zpP h
 unfold mayB at h
 simp only [Bool.and_eq_true] at h
 obtain ⟨⟨⟨⟨⟨⟨⟨⟨⟨⟨⟨⟨⟨h1, h2⟩, h3⟩, h4⟩, h5⟩, h6⟩, h7⟩, h8⟩, h9⟩, h10⟩, h11⟩, h12⟩, h13⟩, h14⟩ := h
 refine ⟨yfT h4, ?_, ?_, fun s hs => ?_, fun s hs => ?_⟩
 ·rcases Bool.or_eq_true _ _ ▸ h5 with h5 | h5
  ·rw [beq_iff_eq.1 h5]; exact Nat.zero_le _
  ·exact ygI h5
 ·rcases Bool.or_eq_true _ _ ▸ h6 with h6 | h6
  ·rw [beq_iff_eq.1 h6]; exact Nat.zero_le _
  ·exact yqX h6
 ·obtain ⟨k, hk, rfl⟩ := List.getElem_of_mem hs
  exact yjS (ynO _ 0 (by omega) h1 k (Nat.zero_le _) hk)
 ·rw [yjP (by omega)] at h11
  have h11 : ((nact n).any fun s => !prB s) = false := by simpa using h11
  rw [List.any_eq_false] at h11
  have := h11 s hs
  exact yfT (by simpa using this)
theorem yaI {l : List L8} (h : l.length ≤ 1048576) : zgQ zaB l = some (Lib.decDigits l.length :: l) := by
 unfold zgQ
 rw [show zaB.itoa (l.length : Int) = some (Lib.decDigits l.length) from zvL _ (by omega), zaA, zmX (by simp; omega), zaA]
 rfl
theorem ykQ (b : Bool) : zlH zaB b = some (zzH b) := by cases b <;> rfl
theorem dec8 {i : Int} (h0 : 0 ≤ i) (h : i < 100000000) : (decI i).length ≤ 8 := ziM 8 i.toNat (by decide) (by omega)
theorem zvF {n : Nd} (h : mayB n = true) : (zlV n).length ≤ 34 := by
 have hl := zpP h
 unfold zlV
 simp only [List.flatten_cons, List.flatten_nil, List.length_append, List.length_cons, List.length_nil]
 omega
theorem zpV (x : Int) (h : x < 1000000000000000) : (decI x).length ≤ 15 := by
 by_cases h0 : 0 ≤ x
 ·exact ziM 15 x.toNat (by decide) (by omega)
 ·rw [decI, show x.toNat = 0 by omega]; exact ziM 15 0 (by decide) (by decide)
theorem yhL {n : Nd} (h : mayB n = true) (hp : npar n < 100000000) : ∀ t ∈ zlV n, t.length ≤ 256 := by
 have hl := zpP h
 have hn := yfV h
 have ht := ylQ h
 intro t hm
 unfold zlV at hm
 simp only [List.flatten_cons, List.flatten_nil, List.append_nil, List.mem_append, List.mem_cons, List.not_mem_nil, or_false] at hm
 have d1 := zpV n.2.1 (by omega)
 have d2 := zpV n.2.2.1 (by have : n.2.2.1 < 100000000 := hp; omega)
 have d3 := zpV n.2.2.2.2.2.2.2.1 (by omega)
 have d4 := zpV (nexp n) (by omega)
 have d5 := zpV (nlev n) (by omega)
 have d6 := ziM 15 (zdA n).length (by decide) (by omega)
 have d7 := ziM 15 (nact n).length (by decide) (by omega)
 have d8 : ∀ b, (zzH b).length = 1 := fun b => by cases b <;> rfl
 rcases hm with (rfl | rfl | rfl | rfl | rfl) | (rfl | hm) | (rfl | rfl | rfl | rfl) | (rfl | hm) | (rfl | rfl | rfl)
 ·omega
 ·omega
 ·omega
 ·omega
 ·omega
 ·omega
 ·have := ht.2.2.2.1 t hm; omega
 ·omega
 ·omega
 ·rw [d8]; omega
 ·rw [d8]; omega
 ·omega
 ·have := ht.2.2.2.2 t hm; omega
 ·omega
 ·omega
 ·omega
theorem yhU {n : Nd} (h : mayB n = true) (hp : npar n < 100000000) : (zfW (zlV n)).length ≤ 10000 := by
 have h1 := ygD 256 (by decide) (zlV n) (yhL h hp)
 have h2 := zvF h
 have h3 : (zlV n).length * (256 + 16) ≤ 34 * 272 := Nat.mul_le_mul h2 (Nat.le_refl _)
 omega
theorem rows_ok {nx : Int} {es : Es} (h : Ok nx es) : zcC zaB nx es = some (yqZ nx es, nx, es) := by
 have hnx := h.next
 have hlen := h.len
 have hd := zpV nx (by omega)
 unfold zcC
 rw [zuT (by omega) (by omega), zaA, show zaB.form [decI nx] = some (zfW [decI nx]) from ylL [decI nx] (by
  have := ziM 15 (decI nx).length (by decide) (by omega)
  simp only [zfW, List.append_nil, List.length_append, List.length_cons]
  omega) (by simp), zaA, zyX h, zaA]
 have hI : iter (fun x => zeH zaB (nx, es, es.map (·.2)) x.1 x.2.1 x.2.2.1 x.2.2.2.1 x.2.2.2.2) ((0 : Int), nx, es, ([([102, 111, 114, 101, 115, 116], zfW [decI nx])] : List (L8 × L8)), es.map (·.2)) = some (nx, es, yqZ nx es) := by
  refine zmC (fun k => ((k : Int), nx, es, ([102, 111, 114, 101, 115, 116], zfW [decI nx]) :: (es.take k).map rowE, es.map (·.2))) es.length (by omega) _ (fun k hk => ?_) ?_
  ·have hm := h.may _ (List.getElem_mem hk)
   have hid := h.ids _ (List.getElem_mem hk)
   have hpar := h.par _ (List.getElem_mem hk)
   have hl := zpP hm
   have hn := yfV hm
   have hp0 : 0 ≤ es[k].2.2.2.1 := hpar.1
   have hp1 : es[k].2.2.2.1 < es[k].1 := hpar.2
   have ht := yhU hm (by omega)
   have htc := zvF hm
   have he : 0 ≤ es[k].2.2.2.2.2.2.2.2.2.1 ∧ es[k].2.2.2.2.2.2.2.2.2.1 ≤ 1099511627776 := hn.2.2.1
   have hv : 0 ≤ es[k].2.2.2.2.2.2.2.2.2.2.2.2.2.1 ∧ es[k].2.2.2.2.2.2.2.2.2.2.2.2.2.1 ≤ 3 := hn.2.2.2
   have h8 := dec8 (i := es[k].1) (by omega) (by omega)
   unfold zeH
   simp only [List.length_map]
   rw [zbC (show (k : Int) < (es.length : Int) by omega), decide_eq_true (show (0 : Int) ≤ (k : Int) by omega), decide_eq_true (show (k : Int) < (es.length : Int) by omega), Bool.and_self, ycJ rfl, zaA, zdW (i := k) rfl (by rw [List.length_map]; exact hk), zaA, List.getElem_map, xbK h hk]
   rw [zuT (by omega) (by omega), zaA, zuT (by omega) (by omega), zaA, zuT hp0 (by omega), zaA, yaI (Nat.le_trans hl.1 (by decide)), zaA, zuT (by omega) (by omega), zaA, zuT he.1 (by omega), zaA, ykQ, zaA, ykQ, zaA, yaI (Nat.le_trans hl.2.1 (by decide)), zaA, zuT hv.1 (by omega), zaA]
   rw [yjH _ (by show (zlV es[k].2).length ≤ 1000000; omega) (by simp), zaA]
   have hw : w64 ((8 : Int) - ((decI es[k].1).length : Int)) = ((8 - (decI es[k].1).length : Nat) : Int) := by rw [ziX (by omega) (by omega)]; omega
   have hrl : (Lib.repeatL [48] (8 - (decI es[k].1).length)).length = 8 - (decI es[k].1).length := by rw [Lib.repeatL_length]; simp
   rw [hw, zbC (by omega)]
   rw [show zaB.rep [48] ((8 - (decI es[k].1).length : Nat) : Int) = some (Lib.repeatL [48] (8 - (decI es[k].1).length)) from by
    show zsI [48] _ = _
    unfold zsI
    rw [decide_eq_true (show (0 : Int) ≤ ((8 - (decI es[k].1).length : Nat) : Int) by omega), decide_eq_true (show ((8 - (decI es[k].1).length : Nat) : Int) ≤ 1048576 by omega)]
    simp only [List.length_cons, List.length_nil, Int.toNat_natCast]
    rfl, zaA]
   rw [zmX (by simp only [List.length_cons, List.length_nil]; omega), zaA, zmX (by simp only [List.length_append, List.length_cons, List.length_nil]; omega), zaA]
   refine (bind_ok (a := zfW (zlV es[k].2)) (by exact ylL (zlV es[k].2) (by omega) (by omega))).trans ?_
   rw [zmX (by simp; omega), zaA, zjF (by omega), List.take_succ_eq_append_getElem hk, List.map_append, List.cons_append]
   simp only [List.map_cons, List.map_nil, rowE, padE, List.append_assoc]
  ·unfold zeH
   simp only [List.length_map]
   rw [zaR (by omega), List.take_of_length_le (Nat.le_refl _)]
   rfl
 rw [show iter _ _ = _ from hI, zaA]
theorem yoX (n : Nd) : zlV n = decI n.2.1 :: decI n.2.2.1 :: n.2.2.2.1 :: n.2.2.2.2.1 :: n.2.2.2.2.2.1 :: Lib.decDigits (zdA n).length :: (zdA n ++ (decI n.2.2.2.2.2.2.2.1 :: decI (nexp n) :: zzH (ygU n) :: zzH (zxR n) :: Lib.decDigits (nact n).length :: (nact n ++ [decI (nlev n), nsec n, ypI n]))) := by
 unfold zlV
 simp only [List.flatten_cons, List.flatten_nil, List.append_nil, List.cons_append, List.nil_append]
theorem Ok.take {nx : Int} {es : Es} (h : Ok nx es) (k : Nat) : Ok nx (es.take k) where
 rises := h.rises.sublist (List.take_sublist k es)
 ids p hp := h.ids p (List.mem_of_mem_take hp)
 par p hp := h.par p (List.mem_of_mem_take hp)
 may p hp := h.may p (List.mem_of_mem_take hp)
 uniq p hp q hq := h.uniq p (List.mem_of_mem_take hp) q (List.mem_of_mem_take hq)
 next := h.next
 len := Nat.le_trans (List.length_take_le' _ _) h.len
def τWkB : TE := [(3, ⟨.int .i64, 1, [.v (.i .i64) (show Int from 0)], (.i .i64), 8⟩),
 (4, ⟨.b, 1, [.v .b (show Bool from false)], .b, 1⟩),
 (9, ⟨.s, 1, [.v .s (show Bs from [])], .s, 16⟩),
 (22, ⟨.sl 24, 1, [.nils], (.sl (.pr .s .s)), 24⟩),
 (24, ⟨.st [(9, 0), (9, 1)], 2, [.v .s (show Bs from []), .v .s (show Bs from [])], (.pr .s .s), 32⟩),
 (25, ⟨.pt 75, 1, [.nilp], .un, 8⟩),
 (41, ⟨.sl 50, 1, [.nils], (.sl (.pr (.i .i64) (.pr (.i .i64) (.pr (.i .i64) (.pr (.i .i64) (.pr .s (.pr (.i .i64) (.pr (.i .i64) (.pr (.i .i64) (.pr .s (.pr .s (.pr .s (.pr (.sl .s) (.pr (.i .i64) (.pr (.i .i64) (.pr .b (.pr .b (.pr (.sl .s) (.pr (.i .i64) (.pr .s .s)))))))))))))))))))), 24⟩),
 (47, ⟨.st [(3, 0), (3, 1), (3, 2), (9, 3), (9, 4), (9, 5), (45, 6), (3, 7), (3, 8), (4, 9), (4, 10), (45, 11), (3, 12), (9, 13), (9, 14)], 15, [.v (.i .i64) (show Int from 0), .v (.i .i64) (show Int from 0), .v (.i .i64) (show Int from 0), .v .s (show Bs from []), .v .s (show Bs from []), .v .s (show Bs from []), .nils, .v (.i .i64) (show Int from 0), .v (.i .i64) (show Int from 0), .v .b (show Bool from false), .v .b (show Bool from false), .nils, .v (.i .i64) (show Int from 0), .v .s (show Bs from []), .v .s (show Bs from [])], (.pr (.i .i64) (.pr (.i .i64) (.pr (.i .i64) (.pr .s (.pr .s (.pr .s (.pr (.sl .s) (.pr (.i .i64) (.pr (.i .i64) (.pr .b (.pr .b (.pr (.sl .s) (.pr (.i .i64) (.pr .s .s)))))))))))))), 184⟩),
 (50, ⟨.st [(3, 0), (3, 1), (3, 2), (3, 3), (9, 4), (47, 5)], 20, [.v (.i .i64) (show Int from 0), .v (.i .i64) (show Int from 0), .v (.i .i64) (show Int from 0), .v (.i .i64) (show Int from 0), .v .s (show Bs from []), .v (.i .i64) (show Int from 0), .v (.i .i64) (show Int from 0), .v (.i .i64) (show Int from 0), .v .s (show Bs from []), .v .s (show Bs from []), .v .s (show Bs from []), .nils, .v (.i .i64) (show Int from 0), .v (.i .i64) (show Int from 0), .v .b (show Bool from false), .v .b (show Bool from false), .nils, .v (.i .i64) (show Int from 0), .v .s (show Bs from []), .v .s (show Bs from [])], (.pr (.i .i64) (.pr (.i .i64) (.pr (.i .i64) (.pr (.i .i64) (.pr .s (.pr (.i .i64) (.pr (.i .i64) (.pr (.i .i64) (.pr .s (.pr .s (.pr .s (.pr (.sl .s) (.pr (.i .i64) (.pr (.i .i64) (.pr .b (.pr .b (.pr (.sl .s) (.pr (.i .i64) (.pr .s .s))))))))))))))))))), 232⟩),
 (73, ⟨.map 3 81, 1, [.nilm], (.mp (.i .i64) (.pr (.i .i64) (.pr (.i .i64) (.pr (.i .i64) (.pr .s (.pr .s (.pr .s (.pr (.sl .s) (.pr (.i .i64) (.pr (.i .i64) (.pr .b (.pr .b (.pr (.sl .s) (.pr (.i .i64) (.pr .s .s))))))))))))))), 8⟩),
 (75, ⟨.st [(73, 0), (3, 1)], 2, [.nilm, .v (.i .i64) (show Int from 0)], (.pr (.mp (.i .i64) (.pr (.i .i64) (.pr (.i .i64) (.pr (.i .i64) (.pr .s (.pr .s (.pr .s (.pr (.sl .s) (.pr (.i .i64) (.pr (.i .i64) (.pr .b (.pr .b (.pr (.sl .s) (.pr (.i .i64) (.pr .s .s))))))))))))))) (.i .i64)), 16⟩),
 (81, ⟨.st [(47, 0)], 15, [.v (.i .i64) (show Int from 0), .v (.i .i64) (show Int from 0), .v (.i .i64) (show Int from 0), .v .s (show Bs from []), .v .s (show Bs from []), .v .s (show Bs from []), .nils, .v (.i .i64) (show Int from 0), .v (.i .i64) (show Int from 0), .v .b (show Bool from false), .v .b (show Bool from false), .nils, .v (.i .i64) (show Int from 0), .v .s (show Bs from []), .v .s (show Bs from [])], (.pr (.i .i64) (.pr (.i .i64) (.pr (.i .i64) (.pr .s (.pr .s (.pr .s (.pr (.sl .s) (.pr (.i .i64) (.pr (.i .i64) (.pr .b (.pr .b (.pr (.sl .s) (.pr (.i .i64) (.pr .s .s)))))))))))))), 184⟩)]
theorem τ_okWkB : TEok Tryz.prog τWkB := yhY (by kernel_rfl) (by kernel_rfl)
theorem ysU : Tryz.prog.follows .mixedOrders = true := by kernel_rfl
theorem xdE {G : List (Nat × Obj)} {o : Ops} [zlS G] [zkE G o] {Γ : CT} {η : HT} {f : FuncId} {fn : Func} {c : SC} (hΓ : ∀ B, GB G B → CTok Tryz.prog Γ B) (hf : Tryz.prog.funcs[f]? = some fn) (i : (fn.name == "runtime.NumGoroutine") = false := by kernel_rfl) (j : fn.body.isNone = false := by kernel_rfl) (l : Nat.ble c.I.sl.length fn.ntmps = true := by kernel_rfl) (r : Nat.beq fn.results.toList.length c.nr = true := by kernel_rfl) (e : fnS τWkB Γ η fn c.I c.outs = c.p := by kernel_rfl) : SCok Tryz.prog G f c := witO (G := G) (o := o) <| yoP ysU τ_okWkB hΓ hf (isFn hf i j) l r e
theorem yyD {G : List (Nat × Obj)} {o : Ops} [zlS G] [zkE G o] {Γ : CT} {η : HT} {f : FuncId} {fn : Func} {c : PC} (hΓ : ∀ B, GB G B → CTok Tryz.prog Γ B) (hf : Tryz.prog.funcs[f]? = some fn) (i : (fn.name == "runtime.NumGoroutine") = false := by kernel_rfl) (j : fn.body.isNone = false := by kernel_rfl) (l : Nat.ble c.ash.length fn.ntmps = true := by kernel_rfl) (r : c.cl = false := by kernel_rfl) (e : fnP τWkB Γ η fn c.ash c.rts = c.p := by kernel_rfl) : PCok Tryz.prog G f c := witO (G := G) (o := o) <| yrE ysU τ_okWkB hΓ hf (isFn hf i j) l r e
section
variable {tabs : List (Nat × Obj)} [zlS tabs] {o : Ops} [zkE tabs o]
def zcF (o : Ops) (v0 : List (Bs × Bs)) (v1 : List (Bs × Bs)) (v2 : Int) : Option (Int ⊕ (Bool ⊕ Unit)) :=
 bif decide (v2 < (v0.length : Int)) then ((idx v0 v2).bind fun v3 => (idx v1 v2).bind fun v4 => bif (!((v3.1 == v4.1) && (v3.2 == v4.2))) then some (.inr (.inl false)) else some (.inl (w64 (v2 + 1)))) else some (.inr (.inr ()))
def zaV (o : Ops) (v0 : List (Bs × Bs)) (v1 : List (Bs × Bs)) : Option (Bool) :=
 bif ((v0.length : Int) != (v1.length : Int)) then (some false) else ((iter (zcF o v0 v1) (0 : Int)).bind fun v5 => match v5 with
 | .inl v6 => (some v6)
 | .inr v7 => (some true))
def zhG (o : Ops) : PC := ⟨[(.h (.sl (.pr .s .s))), (.h (.sl (.pr .s .s)))], [.b], fun x => zaV o x.1 x.2, false⟩
theorem zlZ : PCok Tryz.prog tabs 12 (zhG o) := yyD (o := o) (η := [(200004, .loop [] ⟨[(5, hI)], []⟩ [0, 1] [(some 1000000, ⟨[(4, hB)], []⟩), (some 0, ⟨[], []⟩)]),
 (4000006, .sch [(.pu, 0, []), (.pu, 1, []), (.pu, 2, []), (.pu, 3, []), (.pu, 4, []), (.pu, 5, []), (.pu, 6, []), (.pu, 7, []), (.pu, 8, [])])]) (Γ := ⟨[], [], false⟩) (ctok trivial trivial) Tryz.func12
end
def τWkL : TE := [(3, ⟨.int .i64, 1, [.v (.i .i64) (show Int from 0)], (.i .i64), 8⟩),
 (4, ⟨.b, 1, [.v .b (show Bool from false)], .b, 1⟩),
 (5, ⟨.int .u8, 1, [.v (.i .u8) (show UInt8 from 0)], (.i .u8), 1⟩),
 (9, ⟨.s, 1, [.v .s (show Bs from [])], .s, 16⟩),
 (22, ⟨.sl 24, 1, [.nils], (.sl (.pr .s .s)), 24⟩),
 (24, ⟨.st [(9, 0), (9, 1)], 2, [.v .s (show Bs from []), .v .s (show Bs from [])], (.pr .s .s), 32⟩),
 (25, ⟨.pt 75, 1, [.nilp], .un, 8⟩),
 (29, ⟨.pt 38, 1, [.nilp], .un, 8⟩),
 (35, ⟨.sl 47, 1, [.nils], (.sl (.pr (.i .i64) (.pr (.i .i64) (.pr (.i .i64) (.pr .s (.pr .s (.pr .s (.pr (.sl .s) (.pr (.i .i64) (.pr (.i .i64) (.pr .b (.pr .b (.pr (.sl .s) (.pr (.i .i64) (.pr .s .s))))))))))))))), 24⟩),
 (38, ⟨.st [(35, 0), (3, 1)], 2, [.nils, .v (.i .i64) (show Int from 0)], (.pr (.sl (.pr (.i .i64) (.pr (.i .i64) (.pr (.i .i64) (.pr .s (.pr .s (.pr .s (.pr (.sl .s) (.pr (.i .i64) (.pr (.i .i64) (.pr .b (.pr .b (.pr (.sl .s) (.pr (.i .i64) (.pr .s .s))))))))))))))) (.i .i64)), 32⟩),
 (45, ⟨.sl 9, 1, [.nils], (.sl .s), 24⟩),
 (47, ⟨.st [(3, 0), (3, 1), (3, 2), (9, 3), (9, 4), (9, 5), (45, 6), (3, 7), (3, 8), (4, 9), (4, 10), (45, 11), (3, 12), (9, 13), (9, 14)], 15, [.v (.i .i64) (show Int from 0), .v (.i .i64) (show Int from 0), .v (.i .i64) (show Int from 0), .v .s (show Bs from []), .v .s (show Bs from []), .v .s (show Bs from []), .nils, .v (.i .i64) (show Int from 0), .v (.i .i64) (show Int from 0), .v .b (show Bool from false), .v .b (show Bool from false), .nils, .v (.i .i64) (show Int from 0), .v .s (show Bs from []), .v .s (show Bs from [])], (.pr (.i .i64) (.pr (.i .i64) (.pr (.i .i64) (.pr .s (.pr .s (.pr .s (.pr (.sl .s) (.pr (.i .i64) (.pr (.i .i64) (.pr .b (.pr .b (.pr (.sl .s) (.pr (.i .i64) (.pr .s .s)))))))))))))), 184⟩),
 (84, ⟨.st [(45, 0), (4, 1)], 2, [.nils, .v .b (show Bool from false)], (.pr (.sl .s) .b), 32⟩)]
theorem τ_okWkL : TEok Tryz.prog τWkL := yhY (by kernel_rfl) (by kernel_rfl)
theorem yrO : Tryz.prog.follows .mixedOrders = true := by kernel_rfl
theorem zxJ {G : List (Nat × Obj)} {o : Ops} [zlS G] [zkE G o] {Γ : CT} {η : HT} {f : FuncId} {fn : Func} {c : SC} (hΓ : ∀ B, GB G B → CTok Tryz.prog Γ B) (hf : Tryz.prog.funcs[f]? = some fn) (i : (fn.name == "runtime.NumGoroutine") = false := by kernel_rfl) (j : fn.body.isNone = false := by kernel_rfl) (l : Nat.ble c.I.sl.length fn.ntmps = true := by kernel_rfl) (r : Nat.beq fn.results.toList.length c.nr = true := by kernel_rfl) (e : fnS τWkL Γ η fn c.I c.outs = c.p := by kernel_rfl) : SCok Tryz.prog G f c := witO (G := G) (o := o) <| yoP yrO τ_okWkL hΓ hf (isFn hf i j) l r e
theorem zyE {G : List (Nat × Obj)} {o : Ops} [zlS G] [zkE G o] {Γ : CT} {η : HT} {f : FuncId} {fn : Func} {c : PC} (hΓ : ∀ B, GB G B → CTok Tryz.prog Γ B) (hf : Tryz.prog.funcs[f]? = some fn) (i : (fn.name == "runtime.NumGoroutine") = false := by kernel_rfl) (j : fn.body.isNone = false := by kernel_rfl) (l : Nat.ble c.ash.length fn.ntmps = true := by kernel_rfl) (r : c.cl = false := by kernel_rfl) (e : fnP τWkL Γ η fn c.ash c.rts = c.p := by kernel_rfl) : PCok Tryz.prog G f c := witO (G := G) (o := o) <| yrE yrO τ_okWkL hΓ hf (isFn hf i j) l r e
abbrev zxD : Type := (List Bs) × Bool
abbrev ziK : Type := Int × Int × Int × Bs × Bs × Bs × (List Bs) × Int × Int × Bool × Bool × (List Bs) × Int × Bs × Bs
abbrev zqD : Ty := .pr (.i .i64) (.pr (.i .i64) (.pr (.i .i64) (.pr .s (.pr .s (.pr .s (.pr (.sl .s) (.pr (.i .i64) (.pr (.i .i64) (.pr .b (.pr .b (.pr (.sl .s) (.pr (.i .i64) (.pr .s .s)))))))))))))
abbrev yhR : OSh := .blk 47 [hI, hI, hI, hS, hS, hS, .nils, hI, hI, hB, hB, .nils, hI, hS, hS]
abbrev zyS : OSh := .blk 84 [(.h (.sl .s)), hB]
abbrev ybK : OSh := .blk 38 [(.own 1), hI]
section
variable {tabs : List (Nat × Obj)} [zlS tabs] {o : Ops} [zkE tabs o]
def zeT (o : Ops) (v0 : Bs) : Option ((Int × Bool) ⊕ Unit) :=
 bif (v0 == ([] : Bs)) then some (.inl ((0 : Int), false)) else (bif decide ((v0.length : Int) > 15) then some (.inl ((0 : Int), false)) else ((idx v0 (0 : Int)).bind fun v1 => bif ((v1.toNat : Int) == ((48 : UInt8).toNat : Int)) then (bif (v0 != ([48] : Bs)) then some (.inl ((0 : Int), false)) else some (.inr ())) else some (.inr ())))
def zhV (o : Ops) (v0 : Bs) (v6 : Int) : Option ((Int × Bool) ⊕ Unit) :=
 (idx v0 v6).bind fun v7 => bif decide ((v7.toNat : Int) < ((48 : UInt8).toNat : Int)) then some (.inl ((0 : Int), false)) else ((idx v0 v6).bind fun v8 => bif decide ((v8.toNat : Int) > ((57 : UInt8).toNat : Int)) then some (.inl ((0 : Int), false)) else some (.inr ()))
def zcU (o : Ops) (v0 : Bs) (v5 : Int) (v6 : Int) : Option ((Int × Int) ⊕ ((Int × Bool) ⊕ Int)) :=
 bif decide (v6 < (v0.length : Int)) then ((zhV o v0 v6).bind fun v9 => match v9 with
 | .inl v10 => some (.inr (.inl v10))
 | .inr v11 => ((idx v0 v6).bind fun v12 => let v13 : Int := w64 ((i8 ((v12.toNat : Int) - ((48 : UInt8).toNat : Int))).toNat : Int)
 some (.inl (w64 ((w64 ((10 : Int) * v5)) + v13), w64 (v6 + 1))))) else some (.inr (.inr v5))
def zcA (o : Ops) (v0 : Bs) : Option (Int × Bool) :=
 (zeT o v0).bind fun v2 => match v2 with
 | .inl v3 => (some v3)
 | .inr v4 => ((iter (fun x => zcU o v0 x.1 x.2) ((0 : Int), (0 : Int))).bind fun v14 => match v14 with
 | .inl v15 => (some v15)
 | .inr v16 => (some (v16, true)))
def zeW (o : Ops) : PC := ⟨[hS], [(.i .i64), .b], fun x => zcA o x, false⟩
theorem ziB : PCok Tryz.prog tabs 88 (zeW o) := zyE (o := o) (η := [(2000003, .join [] [0] [(some 1000000, ⟨[(2, hI), (3, hB)], []⟩), (none, ⟨[], []⟩)]),
 (2000009, .join [] [0, 4, 5] [(some 1000000, ⟨[(2, hI), (3, hB)], []⟩), (none, ⟨[], []⟩)]),
 (200005, .loop [] ⟨[(4, hI), (5, hI)], []⟩ [0] [(some 1000000, ⟨[(2, hI), (3, hB)], []⟩), (some 0, ⟨[(4, hI)], []⟩)])]) (Γ := ⟨[], [], false⟩) (ctok trivial trivial) Tryz.func88
def zdE (o : Ops) (v0 : Bs) (v3 : Int) (v4 : List Bs) : Option ((Int × List Bs) ⊕ ((Int × List Bs))) :=
 bif decide (v3 < (v0.length : Int)) then ((idx v0 v3).bind fun v5 => bif ((v5.toNat : Int) != ((58 : UInt8).toNat : Int)) then some (.inl (w64 (v3 + 1), v4)) else some (.inr (v3, v4))) else some (.inr (v3, v4))
def zdG (o : Ops) (v0 : Bs) (v6 : Int × List Bs) (v8 : Int × Bool) : Option (Bool ⊕ List Bs) :=
 bif (!v8.2) then some (.inl false) else (bif (v6.1 == (v0.length : Int)) then some (.inl false) else (let v9 : Bool := decide (v8.1 > (w64 ((w64 ((v0.length : Int) - v6.1)) - 1)))
 bif v9 then some (.inl false) else some (.inr v6.2)))
def zbZ (o : Ops) (v0 : Bs) (v1 : Int) (v2 : List Bs) : Option ((Int × List Bs) ⊕ (Bool ⊕ List Bs)) :=
 bif decide (v1 < (v0.length : Int)) then ((iter (fun x => zdE o v0 x.1 x.2) (v1, v2)).bind fun v6 => (sub3 v0 v1 v6.1).bind fun v7 => (zcA o v7).bind fun v8 => (zdG o v0 v6 v8).bind fun v10 => match v10 with
 | .inl v11 => some (.inr (.inl v11))
 | .inr v12 => ((sub3 v0 (w64 (v6.1 + 1)) (w64 ((w64 (v6.1 + 1)) + v8.1))).bind fun v13 => (app v12 ([v13] : List Bs)).bind fun v14 => some (.inl (w64 ((w64 (v6.1 + 1)) + v8.1), v14)))) else some (.inr (.inr v2))
def zcJ (o : Ops) (v0 : Bs) : Option zxD :=
 (iter (fun x => zbZ o v0 x.1 x.2) ((0 : Int), ([] : List Bs))).bind fun v15 => match v15 with
 | .inl v16 => (some (([] : List Bs), v16))
 | .inr v17 => (some (v17, true))
def zfJ (o : Ops) : PC := ⟨[hS], [(.sl .s), .b], fun x => zcJ o x, false⟩
theorem ziY : PCok Tryz.prog tabs 37 (zfJ o) := zyE (o := o) (η := [(200005, .loop [] ⟨[(4, (.own 0)), (6, hI)], [.osl .s 9]⟩ [0, 5] [(some 2, ⟨[(4, (.own 0)), (6, hI)], [.osl .s 9]⟩)]),
 (2000010, .join [] [0, 6, 7] [(some 1000000, ⟨[(2, .nils), (3, hB)], []⟩), (none, ⟨[(4, (.own 0))], [.osl .s 9]⟩)]),
 (200003, .loop [] ⟨[(4, (.own 0)), (5, hI)], [.osl .s 9]⟩ [0] [(some 1000000, ⟨[(2, .nils), (3, hB)], []⟩), (some 0, ⟨[(4, (.own 0))], [.osl .s 9]⟩)])]) (Γ := ⟨[(88, (zeW o))], [], false⟩) (ctok ⟨ziB, trivial⟩ trivial) Tryz.func37
def zaD (o : Ops) (v0 : List Bs) (v1 : Bool) : Option ((Bs × zxD)) :=
 bif ((v0.length : Int) == 0) then some (([] : Bs), v0, true) else ((idx v0 (0 : Int)).bind fun v2 => (subL v0 (1 : Int)).bind fun v3 => some (v2, v3, v1))
def zcV (o : Ops) : SC := ⟨⟨[(0, (.ptr 0 0))], [zyS]⟩, 1, [(none, ⟨[(0, hS)], [zyS]⟩)], fun x => zaD o x.1 x.2⟩
theorem zfO : SCok Tryz.prog tabs 89 (zcV o) := zxJ (o := o) (η := []) (Γ := ⟨[], [], false⟩) (ctok trivial trivial) Tryz.func89
def zdF (o : Ops) (v0 : Int) (v1 : Int) (v4 : (Bs × zxD)) (v5 : Int × Bool) : Option ((Bool × zxD)) :=
 bif (!v5.2) then some (true, v4.2) else (bif decide (v5.1 < v0) then some (true, v4.2) else some (decide (v5.1 > v1), v4.2))
def zaC (o : Ops) (v0 : Int) (v1 : Int) (v2 : List Bs) (v3 : Bool) : Option ((Int × zxD)) :=
 (zaD o v2 v3).bind fun v4 => (zcA o v4.1).bind fun v5 => (zdF o v0 v1 v4 v5).bind fun v6 => bif v6.1 then some (v0, v6.2.1, true) else some (v5.1, v6.2)
def zaZ (o : Ops) : SC := ⟨⟨[(0, (.ptr 0 0)), (1, hI), (2, hI)], [zyS]⟩, 1, [(none, ⟨[(0, hI)], [zyS]⟩)], fun x => zaC o x.1 x.2.1 x.2.2.1 x.2.2.2⟩
theorem zbV : SCok Tryz.prog tabs 38 (zaZ o) := zxJ (o := o) (η := [(2300003, .join [] [1, 7] [(none, ⟨[(0, (.ptr 0 0)), (26, hB)], [zyS]⟩)])]) (Γ := ⟨[(88, (zeW o))], [(89, (zcV o))], false⟩) (ctok ⟨ziB, trivial⟩ ⟨zfO, trivial⟩) Tryz.func38
def ziC (o : Ops) (v0 : Bs) (v2 : Int) : Option ((Int × Bool) ⊕ Unit) :=
 (idx v0 v2).bind fun v3 => bif decide ((v3.toNat : Int) < ((48 : UInt8).toNat : Int)) then some (.inl ((0 : Int), false)) else ((idx v0 v2).bind fun v4 => bif decide ((v4.toNat : Int) > ((57 : UInt8).toNat : Int)) then some (.inl ((0 : Int), false)) else some (.inr ()))
def zeX (o : Ops) (v0 : Bs) (v1 : Int) (v2 : Int) : Option ((Int × Int) ⊕ ((Int × Bool) ⊕ Int)) :=
 bif decide (v2 < (v0.length : Int)) then ((ziC o v0 v2).bind fun v5 => match v5 with
 | .inl v6 => some (.inr (.inl v6))
 | .inr v7 => ((idx v0 v2).bind fun v8 => let v9 : Int := w64 ((i8 ((v8.toNat : Int) - ((48 : UInt8).toNat : Int))).toNat : Int)
 some (.inl (w64 ((w64 ((10 : Int) * v1)) + v9), w64 (v2 + 1))))) else some (.inr (.inr v1))
def zdD (o : Ops) (v0 : Bs) : Option (Int × Bool) :=
 (iter (fun x => zeX o v0 x.1 x.2) ((0 : Int), (0 : Int))).bind fun v10 => match v10 with
 | .inl v11 => (some v11)
 | .inr v12 => (some (v12, ((v0.length : Int) == 8)))
def zhT (o : Ops) : PC := ⟨[hS], [(.i .i64), .b], fun x => zdD o x, false⟩
theorem znC : PCok Tryz.prog tabs 90 (zhT o) := zyE (o := o) (η := [(2000007, .join [] [0, 4, 5] [(some 1000000, ⟨[(2, hI), (3, hB)], []⟩), (none, ⟨[], []⟩)]),
 (200003, .loop [] ⟨[(4, hI), (5, hI)], []⟩ [0] [(some 1000000, ⟨[(2, hI), (3, hB)], []⟩), (some 0, ⟨[(4, hI)], []⟩)])]) (Γ := ⟨[], [], false⟩) (ctok trivial trivial) Tryz.func90
def zaJ (o : Ops) (v0 : List Bs) (v1 : Bool) : Option (((List Bs) × zxD)) :=
 (zaC o (0 : Int) (100000 : Int) v0 v1).bind fun v2 => bif decide (v2.1 > (v2.2.1.length : Int)) then some (([] : List Bs), v2.2.1, true) else ((subH v2.2.1 v2.1).bind fun v3 => (app ([] : List Bs) v3).bind fun v4 => (subL v2.2.1 v2.1).bind fun v5 => some (v4, v5, v2.2.2))
def zfM (o : Ops) : SC := ⟨⟨[(0, (.ptr 0 0))], [zyS]⟩, 1, [(none, ⟨[(0, (.h (.sl .s)))], [zyS]⟩)], fun x => zaJ o x.1 x.2⟩
theorem zkS : SCok Tryz.prog tabs 91 (zfM o) := zxJ (o := o) (η := []) (Γ := ⟨[], [(38, (zaZ o))], false⟩) (ctok trivial ⟨zbV, trivial⟩) Tryz.func91
def zaK (o : Ops) (v0 : List Bs) (v1 : Bool) : Option ((Bool × zxD)) :=
 (zaC o (0 : Int) (1 : Int) v0 v1).bind fun v2 => some ((v2.1 == 1), v2.2)
def zfL (o : Ops) : SC := ⟨⟨[(0, (.ptr 0 0))], [zyS]⟩, 1, [(none, ⟨[(0, hB)], [zyS]⟩)], fun x => zaK o x.1 x.2⟩
theorem zkR : SCok Tryz.prog tabs 92 (zfL o) := zxJ (o := o) (η := []) (Γ := ⟨[], [(38, (zaZ o))], false⟩) (ctok trivial ⟨zbV, trivial⟩) Tryz.func92
def zfZ (o : Ops) (v0 : Bs × Bs) : Option ((Bool × Int × Int × Int × Bs × Bs × Bs × Int × Int × Bool × Bool × Int × Bs × Bs) ⊕ (Bs × Bs × Int × Int × Int × Bs × Bs × Bs × Int × Int × Bool × Bool × Int × Bs × Bs)) :=
 bif ((v0.1.length : Int) != 13) then some (.inl (false, (0 : Int), (0 : Int), (0 : Int), ([] : Bs), ([] : Bs), ([] : Bs), (0 : Int), (0 : Int), false, false, (0 : Int), ([] : Bs), ([] : Bs))) else ((subH v0.1 (5 : Int)).bind fun v1 => bif (v1 != ([110, 111, 100, 101, 47] : Bs)) then some (.inl (false, (0 : Int), (0 : Int), (0 : Int), ([] : Bs), ([] : Bs), ([] : Bs), (0 : Int), (0 : Int), false, false, (0 : Int), ([] : Bs), ([] : Bs))) else some (.inr (v0.1, v0.2, (0 : Int), (0 : Int), (0 : Int), ([] : Bs), ([] : Bs), ([] : Bs), (0 : Int), (0 : Int), false, false, (0 : Int), ([] : Bs), ([] : Bs))))
def zdV (o : Ops) (v4 : Bs × Bs × Int × Int × Int × Bs × Bs × Bs × Int × Int × Bool × Bool × Int × Bs × Bs) (v6 : Int × Bool) (v7 : zxD) : Option ((Bool × Int × Int × Int × Bs × Bs × Bs × Int × Int × Bool × Bool × Int × Bs × Bs) ⊕ (Int × Int × Int × Bs × Bs × Bs × Int × Int × Bool × Bool × Int × Bs × Bs)) :=
 bif (!v6.2) then some (.inl (false, (0 : Int), (0 : Int), (0 : Int), ([] : Bs), ([] : Bs), ([] : Bs), (0 : Int), (0 : Int), false, false, (0 : Int), ([] : Bs), ([] : Bs))) else (bif (!v7.2) then some (.inl (false, (0 : Int), (0 : Int), (0 : Int), ([] : Bs), ([] : Bs), ([] : Bs), (0 : Int), (0 : Int), false, false, (0 : Int), ([] : Bs), ([] : Bs))) else some (.inr v4.2.2))
def zcQ (o : Ops) (v0 : Bs × Bs) : Option (ziK × Bool) :=
 (zfZ o v0).bind fun v2 => match v2 with
 | .inl v3 => (some ((v3.2.1, v3.2.2.1, v3.2.2.2.1, v3.2.2.2.2.1, v3.2.2.2.2.2.1, v3.2.2.2.2.2.2.1, ([] : List Bs), v3.2.2.2.2.2.2.2.1, v3.2.2.2.2.2.2.2.2.1, v3.2.2.2.2.2.2.2.2.2.1, v3.2.2.2.2.2.2.2.2.2.2.1, ([] : List Bs), v3.2.2.2.2.2.2.2.2.2.2.2), v3.1))
 | .inr v4 => ((subL v4.1 (5 : Int)).bind fun v5 => (zdD o v5).bind fun v6 => (zcJ o v4.2.1).bind fun v7 => (zdV o v4 v6 v7).bind fun v8 => match v8 with
 | .inl v9 => (some ((v9.2.1, v9.2.2.1, v9.2.2.2.1, v9.2.2.2.2.1, v9.2.2.2.2.2.1, v9.2.2.2.2.2.2.1, ([] : List Bs), v9.2.2.2.2.2.2.2.1, v9.2.2.2.2.2.2.2.2.1, v9.2.2.2.2.2.2.2.2.2.1, v9.2.2.2.2.2.2.2.2.2.2.1, ([] : List Bs), v9.2.2.2.2.2.2.2.2.2.2.2), v9.1))
 | .inr v10 => ((zaC o (0 : Int) (999999999999999 : Int) v7.1 false).bind fun v11 => (zaC o (0 : Int) (999999999999999 : Int) v11.2.1 v11.2.2).bind fun v12 => (zaD o v12.2.1 v12.2.2).bind fun v13 => (zaD o v13.2.1 v13.2.2).bind fun v14 => (zaD o v14.2.1 v14.2.2).bind fun v15 => (zaJ o v15.2.1 v15.2.2).bind fun v16 => (zaC o (0 : Int) (999999999999999 : Int) v16.2.1 v16.2.2).bind fun v17 => (zaC o (0 : Int) (999999999999999 : Int) v17.2.1 v17.2.2).bind fun v18 => (zaK o v18.2.1 v18.2.2).bind fun v19 => (zaK o v19.2.1 v19.2.2).bind fun v20 => (zaJ o v20.2.1 v20.2.2).bind fun v21 => (zaC o (0 : Int) (999999999999999 : Int) v21.2.1 v21.2.2).bind fun v22 => (zaD o v22.2.1 v22.2.2).bind fun v23 => (zaD o v23.2.1 v23.2.2).bind fun v24 => bif (!v24.2.2) then (bif ((v24.2.1.length : Int) == 0) then ((zeM o (v6.1, v11.1, v12.1, v13.1, v14.1, v15.1, v16.1, v17.1, v18.1, v19.1, v20.1, v21.1, v22.1, v23.1, v24.1)).bind fun v25 => some ((v6.1, v11.1, v12.1, v13.1, v14.1, v15.1, v16.1, v17.1, v18.1, v19.1, v20.1, v21.1, v22.1, v23.1, v24.1), v25)) else (some ((v6.1, v11.1, v12.1, v13.1, v14.1, v15.1, v16.1, v17.1, v18.1, v19.1, v20.1, v21.1, v22.1, v23.1, v24.1), false))) else (some ((v6.1, v11.1, v12.1, v13.1, v14.1, v15.1, v16.1, v17.1, v18.1, v19.1, v20.1, v21.1, v22.1, v23.1, v24.1), false))))
def zjL (o : Ops) : PC := ⟨[(.h (.pr .s .s))], [zqD, .b], fun x => zcQ o x, false⟩
theorem zoP : PCok Tryz.prog tabs 39 (zjL o) := zyE (o := o) (η := [(2000003, .join [] [] [(some 1000000, ⟨[(2, (.ptr 0 0)), (3, hB)], [yhR]⟩), (none, ⟨[(1, (.ptr 0 0)), (2, (.ptr 1 0))], [.blk 24 [hS, hS], yhR]⟩)]),
 (2000007, .join [] [4, 6] [(some 1000000, ⟨[(2, (.ptr 0 0)), (3, hB)], [yhR]⟩), (none, ⟨[(2, (.ptr 0 0))], [yhR]⟩)]),
 (4000022, .sch [(.pu, 0, []), (.pu, 1, []), (.pu, 2, []), (.pu, 3, []), (.pu, 4, []), (.pu, 5, []), (.pu, 6, []), (.pu, 7, []), (.pu, 8, []), (.pu, 9, []), (.pu, 10, []), (.pu, 11, []), (.pu, 12, []), (.pu, 13, []), (.pu, 14, []), (.pu, 15, []), (.mn, 16, []), (.pu, 17, [0]), (.mn, 18, [0]), (.pu, 19, [])])]) (Γ := ⟨[(90, (zhT o)), (37, (zfJ o)), (93, (zkK o))], [(38, (zaZ o)), (89, (zcV o)), (91, (zfM o)), (92, (zfL o))], false⟩) (ctok ⟨znC, ⟨ziY, ⟨zpS, trivial⟩⟩⟩ ⟨zbV, ⟨zfO, ⟨zkS, ⟨zkR, trivial⟩⟩⟩⟩) Tryz.func39
def zcR (o : Ops) (v0 : Bs) (v3 : Int) (v4 : Int) (v5 : List ziK) (v6 : Int) (v7 : Int) (v8 : Int) (v9 : Bs) (v10 : Bs) (v11 : Bs) (v12 : Int) (v13 : Int) (v14 : Bool) (v15 : Bool) (v16 : Int) (v17 : Bs) (v18 : Bs) : Option ((Int × Int × (List ziK) × Int × Int × Int × Bs × Bs × Bs × Int × Int × Bool × Bool × Int × Bs × Bs) ⊕ ((Bool × Int × (List ziK) × ziK) ⊕ (Int × (List ziK) × Int × Int × Int × Bs × Bs × Bs × Int × Int × Bool × Bool × Int × Bs × Bs))) :=
 bif decide (v3 < (v5.length : Int)) then ((chk (decide ((0 : Int) ≤ v3) && decide (v3 < (v5.length : Int)))).bind fun _ => (idx v5 v3).bind fun v19 => bif (v19.2.2.2.2.2.2.2.2.2.2.2.2.2.1 == v0) then ((chk (decide ((0 : Int) ≤ v3) && decide (v3 < (v5.length : Int)))).bind fun _ => (idx v5 v3).bind fun v20 => some (.inr (.inl (true, v4, v5, v20)))) else some (.inl (w64 (v3 + 1), v4, v5, v6, v7, v8, v9, v10, v11, v12, v13, v14, v15, v16, v17, v18))) else some (.inr (.inr (v4, v5, v6, v7, v8, v9, v10, v11, v12, v13, v14, v15, v16, v17, v18)))
def zbL (o : Ops) (v0 : Bs) (v1 : Int) (v2 : List ziK) : Option ((ziK × Bool × Int × List ziK)) :=
 (iter (fun x => zcR o v0 x.1 x.2.1 x.2.2.1 x.2.2.2.1 x.2.2.2.2.1 x.2.2.2.2.2.1 x.2.2.2.2.2.2.1 x.2.2.2.2.2.2.2.1 x.2.2.2.2.2.2.2.2.1 x.2.2.2.2.2.2.2.2.2.1 x.2.2.2.2.2.2.2.2.2.2.1 x.2.2.2.2.2.2.2.2.2.2.2.1 x.2.2.2.2.2.2.2.2.2.2.2.2.1 x.2.2.2.2.2.2.2.2.2.2.2.2.2.1 x.2.2.2.2.2.2.2.2.2.2.2.2.2.2.1 x.2.2.2.2.2.2.2.2.2.2.2.2.2.2.2) ((0 : Int), v1, v2, (0 : Int), (0 : Int), (0 : Int), ([] : Bs), ([] : Bs), ([] : Bs), (0 : Int), (0 : Int), false, false, (0 : Int), ([] : Bs), ([] : Bs))).bind fun v21 => match v21 with
 | .inl v22 => some (v22.2.2.2, v22.1, v22.2.1, v22.2.2.1)
 | .inr v23 => some (((0 : Int), (0 : Int), (0 : Int), ([] : Bs), ([] : Bs), ([] : Bs), ([] : List Bs), (0 : Int), (0 : Int), false, false, ([] : List Bs), (0 : Int), ([] : Bs), ([] : Bs)), false, v23.1, v23.2.1)
def zeY (o : Ops) : SC := ⟨⟨[(0, (.ptr 0 0)), (1, hS)], [ybK, .osl zqD 47]⟩, 2, [(none, ⟨[(0, (.h zqD)), (1, hB)], [ybK, .osl zqD 47]⟩)], fun x => zbL o x.1 x.2.1 x.2.2⟩
theorem zkG : SCok Tryz.prog tabs 40 (zeY o) := zxJ (o := o) (η := [(200002, .loop [] ⟨[(0, (.ptr 0 0)), (4, (.ptr 2 0)), (6, hI)], [ybK, .osl zqD 47, yhR]⟩ [1] [(some 1000000, ⟨[(4, (.ptr 2 0)), (5, hB)], [ybK, .osl zqD 47, .blk 47 [hI, hI, hI, hS, hS, hS, (.h (.sl .s)), hI, hI, hB, hB, (.h (.sl .s)), hI, hS, hS]]⟩), (some 0, ⟨[(4, (.ptr 2 0))], [ybK, .osl zqD 47, yhR]⟩)])]) (Γ := ⟨[], [], false⟩) (ctok trivial trivial) Tryz.func40
def zaX (o : Ops) (v0 : List (Bs × Bs)) : Option (Int ⊕ Unit) :=
 bif decide ((v0.length : Int) < 1) then some (.inl (135 : Int)) else (bif decide ((v0.length : Int) > 257) then some (.inl (135 : Int)) else ((idx v0 (0 : Int)).bind fun v1 => bif (v1.1 != ([102, 111, 114, 101, 115, 116] : Bs)) then some (.inl (135 : Int)) else some (.inr ())))
def zbK (o : Ops) (v6 : zxD) (v7 : (Int × zxD)) : Option (Int ⊕ Int) :=
 bif (!v6.2) then some (.inl (135 : Int)) else (bif v7.2.2 then some (.inl (135 : Int)) else (bif decide ((v7.2.1.length : Int) > 0) then some (.inl (135 : Int)) else some (.inr v7.1)))
def zbE (o : Ops) (v11 : Int) (v16 : ziK × Bool) (v17 : (ziK × Bool × Int × List ziK)) : Option (Int ⊕ (Int × Int × Int × Int × Bs × Bs × Bs × (List Bs) × Int × Int × Bool × Bool × (List Bs) × Int × Bs × Bs × List ziK)) :=
 bif (!v16.2) then some (.inl (135 : Int)) else (bif v17.2.1 then some (.inl (135 : Int)) else (bif decide (v16.1.1 ≤ v11) then some (.inl (135 : Int)) else (bif decide (v16.1.1 ≥ v17.2.2.1) then some (.inl (135 : Int)) else (bif decide (v16.1.2.2.1 ≥ v16.1.1) then some (.inl (135 : Int)) else some (.inr (v17.2.2.1, v16.1.1, v16.1.2.1, v16.1.2.2.1, v16.1.2.2.2.1, v16.1.2.2.2.2.1, v16.1.2.2.2.2.2.1, v16.1.2.2.2.2.2.2.1, v16.1.2.2.2.2.2.2.2.1, v16.1.2.2.2.2.2.2.2.2.1, v16.1.2.2.2.2.2.2.2.2.2.1, v16.1.2.2.2.2.2.2.2.2.2.2.1, v16.1.2.2.2.2.2.2.2.2.2.2.2.1, v16.1.2.2.2.2.2.2.2.2.2.2.2.2.1, v16.1.2.2.2.2.2.2.2.2.2.2.2.2.2.1, v16.1.2.2.2.2.2.2.2.2.2.2.2.2.2.2, v17.2.2.2))))))
def zaW (o : Ops) (v0 : List (Bs × Bs)) (v11 : Int) (v12 : Int) (v13 : Int) (v14 : List ziK) : Option ((Int × Int × Int × List ziK) ⊕ (Int ⊕ (Int × List ziK))) :=
 bif decide (v12 < (v0.length : Int)) then ((idx v0 v12).bind fun v15 => (zcQ o v15).bind fun v16 => (zbL o v16.1.2.2.2.2.2.2.2.2.2.2.2.2.2.1 v13 v14).bind fun v17 => (zbE o v11 v16 v17).bind fun v18 => match v18 with
 | .inl v19 => some (.inr (.inl v19))
 | .inr v20 => ((app v20.2.2.2.2.2.2.2.2.2.2.2.2.2.2.2.2 ([(v20.2.1, v20.2.2.1, v20.2.2.2.1, v20.2.2.2.2.1, v20.2.2.2.2.2.1, v20.2.2.2.2.2.2.1, v20.2.2.2.2.2.2.2.1, v20.2.2.2.2.2.2.2.2.1, v20.2.2.2.2.2.2.2.2.2.1, v20.2.2.2.2.2.2.2.2.2.2.1, v20.2.2.2.2.2.2.2.2.2.2.2.1, v20.2.2.2.2.2.2.2.2.2.2.2.2.1, v20.2.2.2.2.2.2.2.2.2.2.2.2.2.1, v20.2.2.2.2.2.2.2.2.2.2.2.2.2.2.1, v20.2.2.2.2.2.2.2.2.2.2.2.2.2.2.2.1)] : List ziK)).bind fun v21 => some (.inl (v20.2.1, w64 (v12 + 1), v20.1, v21)))) else some (.inr (.inr (v13, v14)))
def zbM (o : Ops) (v0 : List (Bs × Bs)) : Option (Int ⊕ (Int × Int × List ziK)) :=
 (zaX o v0).bind fun v2 => match v2 with
 | .inl v3 => some (.inl v3)
 | .inr v4 => ((idx v0 (0 : Int)).bind fun v5 => (zcJ o v5.2).bind fun v6 => (zaC o (1 : Int) (99999999 : Int) v6.1 false).bind fun v7 => (zbK o v6 v7).bind fun v8 => match v8 with
 | .inl v9 => some (.inl v9)
 | .inr v10 => ((iter (fun x => zaW o v0 x.1 x.2.1 x.2.2.1 x.2.2.2) ((0 : Int), (1 : Int), v10, ([] : List ziK))).bind fun v22 => match v22 with
 | .inl v23 => some (.inl v23)
 | .inr v24 => some (.inr ((0 : Int), v24))))
def zjR (o : Ops) : SC := ⟨⟨[(0, (.h (.sl (.pr .s .s))))], []⟩, 2, [(none, ⟨[(0, .nilp), (1, hI)], []⟩), (none, ⟨[(0, (.ptr 0 0)), (1, hI)], [ybK, .osl zqD 47]⟩)], fun x => zbM o x⟩
theorem zoU : SCok Tryz.prog tabs 11 (zjR o) := zxJ (o := o) (η := [(2000003, .join [] [0] [(some 1000000, ⟨[(2, .nilp), (3, hI)], []⟩), (none, ⟨[], []⟩)]),
 (2000008, .join [] [0] [(some 1000000, ⟨[(2, .nilp), (3, hI)], []⟩), (none, ⟨[(7, (.ptr 0 0))], [.blk 38 [.nils, hI]]⟩)]),
 (2000016, .join [] [0, 9] [(some 1000000, ⟨[(2, .nilp), (3, hI)], []⟩), (none, ⟨[(7, (.ptr 0 0)), (10, (.ptr 1 0))], [.blk 38 [(.own 2), hI], .blk 47 [hI, hI, hI, hS, hS, hS, (.h (.sl .s)), hI, hI, hB, hB, (.h (.sl .s)), hI, hS, hS], .osl zqD 47]⟩)]),
 (200010, .loop [.cell 7 0 zqD 47] ⟨[(7, (.ptr 0 0)), (8, hI), (9, hI)], [ybK, .osl zqD 47]⟩ [0] [(some 1000000, ⟨[(2, .nilp), (3, hI)], []⟩), (some 0, ⟨[(7, (.ptr 0 0))], [ybK, .osl zqD 47]⟩)]),
 (4000014, .sch [(.pu, 0, []), (.pu, 1, []), (.pu, 2, []), (.pu, 3, []), (.pu, 4, []), (.pu, 5, []), (.pu, 6, []), (.pu, 7, []), (.pu, 8, []), (.pu, 9, []), (.pu, 10, []), (.pu, 11, []), (.pu, 12, []), (.pu, 13, []), (.pu, 14, []), (.pu, 15, []), (.pu, 16, []), (.pu, 17, []), (.pu, 18, []), (.pu, 19, []), (.pu, 20, []), (.pu, 21, []), (.pu, 22, []), (.pu, 23, []), (.pu, 24, []), (.pu, 25, []), (.pu, 26, [])]),
 (4000016, .sch [(.pu, 0, [2]), (.pu, 1, []), (.pu, 2, []), (.pu, 3, []), (.pu, 4, []), (.pu, 5, []), (.mn, 6, []), (.mn, 7, [2]), (.pu, 8, []), (.pu, 9, []), (.mn, 10, [0])])]) (Γ := ⟨[(37, (zfJ o)), (39, (zjL o))], [(38, (zaZ o)), (40, (zeY o))], false⟩) (ctok ⟨ziY, ⟨zoP, trivial⟩⟩ ⟨zbV, ⟨zkG, trivial⟩⟩) Tryz.func11
def zdM (o : Ops) (v0 : List ziK) (v1 : List ziK) (v2 : Int) : Option (Int ⊕ (Bool ⊕ Unit)) :=
 bif decide (v2 < (v0.length : Int)) then ((idx v0 v2).bind fun v3 => (idx v1 v2).bind fun v4 => (zeG o v3 v4).bind fun v5 => bif (!v5) then some (.inr (.inl false)) else some (.inl (w64 (v2 + 1)))) else some (.inr (.inr ()))
def zcG (o : Ops) (v0 : List ziK) (v1 : List ziK) : Option (Bool) :=
 bif ((v0.length : Int) != (v1.length : Int)) then (some false) else ((iter (zdM o v0 v1) (0 : Int)).bind fun v6 => match v6 with
 | .inl v7 => (some v7)
 | .inr v8 => (some true))
def zgZ (o : Ops) : PC := ⟨[(.h (.sl zqD)), (.h (.sl zqD))], [.b], fun x => zcG o x.1 x.2, false⟩
theorem zlM : PCok Tryz.prog tabs 14 (zgZ o) := zyE (o := o) (η := [(200004, .loop [] ⟨[(5, hI)], []⟩ [0, 1] [(some 1000000, ⟨[(4, hB)], []⟩), (some 0, ⟨[], []⟩)]),
 (4000006, .sch [(.pu, 0, []), (.pu, 1, []), (.pu, 2, []), (.pu, 3, []), (.pu, 4, []), (.pu, 5, []), (.pu, 6, []), (.pu, 7, []), (.mn, 8, []), (.pu, 9, [])])]) (Γ := ⟨[(41, (zjT o))], [], false⟩) (ctok ⟨zoN, trivial⟩ trivial) Tryz.func14
noncomputable def zcX (o : Ops) (v0 : List (Bs × Bs)) (v2 : List (Bs × Bs)) (v5 : Int) (v8 : Int) : Option (Bool ⊕ Unit) :=
 bif (v5 != v8) then some (.inl false) else ((zaV o (List.take ((v0.length : Int).toNat) v2) v0).bind fun v10 => bif (!v10) then some (.inl false) else ((subH v2 (w64 ((v0.length : Int) + 1))).bind fun v11 => (idx v11 (v0.length : Int)).bind fun v12 => bif (v12.1 != ([98, 101, 104, 105, 110, 100] : Bs)) then some (.inl false) else some (.inr ())))
noncomputable def zkT (o : Ops) (v5 : Int) (v9 : (Int × Int × List ziK)) : Option (Bool) :=
 bif (v5 != v9.1) then some false else some false
noncomputable def zkU (o : Ops) (v6 : (Int × Int × List (Int × ziK))) (v19 : Int) : Option (Bool) :=
 bif (v6.1 != v19) then some false else some false
noncomputable def zcW (o : Ops) (v0 : List (Bs × Bs)) (v2 : List (Bs × Bs)) (v6 : (Int × Int × List (Int × ziK))) (v20 : (Int × Int × List ziK)) : Option (Bool ⊕ (Int × Int × (List (Int × ziK)) × List ziK)) :=
 bif (v6.1 != v20.1) then some (.inl false) else ((zaV o (List.take ((v0.length : Int).toNat) v2) v0).bind fun v22 => bif (!v22) then some (.inl false) else ((subH v2 (w64 ((v0.length : Int) + 1))).bind fun v23 => (idx v23 (v0.length : Int)).bind fun v24 => bif (v24.1 != ([98, 101, 104, 105, 110, 100] : Bs)) then some (.inl false) else some (.inr (v6.2.1, v20.2.1, v6.2.2, v20.2.2))))
noncomputable def zbU (o : Ops) (v0 : List (Bs × Bs)) : Option (Bool) :=
 (app ([] : List (Bs × Bs)) v0).bind fun v1 => (app v1 ([(([98, 101, 104, 105, 110, 100] : Bs), ([] : Bs))] : List (Bs × Bs))).bind fun v2 => (subH v2 (v0.length : Int)).bind fun v3 => (zeJ o (List.take ((v0.length : Int).toNat) v2)).bind fun v4 => match v4 with
 | .inl v5 => ((zbM o v0).bind fun v7 => match v7 with
 | .inl v8 => ((zcX o v0 v2 v5 v8).bind fun v13 => match v13 with
 | .inl v14 => (some v14)
 | .inr v15 => ((some true).bind fun v16 => some v16))
 | .inr v9 => ((zkT o v5 v9).bind fun v17 => some v17))
 | .inr v6 => ((zbM o v0).bind fun v18 => match v18 with
 | .inl v19 => ((zkU o v6 v19).bind fun v21 => some v21)
 | .inr v20 => ((zcW o v0 v2 v6 v20).bind fun v25 => match v25 with
 | .inl v26 => (some v26)
 | .inr v27 => ((zbP o v27.1 v27.2.2.1).bind fun v28 => (zcG o v28.2.2 v27.2.2.2).bind fun v29 => bif v29 then ((zcC o v28.1 v28.2.1).bind fun v30 => (zaV o v30.1 v0).bind fun v31 => bif v31 then ((some true).bind fun v32 => some v32) else (some false)) else (some false))))
noncomputable def zkN (o : Ops) : PC := ⟨[(.h (.sl (.pr .s .s)))], [.b], fun x => zbU o x, false⟩
theorem ztH : PCok Tryz.prog tabs 3 (zkN o) := zyE (o := o) (η := [(2000006, .whn 4 1 (.whn 6 1 (.join [] [0, 4, 6] [(some 1000000, ⟨[(2, hB)], []⟩), (none, ⟨[], []⟩)]))),
 (2000006, .whn 4 1 (.whn 6 2 (.join [] [] [(some 1000000, ⟨[(2, hB)], []⟩)]))),
 (2000006, .whn 4 2 (.whn 6 1 (.join [] [] [(some 1000000, ⟨[(2, hB)], []⟩)]))),
 (2000006, .whn 4 2 (.whn 6 2 (.join [] [0] [(some 1000000, ⟨[(2, hB)], []⟩), (none, ⟨[(4, (.ptr 0 0)), (6, (.ptr 1 0))], [.blk 75 [(.mpr 2), hI], .blk 38 [(.own 3), hI], .mp true (.i .i64) zqD, .osl zqD 47]⟩)]))),
 (4000008, .sch [(.pu, 0, []), (.pu, 2, [0, 2]), (.pu, 3, [0, 2]), (.pu, 4, [0, 2]), (.pu, 5, [0, 2]), (.mn, 1, [0, 2]), (.mn, 6, []), (.pu, 7, []), (.pu, 8, []), (.pu, 10, [0, 2]), (.mn, 9, [0, 2]), (.mn, 11, []), (.pu, 12, []), (.pu, 13, []), (.mn, 14, []), (.pu, 15, []), (.pu, 16, [])])]) (Γ := ⟨[(12, (zhG o)), (13, yfM), (14, (zgZ o))], [(10, (zmK o)), (11, (zjR o)), (15, (zdS o)), (16, (zgN o))], false⟩) (ctok ⟨zlZ, ⟨ypR, ⟨zlM, trivial⟩⟩⟩ ⟨zqR, ⟨zoU, ⟨zgF, ⟨zkF, trivial⟩⟩⟩⟩) Tryz.func3
end
end Go.Proofs.YtebbcofojchkpaaGreatDoor.Am
