/- Steps of a walk: slices whose elements take one cell each. Steps of a walk: blocks that are only read any more. Whole numbers of fixed width, as natural ones. Steps of a walk: strings. Numbers of four words: plain lemmas. Reckoning with numbers of four words: plain lemmas. Numbers as digits of sixteen bits, the lowest first. Numbers as digits: halves, products, what is left. Numbers as digits: what is left. Numbers as digits: powers. What the model answers for math/bits.Add64, Sub64, for words. Two numbers of four words held against each other. DERIVED: THE SHELF's CONTRACTS AT THIS DUMP, IN PLAIN WORDS (tools/lay-plain.mjs out of 'TryzShelf.lean', which tools/lay-shelf.mjs wrote): THE SAME DECLARATIONS UNDER THE SAME NAMES: 'import', 'namespace', 'open', 'def', 'theorem' AND NOTHING ELSE: no command of the shelf's: FOR A HAND-IN. Each laying: the table of numbers ('.._ren') and one theorem, a field a fact of the dump's own or the kernel's comparison; each contract: ONE APPLICATION. The product of two numbers of four words, in eight: plain lemmas, and what math/bits.Mul64 answers. Numbers of bytes, the highest first: plain lemmas. Primes: Fermat's theorem, Pocklington's test, and that both moduli are primes. Conditions: as each theorem says. -/
import Derived.Laws.AppendOwn
import Derived.Laws.MakeOwn
import Derived.Laws.CopyRow
import Derived.Laws.BytesArg
import Derived.Test.YtmbcolbbekbccaaGreatRows
import Derived.Shelf.Spec.BitsCarry
import Derived.Shelf.Strings.Builder1
import Derived.Shelf.Strings.Builder2
import Derived.Shelf.Strings.BuilderF
import Derived.Shelf.Strings.BuilderK
import Derived.Shelf.Strings.Builder2Cap
import Derived.Shelf.Strings.Prefix
import Derived.Shelf.Bits.Mul64
import Derived.Shelf.Strings.Repeat
import Derived.Shelf.Strings.BuilderCap
import Derived.Test.YtmbcolbbekbccaaGreatProg
import Derived.Test.YtmbcolbbekbccaaGreatQsA
namespace Go.Proofs.YtmbcolbbekbccaaGreat
open Go Go.RowKit
abbrev sl (b o n c : Nat) : Value := .slice (some ⟨b, o, none⟩) n c
structure TSl (P : Program) (T E : TypeId) (z : Value) (nb : Nat) : Prop where
 und : P.underlying T = some (.slice E)
 info : ∃ i, P.info? E = some i ∧ i.zero = some z ∧ i.size = 1 ∧ i.bytes = nb
 one : z.cells = #[z]
theorem TSl.size {P : Program} {T E : TypeId} {z : Value} {nb : Nat} (h : TSl P T E z nb) (w : World) : (sizeOf E).run P w = .ok 1 w := by
 obtain ⟨i, h1, _, h3, _⟩ := h.info
 simp [sizeOf, typeInfo, h1, h3]
def Rd (w : World) (v : Value) (l : List Value) : Prop :=
 (v = .slice none 0 0 ∧ l = []) ∨ ∃ b o c cs T fz, v = sl b o l.length c ∧ l.length ≤ c ∧ w.heap[b]? = some (.cells cs.toArray T fz) ∧ o + l.length ≤ cs.length ∧ piece cs o l.length = l
theorem Rd.ext {w w' : World} {v : Value} {l : List Value} (h : Rd w v l) (hx : Ext w w') : Rd w' v l := by
 rcases h with h | ⟨b, o, c, cs, T, fz, h1, h2, h3, h4, h5⟩
 ·exact .inl h
 ·exact .inr ⟨b, o, c, cs, T, fz, h1, h2, by rw [Below.block hx b (zhF h3)]; exact h3, h4, h5⟩
theorem Rd.hp {w0 w : World} {L : List Ent} {v : Value} {l : List Value} (h : Rd w0 v l) (H : HP w0 w L) : Rd w v l := h.ext H.below
theorem Rd.nil (w : World) : Rd w (.slice none 0 0) [] := .inl ⟨rfl, rfl⟩
theorem Rd.own {w0 w : World} {L : List Ent} (H : HP w0 w L) {k b o n c : Nat} {cs l : List Value} {T : TypeId} (hk : lk L k = some (b, cs, T)) (hl : piece cs o n = l) (hn : o + n ≤ cs.length) (hc : n ≤ c) : Rd w (sl b o n c) l := by
 have hlen : l.length = n := by rw [← hl, zbV]; simp; omega
 subst hlen
 exact .inr ⟨b, o, c, cs, T, (0, 0), rfl, hc, (H.blk k b cs T hk).1, hn, hl⟩
def subv : Value → Nat → Nat → Value
 | .slice a _ c, lo, hi => .slice (if c = lo then a else a.map (·.add lo)) (hi - lo) (c - lo)
 | v, _, _ => v
theorem Rd.sub {w : World} {v : Value} {l : List Value} (h : Rd w v l) {lo hi : Nat} (h1 : lo ≤ hi) (h2 : hi ≤ l.length) : Rd w (subv v lo hi) ((l.drop lo).take (hi - lo)) := by
 have hlen : ((l.drop lo).take (hi - lo)).length = hi - lo := by simp; omega
 rcases h with ⟨rfl, rfl⟩ | ⟨b, o, c, cs, T, fz, rfl, h3, h4, h5, h6⟩
 ·simp only [List.length_nil] at h2
  have e1 : lo = 0 := by omega
  have e2 : hi = 0 := by omega
  subst e1; subst e2
  exact .inl ⟨rfl, rfl⟩
 ·by_cases hc : c = lo
  ·have e1 : hi = lo := by omega
   refine .inr ⟨b, o, c - lo, cs, T, fz, ?_, by rw [hlen]; omega, h4, by rw [hlen]; omega, ?_⟩
   ·rw [hlen]; simp [subv, sl, hc]
   ·rw [hlen, e1]; simp [piece]
  ·refine .inr ⟨b, o + lo, c - lo, cs, T, fz, ?_, by rw [hlen]; omega, h4, by rw [hlen]; omega, ?_⟩
   ·rw [hlen]; simp [subv, sl, hc, zdW]
   ·rw [hlen, zbV]
    rw [zbV] at h6
    conv => rhs; rw [← h6]
    rw [List.drop_take, List.drop_drop, List.take_take]
    congr 1
    omega
section
variable {P : Program} {w : World} {e : Operand → Value} {x y lo hi : Operand} {T E ty : TypeId} {z v u : Value} {nb i : Nat} {l : List Value} {a : Int} {k : IntKind} {dst : Option Tmp} {pos : String} {aft : Array Edge} {g : Option (Nat × Bool)}
theorem zdZ {P : Program} {w : World} {k : IntKind} {a : Int} {h y : Nat} {code : BoundsCode} (ha : a = (h : Int)) (hh : h ≤ y) : (Instr.sliceBound (.int k a) y code).run P w = .ok h w := by
 subst ha
 have h2 : (0 : Int) ≤ (h : Int) ∧ (h : Int) ≤ (y : Int) := by omega
 simp [Instr.sliceBound, asIntOf, h2, hh]
end
theorem HP.moved {w0 w : World} {L : List Ent} {x e : Ent} {k : Nat} (hk : lk L k = some x) (h : HP w0 w (e :: L)) : HP w0 w (st L k e) := by
 obtain ⟨b, cs, T⟩ := e
 refine ⟨h.below, ?_, ?_⟩
 ·intro j b' c T' hj
  by_cases hjk : j = k
  ·subst hjk
   rw [lk_st_same hk] at hj
   exact h.blk 0 b' c T' hj
  ·rw [lk_st_other hjk] at hj
   exact h.blk (j + 1) b' c T' hj
 ·intro i j b' c1 T1 c2 T2 hi hj
  have key : ∀ i c T1, lk (st L k (b, cs, T)) i = some (b', c, T1) → ∃ i', (i = k ∧ i' = 0 ∨ i ≠ k ∧ i' = i + 1) ∧ lk ((b, cs, T) :: L) i' = some (b', c, T1) := fun i c T1 hi => by
   by_cases hik : i = k
   ·subst hik; rw [lk_st_same hk] at hi; exact ⟨0, .inl ⟨rfl, rfl⟩, hi⟩
   ·rw [lk_st_other hik] at hi; exact ⟨i + 1, .inr ⟨hik, rfl⟩, hi⟩
  obtain ⟨i', hi1, hi2⟩ := key i _ _ hi
  obtain ⟨j', hj1, hj2⟩ := key j _ _ hj
  have := h.inj i' j' b' c1 T1 c2 T2 hi2 hj2
  omega
section
variable {P : Program} {ops : Array Oper} {Q : Exit → Act → World → Prop} {rest : List Oper} {n : Nat} {m : FM} {w w0 : World} {L : List Ent}
variable {d : Nat} {ty : TypeId} {pos : String} {aft : Array Edge} {x y : Operand} {T E : TypeId} {z : Value} {nb : Nat}
theorem append_own {b len c k : Nat} {xs rs news : List Value} {v2 : Value} (hT : TSl P T E z nb) (H : HP w0 w L) (hk : lk L k = some (b, xs ++ rs, E)) (hlen : xs.length = len) (hcap : (xs ++ rs).length = c)
  (hr : Rd w v2 news) (h1 : ∀ v ∈ news, v.oneCell' = true) (hb : (len + news.length) * nb ≤ 140737488355328) (hb' : len + news.length ≤ 140737488355328) :
  ∃ b' rs' w', (Builtin.append_ #[T, T] ty #[sl b 0 len c, v2]).run P w = .ok (sl b' 0 (len + news.length) (xs ++ news ++ rs').length) w' ∧ HP w0 w' (st L k (b', xs ++ news ++ rs', E)) := by
 obtain ⟨i, hi1, hi2, hi3, hi4⟩ := hT.info
 have hblk := (H.blk k b _ E hk).1
 subst hlen
 rcases hr with ⟨rfl, rfl⟩ | ⟨b2, o2, c2, cs2, T2, fz2, rfl, hc2, hb2, ho2, hp2⟩
 ·refine ⟨b, rs, w, ?_, ?_⟩
  ·have hroom : xs.length + 0 ≤ c := by rw [← hcap]; simp
   have hst := run_storeCells_at P b (xs.length * 1) E [] 0 (xs ++ rs).toArray w hblk (by simp) (fun v hv => by simp at hv)
   simp only [Builtin.append_, Sem.run_bind, Go.underlying, run_program, hT.und, Result.andThen_ok, sizeOf, typeInfo, hi1, hi3, Sem.run_pure, Builtin.lenOf, hcap, List.length_nil, List.append_nil]
   simp [Builtin.lenOf, Builtin.firstCells, sizeOf, typeInfo, hi1, hi3, hroom, hcap, storeCells, hT.und]
   intro hh; simp at hroom; omega
  ·simp only [List.append_nil]
   exact H.set hk rfl rfl rfl rfl hblk (fun _ _ => rfl)
 ·have hnews : ∀ j u, news[j]? = some u → w.cell? ((⟨b2, o2, none⟩ : Addr).add j) = some u := fun j u hj => by
   rw [zdW, ziD hb2]
   have hjl := (List.getElem?_eq_some_iff.1 hj).1
   rw [← hp2, zbV, List.getElem?_take, if_pos hjl, List.getElem?_drop] at hj
   exact hj
  by_cases hroom : xs.length + news.length ≤ c
  ·refine ⟨b, rs.drop news.length, w.setRow b ((xs ++ rs).take (xs.length * i.size) ++ news ++ (xs ++ rs).drop (xs.length * i.size + news.length)).toArray, ?_, ?_⟩
   ·have hrun := run_append_room (P := P) w T ty E i hT.und hi1 b xs.length c (xs ++ rs).toArray hblk ⟨b2, o2, none⟩ news.length c2 news (by rw [hi3]; omega) hnews h1 hroom (by rw [hi3, Nat.mul_one]; simpa [← hcap] using hroom)
    have hcl : (xs ++ news ++ rs.drop news.length).length = c := by
     rw [← hcap]
     simp only [List.length_append, List.length_drop]
     rw [← hcap, List.length_append] at hroom
     omega
    rw [hcl]
    exact hrun
   ·have e1 : (xs ++ rs).take (xs.length * i.size) ++ news ++ (xs ++ rs).drop (xs.length * i.size + news.length) = xs ++ news ++ rs.drop news.length := by
     rw [hi3, Nat.mul_one, List.take_left, ← List.drop_drop, List.drop_left]
    rw [e1]
    exact H.set hk (setRow_size w b _) rfl rfl rfl (setRow_heap w b _ _ E (0, 0) hblk) (fun j hj => setRow_other w b j _ hj)
  ·have hnb : nb ≤ 140737488355328 ∨ True := .inr trivial
   have hfit := growslice_fits (bytes := nb) (Nat.lt_of_not_le hroom) hb
   have holds : ∀ j u, xs[j]? = some u → w.cell? ((⟨b, 0, none⟩ : Addr).add j) = some u := fun j u hj => by
    rw [zdW, ziD hblk, Nat.zero_add, List.getElem?_append_left (List.getElem?_eq_some_iff.1 hj).1]
    exact hj
   have hrun := run_append_grow (P := P) w T ty E i z hT.und hi1 hi2 ⟨b, 0, none⟩ xs.length c xs (by rw [hi3]; omega) holds ⟨b2, o2, none⟩ news.length c2 news (by rw [hi3]; omega) hnews (Nat.lt_of_not_le hroom) (by omega) (by rw [hi4]; exact hfit)
   have hge := grownCap_ge w (xs.length + news.length) c E
   have hsz := size_zeroCells z.cells (grownCap w (xs.length + news.length) c E - (xs.length + news.length))
   rw [hT.one] at hsz hrun
   generalize hG : grownCap w (xs.length + news.length) c E = G at hrun hge hsz
   generalize hZ : Builtin.zeroCells #[z] (G - (xs.length + news.length)) = Z at hrun hsz
   have hZl : Z.toList.length = G - (xs.length + news.length) := by simpa using hsz
   have hcl : (xs ++ news ++ Z.toList).length = G := by simp only [List.length_append, hZl]; omega
   have hcells : xs.toArray ++ news.toArray ++ Z = (xs ++ news ++ Z.toList).toArray := by apply Array.ext'; simp
   refine ⟨w.heap.size, Z.toList, w.drew.alloc (.cells (xs ++ news ++ Z.toList).toArray E), ?_, HP.moved hk ?_⟩
   ·rw [hcl, ← hcells]; exact hrun
   ·exact H.push ((Ext.drew w).trans (Ext.alloc w.drew _)) (Nat.le_refl _) (zcT w.drew _)
theorem tslMk {P : Program} {T E : TypeId} {z : Value} {nb : Nat} (h1 : P.underlying T = some (.slice E)) (h2 : (P.info? E).map (fun i => (i.zero, i.size, i.bytes)) = some (some z, 1, nb)) (h3 : z.cells = #[z]) : TSl P T E z nb := by
 refine ⟨h1, ?_, h3⟩
 cases hi : P.info? E with
 | none => simp [hi] at h2
 | some i =>
  simp only [hi, Option.map_some, Option.some.injEq, Prod.mk.injEq] at h2
  exact ⟨i, rfl, h2.1, h2.2.1, h2.2.2⟩
theorem Rd.ownA {w0 w : World} {L : List Ent} (H : HP w0 w L) {k b n c : Nat} {xs rs : List Value} {T : TypeId} (hk : lk L k = some (b, xs ++ rs, T)) (hn : xs.length = n) (hc : (xs ++ rs).length = c) : Rd w (sl b 0 n c) xs :=
 Rd.own H hk (by subst hn; rw [zbV]; simp) (by rw [Nat.zero_add, List.length_append]; omega) (by rw [List.length_append] at hc; omega)
theorem onesI {k : IntKind} {a : Int} : ∀ v ∈ [Value.int k a], v.oneCell' = true := fun v hv => by
 simp only [List.mem_singleton] at hv; subst hv; rfl
theorem zgD {b len c k : Nat} {xs rs news ys : List Value} {v2 : Value} (hT : TSl P T E z nb) (H : HP w0 w L) (hx : ev n m x = sl b 0 len c) (hk : lk L k = some (b, xs ++ rs, E)) (hlen : xs.length = len) (hcap : (xs ++ rs).length = c)
  (hy : ev n m y = v2) (hr : Rd w v2 news) (h1 : ∀ v ∈ news, v.oneCell' = true) (hys : xs ++ news = ys) (hb : ys.length * nb ≤ 140737488355328 ∧ ys.length ≤ 140737488355328)
  (h : ∀ w' b' rs', HP w0 w' (st L k (b', ys ++ rs', E)) → wpList P ops Q rest (fr n ((d, sl b' 0 ys.length (ys ++ rs').length) :: m)) w') :
  wpList P ops Q (⟨some d, .call ⟨.builtin .append, #[x, y], #[T, T]⟩, ty, pos, aft, none⟩ :: rest) (fr n m) w :=
 wpList_plain rfl fun K hK => by
  subst hys
  have hl : (xs ++ news).length = len + news.length := by rw [List.length_append, hlen]
  rw [hl] at hb h
  obtain ⟨b', rs', w', hrun, H'⟩ := append_own (ty := ty) hT H hk hlen hcap hr h1 hb.1 hb.2
  have hrun' : (execOp (ev n m) ⟨some d, .call ⟨.builtin .append, #[x, y], #[T, T]⟩, ty, pos, aft, none⟩).run P w = .ok (.value (sl b' 0 (len + news.length) (xs ++ news ++ rs').length)) w' := by
   simp [execOp, resolve, invoke, builtin, hx, hy, hrun]
  unfold Oper.wp; rw [zdX, hrun']; simp only [Oper.upon, zaH]
  exact hK _ _ (h w' b' rs' H')
theorem append_nil {news : List Value} {v2 : Value} (hT : TSl P T E z nb) (H : HP w0 w L) (hr : Rd w v2 news) (h0 : 0 < news.length) (hb : news.length * nb ≤ 140737488355328) (hb' : news.length ≤ 140737488355328) :
  ∃ b' rs' w', (Builtin.append_ #[T, T] ty #[.slice none 0 0, v2]).run P w = .ok (sl b' 0 news.length (news ++ rs').length) w' ∧ HP w0 w' ((b', news ++ rs', E) :: L) := by
 obtain ⟨i, hi1, hi2, hi3, hi4⟩ := hT.info
 rcases hr with ⟨rfl, rfl⟩ | ⟨b2, o2, c2, cs2, T2, fz2, rfl, hc2, hb2, ho2, hp2⟩
 ·exact absurd h0 (by decide)
 ·have hnews : ∀ j u, news[j]? = some u → w.cell? ((⟨b2, o2, none⟩ : Addr).add j) = some u := fun j u hj => by
   rw [zdW, ziD hb2]
   have hjl := (List.getElem?_eq_some_iff.1 hj).1
   rw [← hp2, zbV, List.getElem?_take, if_pos hjl, List.getElem?_drop] at hj
   exact hj
  have hrun := run_append_nil (P := P) w T ty E i z hT.und hi1 hi2 ⟨b2, o2, none⟩ news.length c2 news (by rw [hi3]; omega) hnews h0 (by omega) (by rw [hi4]; omega)
  have hge := grownCap_ge w news.length 0 E
  have hsz := size_zeroCells z.cells (grownCap w news.length 0 E - news.length)
  rw [hT.one] at hsz hrun
  generalize hG : grownCap w news.length 0 E = G at hrun hge hsz
  generalize hZ : Builtin.zeroCells #[z] (G - news.length) = Z at hrun hsz
  have hZl : Z.toList.length = G - news.length := by simpa using hsz
  have hcl : (news ++ Z.toList).length = G := by simp only [List.length_append, hZl]; omega
  have hcells : news.toArray ++ Z = (news ++ Z.toList).toArray := by apply Array.ext'; simp
  refine ⟨w.heap.size, Z.toList, w.drew.alloc (.cells (news ++ Z.toList).toArray E), ?_, ?_⟩
  ·rw [hcl, ← hcells]; exact hrun
  ·exact H.push ((Ext.drew w).trans (Ext.alloc w.drew _)) (Nat.le_refl _) (zcT w.drew _)
theorem p_appendN {news ys : List Value} {v2 : Value} (hT : TSl P T E z nb) (H : HP w0 w L) (hx : ev n m x = .slice none 0 0)
  (hy : ev n m y = v2) (hr : Rd w v2 news) (hys : news = ys) (h0 : 0 < ys.length) (hb : ys.length * nb ≤ 140737488355328 ∧ ys.length ≤ 140737488355328)
  (h : ∀ w' b' rs', HP w0 w' ((b', ys ++ rs', E) :: L) → wpList P ops Q rest (fr n ((d, sl b' 0 ys.length (ys ++ rs').length) :: m)) w') :
  wpList P ops Q (⟨some d, .call ⟨.builtin .append, #[x, y], #[T, T]⟩, ty, pos, aft, none⟩ :: rest) (fr n m) w :=
 wpList_plain rfl fun K hK => by
  subst hys
  obtain ⟨b', rs', w', hrun, H'⟩ := append_nil (ty := ty) hT H hr h0 hb.1 hb.2
  have hrun' : (execOp (ev n m) ⟨some d, .call ⟨.builtin .append, #[x, y], #[T, T]⟩, ty, pos, aft, none⟩).run P w = .ok (.value (sl b' 0 news.length (news ++ rs').length)) w' := by
   simp [execOp, resolve, invoke, builtin, hx, hy, hrun]
  unfold Oper.wp; rw [zdX, hrun']; simp only [Oper.upon, zaH]
  exact hK _ _ (h w' b' rs' H')
theorem toList_range_map (z : Value) (n : Nat) : ((Array.range n).map fun x => (#[z] : Array Value)[x % 1]!).toList = List.replicate n z := by
 apply List.ext_getElem?
 intro j
 by_cases hj : j < n <;> simp [hj, Nat.mod_one]
theorem fillL_slice {sz : Nat} {ps : List (Nat × Value)} {N : Nat} {cs l : List Value} (h : fillL ((List.range' 0 N).map fun i => (i * sz, sz)) cs ps = some l) : Instr.fill (fun i => some (i * sz, sz)) cs.toArray ps = some l.toArray :=
 fill_of (fun i => by simpa using lkp_array sz N 0 i) ps cs l h
theorem run_bslice {e : Operand → Value} {N : Nat} {ps : List (Nat × Operand)} {vals : List (Nat × Value)} {l : List Value} {dst : Option Tmp} {g : Option (Nat × Bool)} (hT : TSl P T E z nb) (hp : bparts e ps = vals)
  (hl : fillL ((List.range' 0 N).map fun i => (i * 1, 1)) (List.replicate N z) vals = some l) (hN : N ≤ 16777216) :
  (execOp e ⟨dst, .buildSlice T N ps.toArray, ty, pos, aft, g⟩).run P w = .ok (.value (sl w.heap.size 0 N N)) (w.alloc (.cells l.toArray E)) := by
 obtain ⟨i, hi1, hi2, hi3, hi4⟩ := hT.info
 have e1 : (ps.toArray.map fun (i, x) => (i, e x)) = vals.toArray := by
  rw [← hp, ← bparts_eq]; simp
 have hf := fillL_slice hl
 have hN' : ¬ 16777216 < N := by omega
 simp only [execOp, Sem.run_bind]
 rw [e1]
 by_cases h0 : N = 0
 ·subst h0
  simp only [List.replicate, Nat.mul_one] at hf
  have hr' : (Array.map (fun _ => (default : Value)) (Array.range 0)) = #[] := by simp
  simp [Instr.buildSlice, Go.underlying, hT.und, hT.size, newRow, sl]
  rw [hr', hf]
  simp
 ·have hr := toList_range_map z N
  have hr' : ((Array.range N).map fun x => (#[z] : Array Value)[x % 1]!) = (List.replicate N z).toArray := by rw [← hr]
  simp at hr'
  simp only [Nat.mul_one] at hf
  simp only [List.toArray_replicate] at hf
  simp [Instr.buildSlice, Go.underlying, hT.und, hT.size, newRow, sl, h0, hN', zeroValue, typeInfo, hi1, hi2, hT.one]
  rw [hr', hf]
  simp
theorem zfH {N : Nat} {ps : List (Nat × Operand)} {vals : List (Nat × Value)} {l ys : List Value} (hT : TSl P T E z nb) (H : HP w0 w L) (hp : bparts (ev n m) ps = vals)
  (hl : fillL ((List.range' 0 N).map fun i => (i * 1, 1)) (List.replicate N z) vals = some l) (hN : Nat.ble N 16777216 = true) (hlen : l.length = N) (hys : l = ys)
  (h : ∀ w' b, HP w0 w' ((b, ys ++ [], E) :: L) → wpList P ops Q rest (fr n ((d, sl b 0 ys.length (ys ++ []).length) :: m)) w') :
  wpList P ops Q (⟨some d, .buildSlice T N ps.toArray, ty, pos, aft, none⟩ :: rest) (fr n m) w :=
 wpList_plain rfl fun K hK => by
  subst hys
  have hrun := run_bslice (w := w) (ty := ty) (pos := pos) (aft := aft) (dst := some d) (g := none) hT hp hl (Nat.le_of_ble_eq_true hN)
  unfold Oper.wp; rw [zdX, hrun]; simp only [Oper.upon, zaH]
  have hh := h _ _ (by rw [List.append_nil]; exact H.alloc l E)
  rw [List.append_nil, hlen] at hh
  exact hK _ _ hh
theorem HP.of (h : Ext w0 w) : HP w0 w [] := (HP.start w0).ext h
end
def Bk (w : World) (b : Nat) (cs : List Value) (T : TypeId) : Prop := w.heap[b]? = some (.cells cs.toArray T (0, 0))
theorem Bk.ext {w w' : World} {b : Nat} {cs : List Value} {T : TypeId} (h : Bk w b cs T) (hx : Ext w w') : Bk w' b cs T := by
 have hb := zhF h
 unfold Bk at *
 rw [Below.block hx b hb]
 exact h
theorem Bk.hp {w0 w : World} {L : List Ent} {b : Nat} {cs : List Value} {T : TypeId} (h : Bk w0 b cs T) (H : HP w0 w L) : Bk w b cs T := h.ext H.below
section
variable {P : Program} {w w0 : World} {e : Operand → Value} {dst : Option Tmp} {g : Option (Nat × Bool)} {ty : TypeId} {pos : String} {aft : Array Edge} {x y : Operand} {T T' : TypeId} {b o sz : Nat} {cs l : List Value} {v : Value}
end
theorem wrapN {k : IntKind} (hk : k.signed = false) (n : Nat) : k.wrap (n : Int) = ((n % 2 ^ k.bits : Nat) : Int) := by
 simp only [IntKind.wrap, hk, Bool.false_and, Bool.false_eq_true, if_false]
 rw [Int.natCast_emod]; congr 1
theorem wrapS {k : IntKind} (hk : k.signed = false) {n : Nat} (hn : n < 2 ^ k.bits) : k.wrap (n : Int) = (n : Int) := by rw [wrapN hk, Nat.mod_eq_of_lt hn]
theorem shrN {n b m : Nat} (h : b ≤ m) : (n : Int).fdiv (2 ^ (min ((b : Int).toNat) m)) = ((n / 2 ^ b : Nat) : Int) := by
 rw [Int.toNat_natCast, Nat.min_eq_left h]
 rw [show ((2 : Int) ^ b) = ((2 ^ b : Nat) : Int) by rw [Int.natCast_pow]; rfl]
 exact (Int.ofNat_fdiv n (2 ^ b)).symm
theorem ofNatBV (k : IntKind) (x : Nat) (hx : x < 2 ^ k.bits) : (BitVec.ofInt k.bits (x : Int)).toNat = x := by
 simp [Nat.mod_eq_of_lt hx]
theorem andN {k : IntKind} (hk : k.signed = false) {x y : Nat} (hx : x < 2 ^ k.bits) (hy : y < 2 ^ k.bits) : bits .and k (x : Int) (y : Int) = ((x &&& y : Nat) : Int) := by
 simp only [bits, BitVec.toNat_and, ofNatBV k x hx, ofNatBV k y hy]
 exact wrapS hk (Nat.lt_of_le_of_lt Nat.and_le_left hx)
theorem orN {k : IntKind} (hk : k.signed = false) {x y : Nat} (hx : x < 2 ^ k.bits) (hy : y < 2 ^ k.bits) : bits .or k (x : Int) (y : Int) = ((x ||| y : Nat) : Int) := by
 simp only [bits, BitVec.toNat_or, ofNatBV k x hx, ofNatBV k y hy]
 exact wrapS hk (Nat.or_lt_two_pow hx hy)
theorem xorN {k : IntKind} (hk : k.signed = false) {x y : Nat} (hx : x < 2 ^ k.bits) (hy : y < 2 ^ k.bits) : bits .xor k (x : Int) (y : Int) = ((x ^^^ y : Nat) : Int) := by
 simp only [bits, BitVec.toNat_xor, ofNatBV k x hx, ofNatBV k y hy]
 exact wrapS hk (Nat.xor_lt_two_pow hx hy)
theorem maskN {k : IntKind} (hk : k.signed = false) {x : Nat} (n : Nat) (hx : x < 2 ^ k.bits) (hn : n ≤ k.bits) : bits .and k (x : Int) ((2 ^ n - 1 : Nat) : Int) = ((x % 2 ^ n : Nat) : Int) := by
 have hp : 2 ^ n ≤ 2 ^ k.bits := Nat.pow_le_pow_right (by decide) hn
 have : 0 < 2 ^ n := Nat.pow_pos (by decide)
 rw [andN hk hx (by omega), Nat.and_two_pow_sub_one_eq_mod]
theorem joinN {k : IntKind} (hk : k.signed = false) {x y n : Nat} (hy : y < 2 ^ n) (h : x * 2 ^ n + y < 2 ^ k.bits) : bits .or k ((x * 2 ^ n : Nat) : Int) (y : Int) = ((x * 2 ^ n + y : Nat) : Int) := by
 have h1 : x * 2 ^ n < 2 ^ k.bits := by omega
 have h2 : y < 2 ^ k.bits := by omega
 rw [orN hk h1 h2, Nat.mul_comm x, Nat.two_pow_add_eq_or_of_lt hy]
abbrev str (l : List UInt8) : Value := .string ⟨l.toArray⟩
def u8s (l : List UInt8) : List Value := l.map fun b => Value.int .u8 (b.toNat : Int)
theorem zcV (l : List UInt8) : (u8s l).length = l.length := by simp [u8s]
theorem u8s_get {l : List UInt8} {i : Nat} {b : UInt8} (h : l[i]? = some b) : (u8s l)[i]? = some (.int .u8 (b.toNat : Int)) := by simp [u8s, h]
theorem zgG (a : List UInt8) (b : UInt8) : u8s a ++ [.int .u8 (b.toNat : Int)] = u8s (a ++ [b]) := by simp [u8s]
theorem str_size (l : List UInt8) : (⟨l.toArray⟩ : ByteArray).size = l.length := by simp [ByteArray.size]
theorem str_append (a b : List UInt8) : (⟨a.toArray⟩ : ByteArray) ++ ⟨b.toArray⟩ = ⟨(a ++ b).toArray⟩ := by
 apply ByteArray.ext
 simp
theorem str_extract (l : List UInt8) (p h : Nat) : (⟨l.toArray⟩ : ByteArray).extract p h = ⟨((l.take h).drop p).toArray⟩ := by
 apply ByteArray.ext
 simp [ByteArray.data_extract, List.extract_toArray, List.extract_eq_take_drop, List.drop_take]
theorem str_toList (l : List UInt8) : (⟨l.toArray⟩ : ByteArray).toList = l := by
 simp
section
variable {P : Program} {w : World} {e : Operand → Value} {dst : Option Tmp} {g : Option (Nat × Bool)} {ty : TypeId} {pos : String} {aft : Array Edge} {x y lo hi : Operand} {T : TypeId} {k k' : IntKind} {a b : Int} {l r : List UInt8} {t : Bool}
theorem zkQ {N : Nat} (h1 : P.underlying T = some .string) (hx : e x = str l) (hN : l.length = N) :
  (execOp e ⟨dst, .call ⟨.builtin .len, #[x], #[T]⟩, ty, pos, aft, g⟩).run P w = .ok (.value (.int .i64 (N : Int))) w := by
 subst hN
 have := r_lenS (P := P) (w := w) (e := e) (dst := dst) (g := g) (ty := ty) (pos := pos) (aft := aft) (args := []) (at_ := []) h1 hx
 rw [this, str_size]
theorem r_idxT {i : Nat} {u : UInt8} (h1 : P.underlying T = some .string) (hx : e x = str l) (hy : e y = .int k a) (ha : a = (i : Int)) (hv : l[i]? = some u) :
  (execOp e ⟨dst, .index T x y, ty, pos, aft, g⟩).run P w = .ok (.value (.int .u8 (u.toNat : Int))) w := by
 subst ha
 have hi := (List.getElem?_eq_some_iff.1 hv).1
 have hv' := (List.getElem?_eq_some_iff.1 hv).2
 have h2 : (⟨l.toArray⟩ : ByteArray)[i]? = some u := by
  rw [getElem?_pos (⟨l.toArray⟩ : ByteArray) i (by simpa [ByteArray.size] using hi)]
  exact congrArg some hv'
 simp [execOp, Instr.index, asIntOf, Go.underlying, h1, hx, hy, h2]
theorem r_sliceT {p h : Nat} (h1 : P.underlying T = some .string) (hx : e x = str l) (hz : e lo = .int k' b) (hy : e hi = .int k a) (hb : b = (p : Int)) (ha : a = (h : Int)) (hp : p ≤ h) (hh : h ≤ l.length) (hr : (l.take h).drop p = r) :
  (execOp e ⟨dst, .slice T x (some lo) (some hi) none, ty, pos, aft, g⟩).run P w = .ok (.value (str r)) w := by
 simp [execOp, Instr.sliceAt, Instr.slice, Instr.sliceBounds, Go.underlying, h1, hx, hz, hy, zdZ (P := P) (w := w) ha (y := l.length) hh, zdZ (P := P) (w := w) hb hp, str_size, str_extract, hr]
theorem r_sliceTL {p : Nat} (h1 : P.underlying T = some .string) (hx : e x = str l) (hz : e lo = .int k' b) (hb : b = (p : Int)) (hp : p ≤ l.length) (hr : l.drop p = r) :
  (execOp e ⟨dst, .slice T x (some lo) none none, ty, pos, aft, g⟩).run P w = .ok (.value (str r)) w := by
 simp [execOp, Instr.sliceAt, Instr.slice, Instr.sliceBounds, Go.underlying, h1, hx, hz, zdZ (P := P) (w := w) hb hp, str_size, str_extract, hr]
theorem r_sliceTH {h : Nat} (h1 : P.underlying T = some .string) (hx : e x = str l) (hy : e hi = .int k a) (ha : a = (h : Int)) (hh : h ≤ l.length) (hr : l.take h = r) :
  (execOp e ⟨dst, .slice T x none (some hi) none, ty, pos, aft, g⟩).run P w = .ok (.value (str r)) w := by
 simp [execOp, Instr.sliceAt, Instr.slice, Instr.sliceBounds, Go.underlying, h1, hx, hy, zdZ (P := P) (w := w) ha (y := l.length) hh, str_size, str_extract, hr]
theorem u8s_strOf (l : List UInt8) : strOfNums (l.map fun b => (b.toNat : Int)) = ⟨l.toArray⟩ := by
 apply ByteArray.ext
 apply Array.toList_inj.1
 rw [strOfNums_data]
 simp [Function.comp_def]
theorem r_ofBytes {E T2 : TypeId} {v : Value} (hs : P.underlying T = some (.slice E)) (he : P.underlying E = some (.int .u8)) (hd : P.underlying T2 = some .string) (hx : e x = v) (hr : Rd w v (u8s l)) :
  (execOp e ⟨dst, .convert T T2 x, ty, pos, aft, g⟩).run P w = .ok (.value (str l)) w := by
 have key : (convert T T2 v).run P w = .ok (str l) w := by
  rcases hr with ⟨rfl, h2⟩ | ⟨b, o, c, cs, T', fz, rfl, h3, h4, h5, h6⟩
  ·have : l = [] := by simpa [u8s] using h2
   subst this
   rw [run_convert_bytes_string w T T2 E none 0 0 hs he hd]
   simp [Conv.bytesToString]
   rfl
  ·have h7 := run_convert_bytes_arg (P := P) w T E hs he b o (u8s l).length c (l.map fun b => (b.toNat : Int)) (by simp [u8s]) (fun i hi => by
    rw [ziD h4]
    rw [zbV] at h6
    have h8 : ((cs.drop o).take (u8s l).length)[i]? = (u8s l)[i]? := by rw [h6]
    rw [List.getElem?_take, if_pos hi, List.getElem?_drop] at h8
    rw [h8]
    rw [zcV] at hi
    simp [u8s, hi]) T2 hd
   rw [h7, u8s_strOf]
 simp [execOp, hx, key]
variable {l1 l2 : List UInt8} {T' : TypeId}
theorem run_cat (hn : l1.length + l2.length ≤ 9223372036854775807) : (Op.stringOp .add ⟨l1.toArray⟩ ⟨l2.toArray⟩).run P w = .ok (str (l1 ++ l2)) w := by
 simp only [Op.stringOp, str_size, str_append]
 rw [if_neg (by have : IntKind.i64.max = 9223372036854775807 := by decide
                rw [this]; omega)]
 rfl
theorem r_cat (hx : e x = str l1) (hy : e y = str l2) (hn : l1.length + l2.length ≤ 9223372036854775807) (hr : l1 ++ l2 = r) :
  (execOp e ⟨dst, .binOp .add T x y T', ty, pos, aft, g⟩).run P w = .ok (.value (str r)) w := by
 have := run_cat (P := P) (w := w) hn
 simp [execOp, eqGuard, binOp, hx, hy, this, hr]
theorem r_eqT (hx : e x = str l1) (hy : e y = str l2) (h : (l1 == l2) = t) : (execOp e ⟨dst, .binOp .eql T x y T', ty, pos, aft, g⟩).run P w = .ok (.value (.bool t)) w := by
 simp [execOp, eqGuard, binOp, hx, hy, Op.stringOp, str_toList, ← h]
theorem r_neT (hx : e x = str l1) (hy : e y = str l2) (h : (l1 != l2) = t) : (execOp e ⟨dst, .binOp .neq T x y T', ty, pos, aft, g⟩).run P w = .ok (.value (.bool t)) w := by
 simp [execOp, eqGuard, binOp, hx, hy, Op.stringOp, str_toList, ← h, bne]
end
def U (x : Int) : Prop := 0 ≤ x ∧ x < 18446744073709551616
def C1 (x : Int) : Prop := x = 0 ∨ x = 1
theorem C1_0 : C1 0 := .inl rfl
theorem U_0 : U 0 := by unfold U; omega
theorem C1.U {x : Int} (h : C1 x) : U x := by unfold C1 at h; unfold Proofs.YtmbcolbbekbccaaGreat.U; omega
def lm (A i : Nat) : Int := ((A / 2 ^ (64 * i) % 2 ^ 64 : Nat) : Int)
theorem U_lm (A i : Nat) : U (lm A i) := by
 unfold U lm
 have := Nat.mod_lt (A / 2 ^ (64 * i)) (show 0 < 2 ^ 64 by decide)
 omega
def numL (A : Nat) : List Value := [.int .u64 (lm A 0), .int .u64 (lm A 1), .int .u64 (lm A 2), .int .u64 (lm A 3)]
abbrev numV (A : Nat) : Value := .agg (numL A).toArray
def val4 (a b c d : Int) : Nat := (a + b * 18446744073709551616 + c * 340282366920938463463374607431768211456 + d * 6277101735386680763835789423207666416102355444464034512896).toNat
def zaE : Nat := 115792089237316195423570985008687907853269984665640564039457584007913129639936
theorem zcL : 0 < zaE := by decide
theorem lm_val (A : Nat) : lm A 0 + lm A 1 * 18446744073709551616 + lm A 2 * 340282366920938463463374607431768211456 + lm A 3 * 6277101735386680763835789423207666416102355444464034512896 = ((A % zaE : Nat) : Int) := by
 unfold lm zaE
 simp only [Nat.reduceMul, Nat.reducePow, Nat.pow_zero, Nat.div_one]
 omega
theorem lm_of {a b c d : Int} (ha : U a) (hb : U b) (hc : U c) (hd : U d) {A : Nat} (h : a + b * 18446744073709551616 + c * 340282366920938463463374607431768211456 + d * 6277101735386680763835789423207666416102355444464034512896 = (A : Int)) :
  lm A 0 = a ∧ lm A 1 = b ∧ lm A 2 = c ∧ lm A 3 = d := by
 unfold lm U at *
 simp only [Nat.reduceMul, Nat.reducePow, Nat.pow_zero, Nat.div_one]
 omega
theorem numL_of {a b c d : Int} (ha : U a) (hb : U b) (hc : U c) (hd : U d) {A : Nat} (h : a + b * 18446744073709551616 + c * 340282366920938463463374607431768211456 + d * 6277101735386680763835789423207666416102355444464034512896 = (A : Int)) :
  ([.int .u64 a, .int .u64 b, .int .u64 c, .int .u64 d] : List Value) = numL A := by
 obtain ⟨h1, h2, h3, h4⟩ := lm_of ha hb hc hd h
 unfold numL; rw [h1, h2, h3, h4]
theorem numL_inj {A B : Nat} (h : numL A = numL B) : A % zaE = B % zaE := by
 unfold numL at h
 simp only [List.cons.injEq, Value.int.injEq, true_and, and_true] at h
 have h1 := lm_val A
 have h2 := lm_val B
 rw [h.1, h.2.1, h.2.2.1, h.2.2.2, h2] at h1
 exact Int.ofNat.inj h1.symm
def sd (x y b : Int) : Int := (x - y - b) % 18446744073709551616
def sb (x y b : Int) : Int := if x < y + b then 1 else 0
def ad (x y c : Int) : Int := (x + y + c) % 18446744073709551616
def ac (x y c : Int) : Int := if x + y + c < 18446744073709551616 then 0 else 1
theorem U_sd (x y b : Int) : U (sd x y b) := by unfold U sd; omega
theorem C_sb (x y b : Int) : C1 (sb x y b) := by unfold C1 sb; split <;> omega
theorem U_ad (x y b : Int) : U (ad x y b) := by unfold U ad; omega
theorem C_ac (x y c : Int) : C1 (ac x y c) := by unfold C1 ac; split <;> omega
theorem ac_eq {x y c : Int} (hx : U x) (hy : U y) (hc : C1 c) : (x + y + c) / 18446744073709551616 = ac x y c := by unfold C1 U ac at *; split <;> omega
theorem sd_eq {x y b : Int} (hx : U x) (hy : U y) (hb : C1 b) : sd x y b = x - y - b + 18446744073709551616 * sb x y b := by
 unfold sd sb U C1 at *; split <;> omega
theorem ad_eq {x y c : Int} (hx : U x) (hy : U y) (hc : C1 c) : ad x y c + 18446744073709551616 * ac x y c = x + y + c := by
 rw [← ac_eq hx hy hc]; unfold ad; omega
def lessL (a0 a1 a2 a3 b0 b1 b2 b3 : Int) : List Value :=
 [.int .u64 (sd a0 b0 0), .int .u64 (sd a1 b1 (sb a0 b0 0)), .int .u64 (sd a2 b2 (sb a1 b1 (sb a0 b0 0))), .int .u64 (sd a3 b3 (sb a2 b2 (sb a1 b1 (sb a0 b0 0))))]
def lessB (a0 a1 a2 a3 b0 b1 b2 b3 : Int) : Int := sb a3 b3 (sb a2 b2 (sb a1 b1 (sb a0 b0 0)))
theorem less_fin (A B : Nat) (hA : A < zaE) (hB : B < zaE) :
  lessL (lm A 0) (lm A 1) (lm A 2) (lm A 3) (lm B 0) (lm B 1) (lm B 2) (lm B 3) = numL ((A + (zaE - B)) % zaE) ∧
  (lessB (lm A 0) (lm A 1) (lm A 2) (lm A 3) (lm B 0) (lm B 1) (lm B 2) (lm B 3) == 1) = decide (A < B) := by
 have eA := lm_val A
 have eB := lm_val B
 rw [Nat.mod_eq_of_lt hA] at eA
 rw [Nat.mod_eq_of_lt hB] at eB
 have a0 := U_lm A 0; have a1 := U_lm A 1; have a2 := U_lm A 2; have a3 := U_lm A 3
 have b0 := U_lm B 0; have b1 := U_lm B 1; have b2 := U_lm B 2; have b3 := U_lm B 3
 unfold lessL lessB
 generalize lm A 0 = x0 at *; generalize lm A 1 = x1 at *; generalize lm A 2 = x2 at *; generalize lm A 3 = x3 at *
 generalize lm B 0 = y0 at *; generalize lm B 1 = y1 at *; generalize lm B 2 = y2 at *; generalize lm B 3 = y3 at *
 have c0 := C_sb x0 y0 0
 have e0 := sd_eq a0 b0 C1_0
 have u0 := U_sd x0 y0 0
 generalize sb x0 y0 0 = s0 at *; generalize sd x0 y0 0 = d0 at *
 have c1 := C_sb x1 y1 s0
 have e1 := sd_eq a1 b1 c0
 have u1 := U_sd x1 y1 s0
 generalize sb x1 y1 s0 = s1 at *; generalize sd x1 y1 s0 = d1 at *
 have c2 := C_sb x2 y2 s1
 have e2 := sd_eq a2 b2 c1
 have u2 := U_sd x2 y2 s1
 generalize sb x2 y2 s1 = s2 at *; generalize sd x2 y2 s1 = d2 at *
 have c3 := C_sb x3 y3 s2
 have e3 := sd_eq a3 b3 c2
 have u3 := U_sd x3 y3 s2
 generalize sb x3 y3 s2 = s3 at *; generalize sd x3 y3 s2 = d3 at *
 unfold zaE at *
 refine ⟨numL_of u0 u1 u2 u3 ?_, ?_⟩
 ·unfold C1 U at *
  by_cases h : A < B
  ·rw [Nat.mod_eq_of_lt (by omega)]; omega
  ·rw [show A + (115792089237316195423570985008687907853269984665640564039457584007913129639936 - B) = (A - B) + 115792089237316195423570985008687907853269984665640564039457584007913129639936 by omega, Nat.add_mod_right, Nat.mod_eq_of_lt (by omega)]; omega
 ·rw [Bool.eq_iff_iff]
  simp only [beq_iff_eq, decide_eq_true_eq]
  unfold C1 U at *
  omega
def PP : Nat := 115792089210356248762697446949407573530086143415290314195533631308867097853951
def NN : Nat := 115792089210356248762697446949407573529996955224135760342422259061068512044369
def modN (m : Int) : Nat := bif m == 0 then PP else NN
theorem zlB (m : Int) : modN m = PP ∨ modN m = NN := by unfold modN; cases m == 0 <;> simp
def Mod (p : Nat) : Prop := zaE < 2 * p ∧ p < zaE
theorem mod_PP : Mod PP := by unfold Mod zaE PP; omega
theorem mod_NN : Mod NN := by unfold Mod zaE NN; omega
theorem zbF (m : Int) : Mod (modN m) := by rcases zlB m with h | h <;> rw [h]; exact mod_PP; exact mod_NN
theorem Mod.lt {p : Nat} (h : Mod p) : p < zaE := h.2
theorem Mod.pos {p : Nat} (h : Mod p) : 0 < p := by unfold Mod zaE at h; omega
theorem lt_lit {a : Nat} (h : Nat.blt a zaE = true) : a < zaE := by rw [nat_blt] at h; simpa using h
theorem zjA {a b c d : Nat} (A : Nat) (ha : a < 18446744073709551616) (hb : b < 18446744073709551616) (hc : c < 18446744073709551616) (hd : d < 18446744073709551616) (h : a + b * 18446744073709551616 + c * 340282366920938463463374607431768211456 + d * 6277101735386680763835789423207666416102355444464034512896 = A) :
  ([.int .u64 (a : Int), .int .u64 (b : Int), .int .u64 (c : Int), .int .u64 (d : Int)] : List Value) = numL A :=
 numL_of (by unfold U; omega) (by unfold U; omega) (by unfold U; omega) (by unfold U; omega) (by omega)
theorem num_PP : ([.int .u64 18446744073709551615, .int .u64 4294967295, .int .u64 0, .int .u64 18446744069414584321] : List Value) = numL PP :=
 zjA (a := 18446744073709551615) (b := 4294967295) (c := 0) (d := 18446744069414584321) PP (by decide) (by decide) (by decide) (by decide) (by unfold PP; decide)
theorem num_NN : ([.int .u64 17562291160714782033, .int .u64 13611842547513532036, .int .u64 18446744073709551615, .int .u64 18446744069414584320] : List Value) = numL NN :=
 zjA (a := 17562291160714782033) (b := 13611842547513532036) (c := 18446744073709551615) (d := 18446744069414584320) NN (by decide) (by decide) (by decide) (by decide) (by unfold NN; decide)
theorem num_0 : ([.int .u64 0, .int .u64 0, .int .u64 0, .int .u64 0] : List Value) = numL 0 := zjA (a := 0) (b := 0) (c := 0) (d := 0) 0 (by decide) (by decide) (by decide) (by decide) (by decide)
theorem num_lit (a : Nat) (ha : a < 18446744073709551616) : ([.int .u64 (a : Int), .int .u64 0, .int .u64 0, .int .u64 0] : List Value) = numL a :=
 zjA (b := 0) (c := 0) (d := 0) a ha (by decide) (by decide) (by decide) (by omega)
def onceN (A p : Nat) (c : Int) : Nat := if c = 1 ∨ p ≤ A then (A + (zaE - p)) % zaE else A
theorem onceN_eq {A p : Nat} {c : Int} (hA : A < zaE) (hp : Mod p) (hc : C1 c) (h : A + c.toNat * zaE < 2 * p) : onceN A p c = (A + c.toNat * zaE) % p := by
 have hpl := hp.2
 have hsub : ∀ X, p ≤ X → X < 2 * p → X % p = X - p := fun X h1 h2 => by
  rw [Nat.mod_eq_sub_mod h1]; exact Nat.mod_eq_of_lt (by omega)
 unfold onceN
 rcases hc with rfl | rfl
 ·have h' : A < 2 * p := by simpa using h
  simp only [Int.toNat_zero, Nat.zero_mul, Nat.add_zero]
  by_cases h1 : p ≤ A
  ·rw [if_pos (.inr h1), hsub A h1 h', show A + (zaE - p) = (A - p) + zaE by omega, Nat.add_mod_right]
   exact Nat.mod_eq_of_lt (by omega)
  ·rw [if_neg (by omega)]
   exact (Nat.mod_eq_of_lt (by omega)).symm
 ·have h' : A + zaE < 2 * p := by simpa using h
  have h1 : p ≤ A + zaE := by omega
  simp only [Int.toNat_one, Nat.one_mul, true_or, if_true]
  rw [hsub _ h1 h']
  have e : (A + (zaE - p)) % zaE = A + (zaE - p) := Nat.mod_eq_of_lt (by omega)
  omega
theorem onceN_0 {A p : Nat} (hA : A < zaE) (hp : Mod p) : onceN A p 0 = A % p := by
 have := onceN_eq (c := 0) hA hp C1_0 (by simp; unfold Mod at hp; omega)
 simpa using this
theorem onceN_lt {A p : Nat} {c : Int} (hA : A < zaE) : onceN A p c < zaE := by
 unfold onceN; split
 ·exact Nat.mod_lt _ (by decide)
 ·exact hA
def addL (a0 a1 a2 a3 b0 b1 b2 b3 : Int) : List Value :=
 [.int .u64 (ad a0 b0 0), .int .u64 (ad a1 b1 (ac a0 b0 0)), .int .u64 (ad a2 b2 (ac a1 b1 (ac a0 b0 0))), .int .u64 (ad a3 b3 (ac a2 b2 (ac a1 b1 (ac a0 b0 0))))]
def addC (a0 a1 a2 a3 b0 b1 b2 b3 : Int) : Int := ac a3 b3 (ac a2 b2 (ac a1 b1 (ac a0 b0 0)))
theorem add_fin (A B : Nat) (hA : A < zaE) (hB : B < zaE) :
  addL (lm A 0) (lm A 1) (lm A 2) (lm A 3) (lm B 0) (lm B 1) (lm B 2) (lm B 3) = numL ((A + B) % zaE) ∧
  addC (lm A 0) (lm A 1) (lm A 2) (lm A 3) (lm B 0) (lm B 1) (lm B 2) (lm B 3) = ((A + B) / zaE : Nat) := by
 have eA := lm_val A
 have eB := lm_val B
 rw [Nat.mod_eq_of_lt hA] at eA
 rw [Nat.mod_eq_of_lt hB] at eB
 have a0 := U_lm A 0; have a1 := U_lm A 1; have a2 := U_lm A 2; have a3 := U_lm A 3
 have b0 := U_lm B 0; have b1 := U_lm B 1; have b2 := U_lm B 2; have b3 := U_lm B 3
 unfold addL addC
 generalize lm A 0 = x0 at *; generalize lm A 1 = x1 at *; generalize lm A 2 = x2 at *; generalize lm A 3 = x3 at *
 generalize lm B 0 = y0 at *; generalize lm B 1 = y1 at *; generalize lm B 2 = y2 at *; generalize lm B 3 = y3 at *
 have c0 := C_ac x0 y0 0
 have e0 := ad_eq a0 b0 C1_0
 have u0 := U_ad x0 y0 0
 generalize ac x0 y0 0 = s0 at *; generalize ad x0 y0 0 = d0 at *
 have c1 := C_ac x1 y1 s0
 have e1 := ad_eq a1 b1 c0
 have u1 := U_ad x1 y1 s0
 generalize ac x1 y1 s0 = s1 at *; generalize ad x1 y1 s0 = d1 at *
 have c2 := C_ac x2 y2 s1
 have e2 := ad_eq a2 b2 c1
 have u2 := U_ad x2 y2 s1
 generalize ac x2 y2 s1 = s2 at *; generalize ad x2 y2 s1 = d2 at *
 have c3 := C_ac x3 y3 s2
 have e3 := ad_eq a3 b3 c2
 have u3 := U_ad x3 y3 s2
 generalize ac x3 y3 s2 = s3 at *; generalize ad x3 y3 s2 = d3 at *
 unfold zaE at *
 have key : ((A + B : Nat) : Int) = d0 + d1 * 18446744073709551616 + d2 * 340282366920938463463374607431768211456 + d3 * 6277101735386680763835789423207666416102355444464034512896 + s3 * 115792089237316195423570985008687907853269984665640564039457584007913129639936 := by omega
 have hb : 0 ≤ d0 + d1 * 18446744073709551616 + d2 * 340282366920938463463374607431768211456 + d3 * 6277101735386680763835789423207666416102355444464034512896 ∧ d0 + d1 * 18446744073709551616 + d2 * 340282366920938463463374607431768211456 + d3 * 6277101735386680763835789423207666416102355444464034512896 < 115792089237316195423570985008687907853269984665640564039457584007913129639936 := by unfold U at *; omega
 clear eA eB e0 e1 e2 e3
 refine ⟨numL_of u0 u1 u2 u3 ?_, ?_⟩
 ·unfold C1 at *; omega
 ·unfold C1 at *; omega
theorem sum_eq {A B p : Nat} (hp : Mod p) (hA : A < p) (hB : B < p) : onceN ((A + B) % zaE) p ((A + B) / zaE : Nat) = (A + B) % p := by
 have hpl := hp.2
 have h2 : (A + B) / zaE ≤ 1 := Nat.le_of_lt_succ (Nat.div_lt_of_lt_mul (by omega))
 rw [onceN_eq (Nat.mod_lt _ (by decide)) hp (by unfold C1; generalize (A + B) / zaE = q at *; omega)]
 ·congr 1; have := Nat.mod_add_div (A + B) zaE; simp only [Int.toNat_natCast]; rw [Nat.mul_comm]; exact this
 ·have := Nat.mod_add_div (A + B) zaE; simp only [Int.toNat_natCast]; rw [Nat.mul_comm, this]; omega
theorem neg_eq {A p : Nat} (hp : Mod p) (hA : A < p) (h0 : A ≠ 0) : (p + (zaE - A)) % zaE = (p - A) % p := by
 have hpl := hp.2
 rw [show p + (zaE - A) = (p - A) + zaE by omega, Nat.add_mod_right, Nat.mod_eq_of_lt (by omega), Nat.mod_eq_of_lt (by omega)]
section
def u32s (l : List Nat) : List Value := l.map fun (d : Nat) => Value.int .u32 (d : Int)
def dval : List Nat → Nat
 | [] => 0
 | d :: l => d + 65536 * dval l
def digs (n : Nat) : List Nat := if h : n = 0 then [] else n % 65536 :: digs (n / 65536)
termination_by n
decreasing_by exact Nat.div_lt_self (Nat.pos_of_ne_zero h) (by decide)
def DL (l : List Nat) : Prop := ∀ d ∈ l, d < 65536
theorem zjG : digs 0 = [] := by rw [digs]; simp
theorem zlA {n : Nat} (h : n ≠ 0) : digs n = n % 65536 :: digs (n / 65536) := by rw [digs]; simp [h]
theorem digs_DL (n : Nat) : DL (digs n) := by
 induction n using Nat.strongRecOn with
 | _ n ih =>
  by_cases h : n = 0
  ·subst h; rw [zjG]; intro d hd; cases hd
  ·rw [zlA h]
   intro d hd
   rcases List.mem_cons.1 hd with rfl | hd
   ·exact Nat.mod_lt _ (by decide)
   ·exact ih (n / 65536) (Nat.div_lt_self (Nat.pos_of_ne_zero h) (by decide)) d hd
theorem dval_digs (n : Nat) : dval (digs n) = n := by
 induction n using Nat.strongRecOn with
 | _ n ih =>
  by_cases h : n = 0
  ·subst h; rw [zjG]; rfl
  ·rw [zlA h, dval, ih (n / 65536) (Nat.div_lt_self (Nat.pos_of_ne_zero h) (by decide))]
   omega
theorem DL.nil : DL [] := fun d hd => by cases hd
theorem DL.cons {d : Nat} {l : List Nat} (h : d < 65536) (hl : DL l) : DL (d :: l) := fun x hx => by
 rcases List.mem_cons.1 hx with rfl | hx
 ·exact h
 ·exact hl x hx
theorem DL.tail {d : Nat} {l : List Nat} (h : DL (d :: l)) : d < 65536 ∧ DL l := ⟨h d (by simp), fun x hx => h x (by simp [hx])⟩
theorem DL.append {a b : List Nat} (ha : DL a) (hb : DL b) : DL (a ++ b) := fun x hx => by
 rcases List.mem_append.1 hx with h | h
 ·exact ha x h
 ·exact hb x h
theorem DL.take {a : List Nat} (ha : DL a) (n : Nat) : DL (a.take n) := fun x hx => ha x (List.mem_of_mem_take hx)
theorem DL.get {l : List Nat} (h : DL l) {i d : Nat} (hi : l[i]? = some d) : d < 65536 := h d (List.mem_of_getElem? hi)
theorem dval_lt : ∀ {l : List Nat}, DL l → dval l < 65536 ^ l.length
 | [], _ => by simp [dval]
 | d :: l, h => by
  have := dval_lt h.tail.2
  have := h.tail.1
  simp only [dval, List.length_cons, Nat.pow_succ]
  omega
theorem dval_append (a b : List Nat) : dval (a ++ b) = dval a + 65536 ^ a.length * dval b := by
 induction a with
 | nil => simp [dval]
 | cons d a ih =>
  simp only [List.cons_append, dval, ih, List.length_cons, Nat.pow_succ, Nat.mul_add, Nat.add_assoc]
  congr 2
  rw [← Nat.mul_assoc, Nat.mul_comm 65536]
theorem dval_drop {l : List Nat} (h : DL l) (i : Nat) : dval (l.drop i) = dval l / 65536 ^ i := by
 by_cases hi : i ≤ l.length
 ·have hl : (l.take i).length = i := by simp; omega
  have h1 := dval_append (l.take i) (l.drop i)
  have h2 := dval_lt (DL.take h i)
  rw [List.take_append_drop, hl] at h1
  rw [hl] at h2
  rw [h1, Nat.add_mul_div_left _ _ (Nat.pow_pos (by decide)), Nat.div_eq_of_lt h2, Nat.zero_add]
 ·rw [List.drop_of_length_le (by omega)]
  exact (Nat.div_eq_of_lt (Nat.lt_of_lt_of_le (dval_lt h) (Nat.pow_le_pow_right (by decide) (by omega)))).symm
theorem dval_get {l : List Nat} (h : DL l) {i d : Nat} (hd : l[i]? = some d) : d = dval l / 65536 ^ i % 65536 := by
 rw [← dval_drop h]
 have hi := (List.getElem?_eq_some_iff.1 hd).1
 have e : l.drop i = d :: l.drop (i + 1) := by
  rw [List.drop_eq_getElem_cons hi, (List.getElem?_eq_some_iff.1 hd).2]
 rw [e, dval, Nat.add_mul_mod_self_left, Nat.mod_eq_of_lt (h.get hd)]
theorem digs_dval : ∀ {l : List Nat}, DL l → l.getLast? ≠ some 0 → digs (dval l) = l
 | [], _, _ => by rw [dval, zjG]
 | [d], h, ht => by
  have hd : d ≠ 0 := fun e => ht (by simp [e])
  have := h.tail.1
  rw [dval, dval, Nat.mul_zero, Nat.add_zero, zlA hd, Nat.div_eq_of_lt this, zjG, Nat.mod_eq_of_lt this]
 | d :: d' :: l, h, ht => by
  have ih := digs_dval h.tail.2 (by simpa using ht)
  have hd := h.tail.1
  have hv : dval (d' :: l) ≠ 0 := fun e => by rw [e, zjG] at ih; cases ih
  have h1 : dval (d :: d' :: l) = d + 65536 * dval (d' :: l) := rfl
  rw [h1, zlA (by omega), Nat.add_mul_mod_self_left, Nat.mod_eq_of_lt hd, Nat.add_mul_div_left _ _ (by decide), Nat.div_eq_of_lt hd, Nat.zero_add, ih]
theorem dval_zeros {l : List Nat} (h : ∀ (i d : Nat), l[i]? = some d → d = 0) : dval l = 0 := by
 induction l with
 | nil => rfl
 | cons d l ih =>
  have h0 := h 0 d rfl
  have := ih fun i x hx => h (i + 1) x (by simpa using hx)
  rw [dval, h0, this]
theorem digs_trim {l : List Nat} (h : DL l) {n : Nat} (hn : n ≤ l.length) (hz : ∀ i d, n ≤ i → l[i]? = some d → d = 0) (ht : n = 0 ∨ l[n - 1]? ≠ some 0) : l.take n = digs (dval l) := by
 have h1 : dval l = dval (l.take n) := by
  have := dval_append (l.take n) (l.drop n)
  rw [List.take_append_drop, dval_zeros (l := l.drop n) fun i d hd => hz (n + i) d (by omega) (by simpa using hd)] at this
  simpa using this
 rw [h1]
 refine (digs_dval (DL.take h n) ?_).symm
 rw [List.getLast?_eq_getElem?]
 rcases ht with rfl | ht
 ·simp
 ·have hl : (l.take n).length = n := by simp; omega
  rw [hl]
  by_cases h0 : n = 0
  ·subst h0; simp
  ·rw [List.getElem?_take, if_pos (by omega)]; exact ht
theorem digs_top {n : Nat} : (digs n).getLast? ≠ some 0 := by
 induction n using Nat.strongRecOn with
 | _ n ih =>
  by_cases h : n = 0
  ·subst h; rw [zjG]; simp
  ·rw [zlA h]
   by_cases h2 : n / 65536 = 0
   ·rw [h2, zjG]
    simp
    omega
   ·have := ih (n / 65536) (Nat.div_lt_self (Nat.pos_of_ne_zero h) (by decide))
    rw [zlA h2] at this ⊢
    simpa using this
theorem digs_lt (n : Nat) : n < 65536 ^ (digs n).length := by have := dval_lt (digs_DL n); rwa [dval_digs] at this
theorem digs_ge {n : Nat} (h : n ≠ 0) : 65536 ^ ((digs n).length - 1) ≤ n := by
 have hne : digs n ≠ [] := by rw [zlA h]; simp
 have h1 := dval_append ((digs n).take ((digs n).length - 1)) ((digs n).drop ((digs n).length - 1))
 have hlen : 0 < (digs n).length := List.length_pos_iff.2 hne
 have hl : ((digs n).take ((digs n).length - 1)).length = (digs n).length - 1 := by simp
 rw [List.take_append_drop, dval_digs, hl] at h1
 have h2 : dval ((digs n).drop ((digs n).length - 1)) ≠ 0 := by
  have ht := digs_top (n := n)
  rw [List.getLast?_eq_getElem?] at ht
  rw [List.drop_eq_getElem_cons (by omega), List.drop_of_length_le (by omega), dval, dval]
  rw [List.getElem?_eq_getElem (by omega)] at ht
  intro e
  exact ht (by congr 1)
 have h3 : 65536 ^ ((digs n).length - 1) * 1 ≤ 65536 ^ ((digs n).length - 1) * dval ((digs n).drop ((digs n).length - 1)) := Nat.mul_le_mul_left _ (Nat.pos_of_ne_zero h2)
 omega
theorem ziE {n k : Nat} (h : n < 65536 ^ k) : (digs n).length ≤ k := by
 by_cases h0 : n = 0
 ·subst h0; rw [zjG]; simp
 ·rcases Nat.lt_or_ge k (digs n).length with h2 | h2
  ·have := digs_ge h0
   have h3 : 65536 ^ k ≤ 65536 ^ ((digs n).length - 1) := Nat.pow_le_pow_right (by decide) (by omega)
   omega
  ·exact h2
theorem digs_mono {a b : Nat} (h : a ≤ b) : (digs a).length ≤ (digs b).length := ziE (Nat.lt_of_le_of_lt h (digs_lt b))
theorem digs_get {n i d : Nat} (h : (digs n)[i]? = some d) : d = n / 65536 ^ i % 65536 := by have := dval_get (digs_DL n) h; rwa [dval_digs] at this
theorem zfO {n i : Nat} (h : i < (digs n).length) : (digs n)[i]? = some (n / 65536 ^ i % 65536) := by
 have := List.getElem?_eq_getElem h
 rw [this]; congr 1; exact digs_get this
theorem trim_step {l : List Nat} {n d : Nat} (hz : ∀ (i d : Nat), n ≤ i → l[i]? = some d → d = 0) (hd1 : l[n - 1]? = some d) (h0 : d = 0) : ∀ (i d : Nat), n - 1 ≤ i → l[i]? = some d → d = 0 := fun i d' hi hd' => by
 by_cases h : n ≤ i
 ·exact hz i d' h hd'
 ·have e : i = n - 1 := by omega
  subst e
  rw [hd1] at hd'
  injection hd' with hd'
  omega
def cmpI (a b : Nat) : Int := if a < b then -1 else if a = b then 0 else 1
theorem cmpI_l {a b : Nat} (h : a < b) : cmpI a b = -1 := by unfold cmpI; rw [if_pos h]
theorem cmpI_g {a b : Nat} (h : b < a) : cmpI a b = 1 := by unfold cmpI; rw [if_neg (by omega), if_neg (by omega)]
theorem cmpI_e {a b : Nat} (h : a = b) : cmpI a b = 0 := by unfold cmpI; rw [if_neg (by omega), if_pos h]
theorem cmpI_lt {a b : Nat} : cmpI a b < 0 ↔ a < b := by
 unfold cmpI
 repeat' split
 all_goals omega
theorem cmpI_ge {a b : Nat} : 0 ≤ cmpI a b ↔ b ≤ a := by
 unfold cmpI
 repeat' split
 all_goals omega
theorem cmpI_eq {a b : Nat} : cmpI a b = 0 ↔ a = b := by
 unfold cmpI
 repeat' split
 all_goals omega
theorem cmpI_len {a b : Nat} (h : (digs a).length < (digs b).length) : a < b := by
 have h1 := digs_lt a
 have hb : b ≠ 0 := fun e => by subst e; rw [zjG] at h; simp at h
 have h2 := digs_ge hb
 have h3 : 65536 ^ (digs a).length ≤ 65536 ^ ((digs b).length - 1) := Nat.pow_le_pow_right (by decide) (by omega)
 omega
theorem top_lt {a b k x y : Nat} (h : a / 65536 ^ (k + 1) = b / 65536 ^ (k + 1)) (hx : x = a / 65536 ^ k % 65536) (hy : y = b / 65536 ^ k % 65536) (hlt : x < y) : a < b := by
 have e1 : a / 65536 ^ (k + 1) = a / 65536 ^ k / 65536 := by rw [Nat.pow_succ, Nat.div_div_eq_div_mul]
 have e2 : b / 65536 ^ (k + 1) = b / 65536 ^ k / 65536 := by rw [Nat.pow_succ, Nat.div_div_eq_div_mul]
 rw [e1, e2] at h
 have h3 : a / 65536 ^ k < b / 65536 ^ k := by omega
 exact Nat.lt_of_not_le fun hle => by have := Nat.div_le_div_right (c := 65536 ^ k) hle; omega
theorem top_eq {a b k x y : Nat} (h : a / 65536 ^ (k + 1) = b / 65536 ^ (k + 1)) (hx : x = a / 65536 ^ k % 65536) (hy : y = b / 65536 ^ k % 65536) (he : x = y) : a / 65536 ^ k = b / 65536 ^ k := by
 have e1 : a / 65536 ^ (k + 1) = a / 65536 ^ k / 65536 := by rw [Nat.pow_succ, Nat.div_div_eq_div_mul]
 have e2 : b / 65536 ^ (k + 1) = b / 65536 ^ k / 65536 := by rw [Nat.pow_succ, Nat.div_div_eq_div_mul]
 rw [e1, e2] at h
 omega
theorem above_top {a : Nat} {k : Nat} (h : (digs a).length ≤ k) : a / 65536 ^ k = 0 := Nat.div_eq_of_lt (Nat.lt_of_lt_of_le (digs_lt a) (Nat.pow_le_pow_right (by decide) h))
theorem digs_modP {m : Int} (h : m = 0) : digs (modN m) = [65535, 65535, 65535, 65535, 65535, 65535, 0, 0, 0, 0, 0, 0, 1, 0, 65535, 65535] := by
 have e : modN m = dval [65535, 65535, 65535, 65535, 65535, 65535, 0, 0, 0, 0, 0, 0, 1, 0, 65535, 65535] := by unfold modN; rw [show (m == 0) = true by simpa using h]; rfl
 rw [e]
 exact digs_dval (by intro d hd; revert d hd; decide) (by decide)
theorem digs_modN {m : Int} (h : m ≠ 0) : digs (modN m) = [9553, 64611, 51906, 62393, 40580, 42775, 64173, 48358, 65535, 65535, 65535, 65535, 0, 0, 65535, 65535] := by
 have e : modN m = dval [9553, 64611, 51906, 62393, 40580, 42775, 64173, 48358, 65535, 65535, 65535, 65535, 0, 0, 65535, 65535] := by unfold modN; rw [show (m == 0) = false by simpa using h]; rfl
 rw [e]
 exact digs_dval (by intro d hd; revert d hd; decide) (by decide)
def dg (A i : Nat) : Nat := A / 65536 ^ i % 65536
theorem zkH (A i : Nat) : dg A i < 65536 := Nat.mod_lt _ (by decide)
theorem dg_top {A i : Nat} (h : (digs A).length ≤ i) : dg A i = 0 := by unfold dg; rw [above_top h]
theorem zkV (A i : Nat) : A % 65536 ^ (i + 1) = A % 65536 ^ i + dg A i * 65536 ^ i := by
 rw [Nat.pow_succ, Nat.mod_mul, Nat.mul_comm]; rfl
theorem mod_len {A i : Nat} (h : (digs A).length ≤ i) : A % 65536 ^ i = A := Nat.mod_eq_of_lt (Nat.lt_of_lt_of_le (digs_lt A) (Nat.pow_le_pow_right (by decide) h))
theorem DL.snoc {l : List Nat} (h : DL l) {d : Nat} (hd : d < 65536) : DL (l ++ [d]) := h.append (DL.cons hd DL.nil)
theorem dval_snoc (l : List Nat) (d : Nat) : dval (l ++ [d]) = dval l + 65536 ^ l.length * d := by rw [dval_append]; simp [dval]
def dl (A n : Nat) : List Nat := (List.range n).map (dg A)
theorem dl_length (A n : Nat) : (dl A n).length = n := by simp [dl]
theorem dl_succ (A n : Nat) : dl A (n + 1) = dl A n ++ [dg A n] := by simp [dl, List.range_succ]
theorem DL_dl (A n : Nat) : DL (dl A n) := fun d hd => by
 simp only [dl, List.mem_map] at hd
 obtain ⟨i, _, rfl⟩ := hd
 exact zkH A i
theorem dval_dl (A n : Nat) : dval (dl A n) = A % 65536 ^ n := by
 induction n with
 | zero => simp [dl, dval, Nat.mod_one]
 | succ n ih => rw [dl_succ, dval_snoc, ih, dl_length, zkV, Nat.mul_comm]
theorem in_fin {A i : Nat} (hA : A < zaE) (hi : i = 4) : dval (dl A (4 * i)) = A := by subst hi; rw [dval_dl]; exact Nat.mod_eq_of_lt hA
theorem add_step {A B i c : Nat} {ls : List Nat} (hl : ls.length = i) (hv : dval ls + c * 65536 ^ i = A % 65536 ^ i + B % 65536 ^ i) :
  dval (ls ++ [(c + dg A i + dg B i) % 65536]) + (c + dg A i + dg B i) / 65536 * 65536 ^ (i + 1) = A % 65536 ^ (i + 1) + B % 65536 ^ (i + 1) := by
 rw [dval_snoc, hl, zkV, zkV, Nat.pow_succ]
 have h1 := Nat.div_add_mod (c + dg A i + dg B i) 65536
 generalize (c + dg A i + dg B i) % 65536 = x at *
 generalize (c + dg A i + dg B i) / 65536 = y at *
 have h2 : 65536 ^ i * x + y * (65536 ^ i * 65536) = 65536 ^ i * (c + dg A i + dg B i) := by rw [← h1, Nat.mul_add, Nat.add_comm]; congr 1; rw [Nat.mul_comm y, Nat.mul_assoc]
 have h3 : 65536 ^ i * (c + dg A i + dg B i) = c * 65536 ^ i + dg A i * 65536 ^ i + dg B i * 65536 ^ i := by rw [Nat.mul_comm, Nat.add_mul, Nat.add_mul]
 omega
theorem add_end {A B i c : Nat} {ls : List Nat} (hl : ls.length = i) (hA : (digs A).length ≤ i) (hB : (digs B).length ≤ i) (hv : dval ls + c * 65536 ^ i = A % 65536 ^ i + B % 65536 ^ i) : dval (ls ++ [c]) = A + B := by
 rw [mod_len hA, mod_len hB] at hv
 rw [dval_snoc, hl, Nat.mul_comm]; exact hv
theorem sub_step {A B i c : Nat} {ls : List Nat} (hc : c ≤ 1) (hl : ls.length = i) (hv : dval ls + B % 65536 ^ i = A % 65536 ^ i + c * 65536 ^ i) :
  dval (ls ++ [(65536 + dg A i - c - dg B i) % 65536]) + B % 65536 ^ (i + 1) = A % 65536 ^ (i + 1) + (1 - (65536 + dg A i - c - dg B i) / 65536) * 65536 ^ (i + 1) := by
 rw [dval_snoc, hl, zkV, zkV, Nat.pow_succ]
 have ha := zkH A i
 have hb := zkH B i
 have h1 := Nat.div_add_mod (65536 + dg A i - c - dg B i) 65536
 have h0 : (65536 + dg A i - c - dg B i) / 65536 ≤ 1 := by omega
 have hN : (65536 + dg A i - c - dg B i) + c + dg B i = 65536 + dg A i := by omega
 generalize 65536 + dg A i - c - dg B i = N at *
 have hd : N % 65536 + c + dg B i + 65536 * (N / 65536) = 65536 + dg A i := by omega
 have hm : N % 65536 + c + dg B i = (1 - N / 65536) * 65536 + dg A i := by omega
 generalize N % 65536 = x at *
 generalize 1 - N / 65536 = y at *
 have h3 : 65536 ^ i * x + c * 65536 ^ i + dg B i * 65536 ^ i = y * (65536 ^ i * 65536) + dg A i * 65536 ^ i := by
  have := congrArg (· * 65536 ^ i) hm
  simp only [Nat.add_mul] at this
  rw [Nat.mul_comm (65536 ^ i) x, this, Nat.mul_assoc, Nat.mul_comm 65536]
 omega
theorem sub_end {A B i c : Nat} {ls : List Nat} (hd : DL ls) (hc : c ≤ 1) (hl : ls.length = i) (hA : (digs A).length ≤ i) (hB : B ≤ A) (hv : dval ls + B % 65536 ^ i = A % 65536 ^ i + c * 65536 ^ i) : dval ls = A - B := by
 rw [mod_len hA, mod_len (Nat.le_trans (digs_mono hB) hA)] at hv
 have := dval_lt hd
 rw [hl] at this
 rcases (by omega : c = 0 ∨ c = 1) with rfl | rfl
 ·omega
 ·omega
end
section
theorem half_step {A k c : Nat} {ol : List Nat} (hk : 0 < k) (hkl : k ≤ ol.length) (hc : c = A / 65536 ^ k % 2) (hv : dval (ol.drop k) = A / 65536 ^ k / 2) :
  (c * 65536 + dg A (k - 1)) % 2 = A / 65536 ^ (k - 1) % 2 ∧ dval ((ol.set (k - 1) ((c * 65536 + dg A (k - 1)) / 2)).drop (k - 1)) = A / 65536 ^ (k - 1) / 2 := by
 have e1 : A / 65536 ^ k = A / 65536 ^ (k - 1) / 65536 := by
  conv => lhs; rw [show k = k - 1 + 1 by omega]
  rw [Nat.pow_succ, Nat.div_div_eq_div_mul]
 have e2 : (ol.set (k - 1) ((c * 65536 + dg A (k - 1)) / 2)).drop (k - 1) = ((c * 65536 + dg A (k - 1)) / 2) :: ol.drop k := by
  rw [List.drop_eq_getElem_cons (by rw [List.length_set]; omega)]
  congr 1
  ·simp
  ·rw [show k - 1 + 1 = k by omega, List.drop_set_of_lt (by omega)]
 rw [e2, dval, hv, hc, e1]
 unfold dg
 generalize A / 65536 ^ (k - 1) = X
 constructor <;> omega
theorem shl16 {c : Nat} (hc : c ≤ 1) : IntKind.u32.wrap ((c : Int) * 2 ^ (min ((16 : Int).toNat) IntKind.u32.bits)) = ((c * 65536 : Nat) : Int) := by
 have e : ((c : Int) * 2 ^ (min ((16 : Int).toNat) IntKind.u32.bits)) = ((c * 65536 : Nat) : Int) := by rw [Int.natCast_mul]; rfl
 rw [e]; exact wrapS rfl (by show c * 65536 < 2 ^ 32; omega)
theorem odd_some {A : Nat} (_h : 0 < (digs A).length) : ((dg A 0 % 2 : Nat) : Int) = 1 ↔ A % 2 = 1 := by
 unfold dg; rw [Nat.pow_zero, Nat.div_one]; omega
theorem odd_none {A : Nat} (h : ¬ 0 < (digs A).length) : A = 0 := by
 have := digs_lt A
 rw [show (digs A).length = 0 by omega] at this
 simpa using this
theorem rem2 (n : Nat) : (n : Int).tmod 2 = ((n % 2 : Nat) : Int) := (Int.ofNat_tmod n 2).symm
def fl (f : Nat → Nat) (n : Nat) : List Nat := (List.range n).map f
def fup (f : Nat → Nat) (i d : Nat) : Nat → Nat := fun p => if p = i then d else f p
theorem fup_at (f : Nat → Nat) (i d : Nat) : fup f i d i = d := if_pos rfl
theorem fup_ne {f : Nat → Nat} {i d p : Nat} (h : p ≠ i) : fup f i d p = f p := if_neg h
theorem zkA (f : Nat → Nat) (n : Nat) : (fl f n).length = n := by simp [fl]
theorem fl_succ (f : Nat → Nat) (n : Nat) : fl f (n + 1) = fl f n ++ [f n] := by simp [fl, List.range_succ]
theorem fl_get (f : Nat → Nat) {n i : Nat} (h : i < n) : (fl f n)[i]? = some (f i) := by simp [fl, h]
theorem fl_set (f : Nat → Nat) (n i d : Nat) : (fl f n).set i d = fl (fup f i d) n := by
 apply List.ext_getElem?
 intro j
 by_cases hj : j < n
 ·rw [fl_get _ hj]
  by_cases hi : i = j
  ·subst hi; simp [fl, hj, fup]
  ·rw [List.getElem?_set_ne hi, fl_get _ hj, fup_ne (fun e => hi e.symm)]
 ·rw [List.getElem?_eq_none (by simp [fl]; omega), List.getElem?_eq_none (by simp [fl]; omega)]
theorem fl_take (f : Nat → Nat) {n m : Nat} (h : m ≤ n) : (fl f n).take m = fl f m := by simp [fl, ← List.map_take, List.take_range, Nat.min_eq_left h]
theorem DL_fl {f : Nat → Nat} (h : ∀ p, f p < 65536) (n : Nat) : DL (fl f n) := fun d hd => by
 simp only [fl, List.mem_map] at hd
 obtain ⟨i, _, rfl⟩ := hd
 exact h i
theorem fup_lt {f : Nat → Nat} (h : ∀ p, f p < 65536) {i d : Nat} (hd : d < 65536) : ∀ p, fup f i d p < 65536 := fun p => by unfold fup; split; exact hd; exact h p
theorem zdF (f : Nat → Nat) (n : Nat) : dval (fl f (n + 1)) = dval (fl f n) + f n * 65536 ^ n := by rw [fl_succ, dval_snoc, zkA, Nat.mul_comm]
theorem dval_fl_lt {f : Nat → Nat} (h : ∀ p, f p < 65536) (n : Nat) : dval (fl f n) < 65536 ^ n := by have := dval_lt (DL_fl h n); rwa [zkA] at this
theorem dval_fl_congr {f g : Nat → Nat} {n : Nat} (h : ∀ p, p < n → f p = g p) : dval (fl f n) = dval (fl g n) := by
 induction n with
 | zero => rfl
 | succ n ih => rw [zdF, zdF, ih (fun p hp => h p (by omega)), h n (by omega)]
theorem dval_fl_up {f : Nat → Nat} {n i d : Nat} (h : i < n) : dval (fl (fup f i d) n) + f i * 65536 ^ i = dval (fl f n) + d * 65536 ^ i := by
 induction n with
 | zero => omega
 | succ n ih =>
  rw [zdF, zdF]
  by_cases hi : i = n
  ·subst hi
   rw [fup_at, dval_fl_congr (g := f) (fun p hp => fup_ne (by omega))]
   omega
  ·rw [fup_ne (by omega)]
   have := ih (by omega)
   omega
theorem dval_fl_zero {f : Nat → Nat} {n : Nat} (h : ∀ p, p < n → f p = 0) : dval (fl f n) = 0 := by
 induction n with
 | zero => rfl
 | succ n ih => rw [zdF, ih (fun p hp => h p (by omega)), h n (by omega), Nat.zero_mul]
theorem dval_fl_shift {f g : Nat → Nat} {n : Nat} (h : ∀ p, p < n → g (p + 1) = f p) : dval (fl g (n + 1)) = g 0 + 65536 * dval (fl f n) := by
 induction n with
 | zero => simp [fl, dval]
 | succ n ih =>
  rw [zdF, ih (fun p hp => h p (by omega)), zdF f, h n (by omega), Nat.mul_add, Nat.pow_succ, Nat.add_assoc]
  congr 2
  rw [Nat.mul_comm (65536 ^ n), ← Nat.mul_assoc, ← Nat.mul_assoc, Nat.mul_comm 65536]
theorem mul_in {A B i k c n : Nat} {f g : Nat → Nat} (hik : i + k < n) (hv : dval (fl g n) + c * 65536 ^ (i + k) = dval (fl f n) + dg A i * (B % 65536 ^ k) * 65536 ^ i) :
  dval (fl (fup g (i + k) ((c + (g (i + k) + dg A i * dg B k)) % 65536)) n) + (c + (g (i + k) + dg A i * dg B k)) / 65536 * 65536 ^ (i + (k + 1)) = dval (fl f n) + dg A i * (B % 65536 ^ (k + 1)) * 65536 ^ i := by
 have h1 := dval_fl_up (f := g) (d := (c + (g (i + k) + dg A i * dg B k)) % 65536) hik
 have h2 := Nat.div_add_mod (c + (g (i + k) + dg A i * dg B k)) 65536
 rw [zkV, Nat.mul_add, Nat.add_mul, show i + (k + 1) = i + k + 1 by omega, Nat.pow_succ (n := 65536) (m := i + k)]
 have h3 : dg A i * (dg B k * 65536 ^ k) * 65536 ^ i = dg A i * dg B k * 65536 ^ (i + k) := by
  rw [Nat.pow_add, ← Nat.mul_assoc, Nat.mul_assoc (dg A i * dg B k), Nat.mul_comm (65536 ^ k)]
 rw [h3]
 generalize hx : (c + (g (i + k) + dg A i * dg B k)) % 65536 = x at *
 generalize hy : (c + (g (i + k) + dg A i * dg B k)) / 65536 = y at *
 generalize dg A i * dg B k = t at *
 generalize 65536 ^ (i + k) = W at *
 have h4 : 65536 * y * W + x * W = c * W + (g (i + k) * W + t * W) := by rw [← Nat.add_mul, h2, Nat.add_mul, Nat.add_mul]
 have h5 : y * (W * 65536) = 65536 * y * W := by rw [Nat.mul_comm W, ← Nat.mul_assoc, Nat.mul_comm y]
 omega
theorem mul_out {A B i c n : Nat} {f g : Nat → Nat} (hn : i + (digs B).length < n) (hg : g (i + (digs B).length) = 0) (hf : dval (fl f n) = A % 65536 ^ i * B)
  (hv : dval (fl g n) + c * 65536 ^ (i + (digs B).length) = dval (fl f n) + dg A i * (B % 65536 ^ (digs B).length) * 65536 ^ i) :
  dval (fl (fup g (i + (digs B).length) c) n) = A % 65536 ^ (i + 1) * B := by
 have h1 := dval_fl_up (f := g) (d := c) hn
 rw [hg, Nat.zero_mul, Nat.add_zero] at h1
 rw [h1, hv, hf, mod_len (Nat.le_refl _), zkV, Nat.add_mul, Nat.mul_assoc (dg A i), Nat.mul_assoc (dg A i), Nat.mul_comm B]
theorem mul_bound {c g a b : Nat} (hc : c < 65536) (hg : g < 65536) (ha : a < 65536) (hb : b < 65536) : a * b ≤ 4294836225 ∧ g + a * b < 18446744073709551616 ∧ c + (g + a * b) < 18446744073709551616 ∧ (c + (g + a * b)) / 65536 < 65536 := by
 have : a * b ≤ 65535 * 65535 := Nat.mul_le_mul (by omega) (by omega)
 omega
theorem odd_fin {A : Nat} (h : 0 < (digs A).length) : (((dg A 0 % 2 : Nat) : Int) == 1) = decide (A % 2 = 1) := by rw [Bool.eq_iff_iff]; simp only [beq_iff_eq, decide_eq_true_eq]; exact odd_some h
theorem odd_fin0 {A : Nat} (h : ¬ 0 < (digs A).length) : false = decide (A % 2 = 1) := by rw [odd_none h]; rfl
theorem len_add {a b k : Nat} (ha : (digs a).length ≤ k) (hb : (digs b).length ≤ k) : (digs (a + b)).length ≤ k + 1 := by
 refine ziE ?_
 have h1 := Nat.lt_of_lt_of_le (digs_lt a) (Nat.pow_le_pow_right (by decide) ha)
 have h2 := Nat.lt_of_lt_of_le (digs_lt b) (Nat.pow_le_pow_right (by decide) hb)
 rw [Nat.pow_succ]; omega
end
section
theorem tm_bound {t m : Nat} (ht : t < 65536) (hm : m < 65536) : t * m ≤ 4294836225 := by
 have : t * m ≤ 65535 * 65535 := Nat.mul_le_mul (by omega) (by omega)
 omega
theorem lt_16 {M : Nat} (hM : (digs M).length = 16) : M < 65536 ^ 16 := by have := digs_lt M; rwa [hM] at this
theorem left_step {f g : Nat → Nat} {q t c M : Nat} (hc : c ≤ 131072) (hm : t * dg M q ≤ 4294836225) (hgq : g q < 65536) (he : g q = f q) (hv : dval (fl g q) + t * (M % 65536 ^ q) = dval (fl f q) + c * 65536 ^ q) :
  dval (fl (fup g q ((g q + 1099511627776 - (c + t * dg M q)) % 65536)) (q + 1)) + t * (M % 65536 ^ (q + 1)) = dval (fl f (q + 1)) + (16777216 - (g q + 1099511627776 - (c + t * dg M q)) / 65536) * 65536 ^ (q + 1) := by
 rw [zdF, zdF, fup_at, dval_fl_congr (g := g) (fun p hp => fup_ne (by omega)), zkV, Nat.mul_add, Nat.pow_succ, ← he]
 have hX : g q + 1099511627776 - (c + t * dg M q) + (c + t * dg M q) = g q + 1099511627776 := by omega
 generalize g q + 1099511627776 - (c + t * dg M q) = X at *
 have h1 : c + X % 65536 + t * dg M q = g q + 65536 * (16777216 - X / 65536) := by omega
 generalize 16777216 - X / 65536 = y at *
 generalize X % 65536 = d at *
 have h2 : t * (dg M q * 65536 ^ q) = t * dg M q * 65536 ^ q := by rw [Nat.mul_assoc]
 rw [h2]
 generalize t * dg M q = tm at *
 generalize 65536 ^ q = W at *
 have h3 : c * W + d * W + tm * W = g q * W + y * (W * 65536) := by
  rw [← Nat.add_mul, ← Nat.add_mul, h1, Nat.add_mul, Nat.mul_comm W, ← Nat.mul_assoc, Nat.mul_comm y]
 omega
theorem left_end {f g : Nat → Nat} {q t c M : Nat} (hq : q = 17) (hM : (digs M).length = 16) (hg : ∀ p, g p < 65536) (ht : t * M ≤ dval (fl f 17)) (hv : dval (fl g q) + t * (M % 65536 ^ q) = dval (fl f q) + c * 65536 ^ q) : dval (fl g 17) + t * M = dval (fl f 17) := by
 subst hq
 rw [mod_len (by omega)] at hv
 have h1 := dval_fl_lt hg 17
 revert h1 hv
 generalize 65536 ^ 17 = W
 intro h1 hv
 rcases Nat.eq_zero_or_pos c with rfl | hc
 ·omega
 ·have : 1 * W ≤ c * W := Nat.mul_le_mul_right _ hc
  omega
theorem left_t1 {f : Nat → Nat} {M : Nat} (h : 0 < f 16 ∨ M ≤ dval (fl f 16)) (h0 : f 16 = 0) : 1 * M ≤ dval (fl f 17) := by
 rw [zdF, h0, Nat.zero_mul, Nat.add_zero, Nat.one_mul]; rcases h with h | h
 ·omega
 ·exact h
theorem left_t2 {f : Nat → Nat} {M : Nat} (hM : (digs M).length = 16) : f 16 * M ≤ dval (fl f 17) := by
 rw [zdF]
 exact Nat.le_trans (Nat.mul_le_mul_left (f 16) (Nat.le_of_lt (lt_16 hM))) (Nat.le_add_left _ _)
theorem left_shift {f g : Nat → Nat} {A k M : Nat} (hk : 0 < k) (hM : (digs M).length = 16) (hMp : 0 < M) (hs : ∀ p, 0 < p → p < 17 → g p = f (p - 1)) (hv : dval (fl f 17) = A / 65536 ^ k % M) : dval (fl (fup g 0 (dg A (k - 1))) 17) % M = A / 65536 ^ (k - 1) % M := by
 have h1 := dval_fl_shift (f := f) (g := fup g 0 (dg A (k - 1))) (n := 16) (fun p hp => by rw [fup_ne (by omega), hs (p + 1) (by omega) (by omega)]; rfl)
 have h2 := lt_16 hM
 have h3 : A / 65536 ^ k % M < M := Nat.mod_lt _ hMp
 have h4 : dval (fl f 16) = A / 65536 ^ k % M := by
  rw [zdF] at hv
  revert h2 hv
  generalize 65536 ^ 16 = W
  intro hv h2
  rcases Nat.eq_zero_or_pos (f 16) with h | h
  ·rw [h] at hv; omega
  ·have : 1 * W ≤ f 16 * W := Nat.mul_le_mul_right _ h
   omega
 rw [h1, fup_at, h4, dg]
 have e1 : A / 65536 ^ k = A / 65536 ^ (k - 1) / 65536 := by
  conv => lhs; rw [show k = k - 1 + 1 by omega]
  rw [Nat.pow_succ, Nat.div_div_eq_div_mul]
 rw [e1, Nat.add_mod, Nat.mul_mod, Nat.mod_mod, ← Nat.mul_mod, ← Nat.add_mod, Nat.mod_add_div]
theorem left_mod {a b t M : Nat} (h : a + t * M = b) : a % M = b % M := by rw [← h, Nat.add_mul_mod_self_right]
theorem left_out {f : Nat → Nat} {M X : Nat} (h0 : f 16 = 0) (hl : dval (fl f 16) < M) (hv : dval (fl f 17) % M = X) : dval (fl f 17) = X := by
 rw [← hv]; exact (Nat.mod_eq_of_lt (by rw [zdF, h0, Nat.zero_mul, Nat.add_zero]; exact hl)).symm
theorem zjU (m : Int) : (digs (modN m)).length = 16 := by
 by_cases h : m = 0
 ·rw [digs_modP h]; rfl
 ·rw [digs_modN h]; rfl
end
section
theorem quoI {k d : Nat} (hk : 0 < k) (hd : 0 < d) (h : k < 4611686018427387904) : IntKind.i64.wrap (((k : Int) - 1).tdiv (d : Int)) = (((k - 1) / d : Nat) : Int) := by
 rw [show (k : Int) - 1 = ((k - 1 : Nat) : Int) by omega, ← Int.ofNat_tdiv]
 have : (k - 1) / d ≤ k - 1 := Nat.div_le_self _ _
 generalize (k - 1) / d = q at *
 exact wr64 (by omega) (by omega)
theorem remI {k d : Nat} (hk : 0 < k) : ((k : Int) - 1).tmod (d : Int) = (((k - 1) % d : Nat) : Int) := by
 rw [show (k : Int) - 1 = ((k - 1 : Nat) : Int) by omega, ← Int.ofNat_tmod]
theorem bit_t {n : Nat} (h : ((n : Int) == 1) = true) : n = 1 := by have := eq_of_beq h; omega
theorem bit_f {n : Nat} (h : ((n : Int) == 1) = false) : n ≠ 1 := fun e => by subst e; cases h
theorem bit_dg (E i : Nat) : dg E (i / 16) / 2 ^ (i % 16) % 2 = E / 2 ^ i % 2 := by
 unfold dg
 have e : (2 : Nat) ^ i = 65536 ^ (i / 16) * 2 ^ (i % 16) := by
  rw [show (65536 : Nat) = 2 ^ 16 from rfl, ← Nat.pow_mul, ← Nat.pow_add]
  congr 1; omega
 rw [e, ← Nat.div_div_eq_div_mul]
 generalize E / 65536 ^ (i / 16) = X
 have h : i % 16 < 16 := Nat.mod_lt _ (by decide)
 generalize i % 16 = r at h
 have e3 : (65536 : Nat) = 2 ^ r * 2 ^ (16 - r) := by rw [← Nat.pow_add, show r + (16 - r) = 16 by omega]
 rw [e3, Nat.mod_mul_right_div_self, show (2 : Nat) ^ (16 - r) = 2 * 2 ^ (15 - r) by rw [← Nat.pow_succ']; congr 1; omega, Nat.mod_mul_right_mod]
theorem pow_step (E k : Nat) (hk : 0 < k) : E / 2 ^ (k - 1) = E / 2 ^ k * 2 + E / 2 ^ (k - 1) % 2 := by
 have e1 : E / 2 ^ k = E / 2 ^ (k - 1) / 2 := by
  conv => lhs; rw [show k = k - 1 + 1 by omega]
  rw [Nat.pow_succ, Nat.div_div_eq_div_mul]
 rw [e1]; omega
theorem pow_b0 {A E k p : Nat} (hk : 0 < k) (hb : E / 2 ^ (k - 1) % 2 ≠ 1) : A ^ (E / 2 ^ k) % p * (A ^ (E / 2 ^ k) % p) % p = A ^ (E / 2 ^ (k - 1)) % p := by
 rw [← Nat.mul_mod, ← Nat.pow_add]
 congr 2
 have := pow_step E k hk
 have : E / 2 ^ (k - 1) % 2 = 0 := by omega
 omega
theorem pow_b1 {A E k p : Nat} (hk : 0 < k) (hb : E / 2 ^ (k - 1) % 2 = 1) : A ^ (E / 2 ^ k) % p * (A ^ (E / 2 ^ k) % p) % p * A % p = A ^ (E / 2 ^ (k - 1)) % p := by
 rw [← Nat.mul_mod, ← Nat.pow_add, Nat.mul_mod, Nat.mod_mod, ← Nat.mul_mod, ← Nat.pow_succ]
 congr 2
 have := pow_step E k hk
 omega
theorem zjH (m : Int) : 1 < modN m := by rcases zlB m with h | h <;> rw [h] <;> decide
end
theorem run_Sub64 {x y b : Int} (hx : U x) (hy : U y) (hb : C1 b) (w : World) :
  (callFunc 161 ([.int .u64 x, .int .u64 y, .int .u64 b] : List Value).toArray).run Tryz.prog w = .ok (.value (.tuple ([.int .u64 (sd x y b), .int .u64 (sb x y b)] : List Value).toArray)) w := by
 obtain ⟨X, rfl⟩ := Int.eq_ofNat_of_zero_le hx.1
 obtain ⟨Y, rfl⟩ := Int.eq_ofNat_of_zero_le hy.1
 have key : ∀ B : Nat, B ≤ 1 → (callFunc 161 #[.int .u64 X, .int .u64 Y, .int .u64 (B : Int)]).run Tryz.prog w = .ok (.value (.tuple #[.int .u64 (sd X Y B), .int .u64 (sb X Y B)])) w := fun B hB => by
  rw [run_callFunc_extern (f := 161) Tryz.func161 (by kernel_rfl) (by kernel_rfl) (by kernel_rfl) (e := sub64Entry) (by kernel_rfl), run_sub64 X Y B hB]
  simp only [Result.andThen]
  have h1 : (((X + 18446744073709551616 - Y - B) % 18446744073709551616 : Nat) : Int) = sd X Y B := by unfold sd U at *; omega
  have h2 : ((if X < Y + B then 1 else 0 : Nat) : Int) = sb X Y B := by unfold sb; split <;> split <;> omega
  rw [h1, h2]
 rcases hb with rfl | rfl
 ·exact key 0 (by omega)
 ·exact key 1 (by omega)
theorem zeQ {x y b : Int} (hx : U x) (hy : U y) (hb : C1 b) (w : World) :
  (callFunc 102 ([.int .u64 x, .int .u64 y, .int .u64 b] : List Value).toArray).run Tryz.prog w = .ok (.value (.tuple ([.int .u64 (ad x y b), .int .u64 (ac x y b)] : List Value).toArray)) w := by
 show (callFunc 102 #[.int .u64 x, .int .u64 y, .int .u64 b]).run Tryz.prog w = _
 rw [run_callFunc_extern (f := 102) Tryz.func102 (by kernel_rfl) (by kernel_rfl) (by kernel_rfl) (e := add64Entry) (by kernel_rfl), run_add64 x y b hx.1 hy.1 (by unfold C1 at hb; omega) (by unfold C1 at hb; omega), ac_eq hx hy hb]
 rfl
theorem numL_eq_iff {A B : Nat} (hA : A < zaE) (hB : B < zaE) : (numL A = numL B) ↔ A = B := by
 refine ⟨fun h => ?_, fun h => by rw [h]⟩
 have := numL_inj h
 rwa [Nat.mod_eq_of_lt hA, Nat.mod_eq_of_lt hB] at this
theorem run_eqnumIn {P : Program} {T E : TypeId} (hu : P.underlying T = some (.array 4 E)) (he : P.underlying E = some (.int .u64)) (hs : ∀ w, (sizeOf E).run P w = .ok 1 w) (ha : ∀ w, (isAgg E).run P w = .ok false w)
  (A B : Nat) (hA : A < zaE) (hB : B < zaE) (d : Nat) (w : World) : (Op.equalIn (d + 2) T (.agg (numL A).toArray) (.agg (numL B).toArray)).run P w = .ok (A == B) w := by
 have key : (lm A 0 = lm B 0 ∧ lm A 1 = lm B 1 ∧ lm A 2 = lm B 2 ∧ lm A 3 = lm B 3) ↔ A = B := by
  rw [← numL_eq_iff hA hB]; unfold numL; simp
 have e2 : ∀ (a b : Int) (w : World), (Op.equalIn (d + 1) E (.int .u64 a) (.int .u64 b)).run P w = .ok (a == b) w := fun a b w => by
  simp [Op.equalIn, Go.underlying, he]
 have hb : (A == B) = (lm A 0 == lm B 0 && (lm A 1 == lm B 1 && (lm A 2 == lm B 2 && lm A 3 == lm B 3))) := by
  rw [Bool.eq_iff_iff]; simp only [beq_iff_eq, Bool.and_eq_true]; exact key.symm
 rw [hb]
 unfold Op.equalIn
 simp only [Sem.run_bind, Go.underlying, run_program, Result.andThen_ok, hu, Sem.run_pure, hs]
 simp only [numL, part, ha, Sem.run_bind, Result.andThen_ok, Bool.false_eq_true, if_false, Std.Legacy.Range.forIn_eq_forIn_range', Std.Legacy.Range.size]
 simp [e2, part, ha, List.range'_succ]
 cases h0 : lm A 0 == lm B 0 <;> cases h1 : lm A 1 == lm B 1 <;> cases h2 : lm A 2 == lm B 2 <;> cases h3 : lm A 3 == lm B 3 <;> simp_all
theorem run_eqnum {P : Program} {T E : TypeId} (hu : P.underlying T = some (.array 4 E)) (he : P.underlying E = some (.int .u64)) (hs : ∀ w, (sizeOf E).run P w = .ok 1 w) (ha : ∀ w, (isAgg E).run P w = .ok false w)
  (A B : Nat) (hA : A < zaE) (hB : B < zaE) (w : World) : (Op.equal T (.agg (numL A).toArray) (.agg (numL B).toArray)).run P w = .ok (A == B) w :=
 run_eqnumIn hu he hs ha A B hA hB 9998 w
section
variable {P : Program} {w : World} {e : Operand → Value} {x y : Operand} {T T' E : TypeId} {ty : TypeId} {pos : String} {aft : Array Edge} {dst : Option Tmp} {g : Option (Nat × Bool)} {t : Bool}
theorem r_eqnum (hu : P.underlying T = some (.array 4 E)) (he : P.underlying E = some (.int .u64)) (hs : ∀ w, (sizeOf E).run P w = .ok 1 w) (ha : ∀ w, (isAgg E).run P w = .ok false w) (hg : P.eqGuardType P.depth T = false)
  {A B : Nat} (hx : e x = .agg (numL A).toArray) (hy : e y = .agg (numL B).toArray) (hA : A < zaE) (hB : B < zaE) (h : (A == B) = t) : (execOp e ⟨dst, .binOp .eql T x y T', ty, pos, aft, g⟩).run P w = .ok (.value (.bool t)) w := by
 simp only [execOp, hx, hy, eqGuard, binOp, Sem.run_bind, run_program, Result.andThen_ok, hg, run_eqnum hu he hs ha A B hA hB, Sem.run_pure, h]
 simp [hg]
theorem r_nenum (hu : P.underlying T = some (.array 4 E)) (he : P.underlying E = some (.int .u64)) (hs : ∀ w, (sizeOf E).run P w = .ok 1 w) (ha : ∀ w, (isAgg E).run P w = .ok false w) (hg : P.eqGuardType P.depth T = false)
  {A B : Nat} (hx : e x = .agg (numL A).toArray) (hy : e y = .agg (numL B).toArray) (hA : A < zaE) (hB : B < zaE) (h : (A != B) = t) : (execOp e ⟨dst, .binOp .neq T x y T', ty, pos, aft, g⟩).run P w = .ok (.value (.bool t)) w := by
 have h' : (!(A == B)) = t := h
 simp only [execOp, hx, hy, eqGuard, binOp, Sem.run_bind, run_program, Result.andThen_ok, hg, run_eqnum hu he hs ha A B hA hB, Sem.run_pure, h']
 simp [hg]
end
end Go.Proofs.YtmbcolbbekbccaaGreat
namespace Go.Proofs
open Go.Shelf
def Tryz.lays264_ren : Go.Shelf.Ren := ⟨fun | 264 => 139 | n => n, fun | 53 => 22 | 46 => 129 | n => n, fun | n => n⟩
theorem Tryz.lays264 : Go.Proofs.Lays.n264 Tryz.prog Tryz.lays264_ren := {
  mixed := by kernel_rfl
  f264 := Tryz.func139.trans (congrArg some (by kernel_rfl))
  t46 := Tryz.underlying129
  a46 := Tryz.isAgg129
  z46 := Tryz.sizeOf129
  v46 := Tryz.zeroValue129
  t53 := Tryz.underlying22
  a53 := Tryz.isAgg22
  z53 := Tryz.sizeOf22
  v53 := Tryz.zeroValue22 }
open Go.RowKit Go.Lib in
theorem Tryz.bits_Mul64 (x y : Nat) (hx : x < 18446744073709551616) (hy : y < 18446744073709551616) (w : World) :
  Calls Tryz.prog 139 #[.int .u64 x, .int .u64 y] w fun e w' => e = .returned (.tuple #[.int .u64 ((x * y / 18446744073709551616 : Nat) : Int), .int .u64 ((x * y % 18446744073709551616 : Nat) : Int)]) ∧ w' = w := Any.bits_Mul64 Tryz.lays264 x y hx hy w
def Tryz.lays105_ren : Go.Shelf.Ren := ⟨fun | 105 => 44 | 212 => 89 | 99 => 90 | 165 => 91 | 166 => 92 | 170 => 93 | 169 => 94 | 263 => 138 | 264 => 139 | 206 => 140 | 240 => 141 | 241 => 142 | 276 => 160 | 277 => 143 | n => n, fun | 9 => 9 | 3 => 3 | 4 => 4 | 20 => 20 | 0 => 0 | 46 => 129 | 109 => 130 | 5 => 5 | 72 => 134 | 76 => 138 | 51 => 107 | 146 => 174 | 53 => 22 | 148 => 147 | 70 => 132 | 37 => 127 | 75 => 137 | 127 => 177 | 164 => 190 | 80 => 121 | n => n, fun | n => n⟩
theorem Tryz.lays105 : Go.Proofs.Lays.n105 Tryz.prog Tryz.lays105_ren := {
  mixed := by kernel_rfl
  f99 := Tryz.func90.trans (congrArg some (by kernel_rfl))
  f105 := Tryz.func44.trans (congrArg some (by kernel_rfl))
  f165 := Tryz.func91.trans (congrArg some (by kernel_rfl))
  f166 := Tryz.func92.trans (congrArg some (by kernel_rfl))
  f169 := Tryz.func94.trans (congrArg some (by kernel_rfl))
  f170 := Tryz.func93.trans (congrArg some (by kernel_rfl))
  f206 := Tryz.func140.trans (congrArg some (by kernel_rfl))
  f212 := Tryz.func89.trans (congrArg some (by kernel_rfl))
  f240 := Tryz.func141.trans (congrArg some (by kernel_rfl))
  f241 := Tryz.func142.trans (congrArg some (by kernel_rfl))
  f263 := Tryz.func138.trans (congrArg some (by kernel_rfl))
  f264 := Tryz.func139.trans (congrArg some (by kernel_rfl))
  f276 := Tryz.func160.trans (congrArg some (by kernel_rfl))
  f277 := Tryz.func143.trans (congrArg some (by kernel_rfl))
  t0 := Tryz.underlying0
  a0 := Tryz.isAgg0
  z0 := Tryz.sizeOf0
  v0 := Tryz.zeroValue0
  t3 := Tryz.underlying3
  a3 := Tryz.isAgg3
  z3 := Tryz.sizeOf3
  v3 := Tryz.zeroValue3
  t4 := Tryz.underlying4
  a4 := Tryz.isAgg4
  z4 := Tryz.sizeOf4
  v4 := Tryz.zeroValue4
  t5 := Tryz.underlying5
  a5 := Tryz.isAgg5
  z5 := Tryz.sizeOf5
  v5 := Tryz.zeroValue5
  t9 := Tryz.underlying9
  a9 := Tryz.isAgg9
  z9 := Tryz.sizeOf9
  v9 := Tryz.zeroValue9
  t20 := Tryz.underlying20
  a20 := Tryz.isAgg20
  z20 := Tryz.sizeOf20
  v20 := Tryz.zeroValue20
  t37 := Tryz.underlying127
  a37 := Tryz.isAgg127
  z37 := Tryz.sizeOf127
  v37 := Tryz.zeroValue127
  t46 := Tryz.underlying129
  a46 := Tryz.isAgg129
  z46 := Tryz.sizeOf129
  v46 := Tryz.zeroValue129
  t51 := Tryz.underlying107
  a51 := Tryz.isAgg107
  z51 := Tryz.sizeOf107
  v51 := Tryz.zeroValue107
  t53 := Tryz.underlying22
  a53 := Tryz.isAgg22
  z53 := Tryz.sizeOf22
  v53 := Tryz.zeroValue22
  t70 := Tryz.underlying132
  a70 := Tryz.isAgg132
  z70 := Tryz.sizeOf132
  v70 := Tryz.zeroValue132
  t72 := Tryz.underlying134
  a72 := Tryz.isAgg134
  z72 := Tryz.sizeOf134
  v72 := Tryz.zeroValue134
  t75 := Tryz.underlying137
  a75 := Tryz.isAgg137
  z75 := Tryz.sizeOf137
  v75 := Tryz.zeroValue137
  t76 := Tryz.underlying138
  a76 := Tryz.isAgg138
  z76 := Tryz.sizeOf138
  v76 := Tryz.zeroValue138
  t109 := Tryz.underlying130
  a109 := Tryz.isAgg130
  z109 := Tryz.sizeOf130
  v109 := Tryz.zeroValue130
  t127 := Tryz.underlying177
  a127 := Tryz.isAgg177
  z127 := Tryz.sizeOf177
  v127 := Tryz.zeroValue177
  t146 := Tryz.underlying174
  a146 := Tryz.isAgg174
  z146 := Tryz.sizeOf174
  v146 := Tryz.zeroValue174
  t148 := Tryz.underlying147
  a148 := Tryz.isAgg147
  z148 := Tryz.sizeOf147
  v148 := Tryz.zeroValue147
  t164 := Tryz.underlying190
  a164 := Tryz.isAgg190
  z164 := Tryz.sizeOf190
  v164 := Tryz.zeroValue190 }
theorem Tryz.Builder_Extra_105 : Builder.Extra Tryz.prog Tryz.lays105_ren := {
  sizeBuilder := by kernel_rfl
  liesBuilder := by kernel_rfl
  t5 := Tryz.underlying5
  a5 := Tryz.isAgg5
  z5 := Tryz.sizeOf5
  v5 := Tryz.zeroValue5
  infoByte := by kernel_rfl
  cellsByte := by kernel_rfl
  sizeByte := by kernel_rfl
  neB5 := by decide }
open Go.RowKit Go.Lib in
theorem Tryz.strings_Repeat (s : ByteArray) (c : Nat) (w : World) (hc : c ≤ 9223372036854775807) (hlen : s.size * c ≤ 140737488355328) :
  Calls Tryz.prog 44 #[.string s, .int .i64 c] w fun e w' => e = .returned (.string ⟨(Lib.repeatL s.data.toList c).toArray⟩) ∧ Below w.heap.size w w' := Any.strings_Repeat Tryz.lays105 Tryz.Builder_Extra_105 s c w hc hlen
end Go.Proofs
namespace Go.Proofs.YtmbcolbbekbccaaGreat
open Go Go.RowKit
def mh (x y : Int) : Int := x * y / 18446744073709551616
def ml (x y : Int) : Int := x * y % 18446744073709551616
theorem mul_le {x y : Int} (hx : U x) (hy : U y) : 0 ≤ x * y ∧ x * y ≤ 340282366920938463426481119284349108225 := by
 refine ⟨Int.mul_nonneg hx.1 hy.1, ?_⟩
 have h1 : x ≤ 18446744073709551615 := by have := hx.2; omega
 have h2 : y ≤ 18446744073709551615 := by have := hy.2; omega
 have := Int.mul_le_mul h1 h2 hy.1 (by decide)
 simpa using this
theorem U_mh {x y : Int} (hx : U x) (hy : U y) : 0 ≤ mh x y ∧ mh x y ≤ 18446744073709551614 := by
 have := mul_le hx hy
 unfold mh; generalize x * y = p at *; omega
theorem U_ml (x y : Int) : U (ml x y) := by unfold U ml; omega
theorem mul_split (x y : Int) : mh x y * 18446744073709551616 + ml x y = x * y := by unfold mh ml; omega
theorem mul64_c {x y : Int} (hx : U x) (hy : U y) (w : World) :
  Calls Tryz.prog 139 #[.int .u64 x, .int .u64 y] w fun e w' => e = .returned (.tuple ([.int .u64 (mh x y), .int .u64 (ml x y)] : List Value).toArray) ∧ Ext w w' := by
 obtain ⟨X, rfl⟩ := Int.eq_ofNat_of_zero_le hx.1
 obtain ⟨Y, rfl⟩ := Int.eq_ofNat_of_zero_le hy.1
 refine (Tryz.bits_Mul64 X Y (by have := hx.2; omega) (by have := hy.2; omega) w).mono ?_
 rintro e w' ⟨he, rfl⟩
 refine ⟨?_, Ext.refl _⟩
 rw [he]
 rfl
theorem wide_w1 {x y c : Int} (hx : U x) (hy : U y) (_hc : U c) : IntKind.u64.wrap (mh x y + ac (ml x y) c 0) = mh x y + ac (ml x y) c 0 := by
 have h1 := U_mh hx hy
 have h2 := C_ac (ml x y) c 0
 refine wru rfl ?_ ?_
 ·unfold C1 at h2; omega
 ·show _ < (2 : Int) ^ 64
  unfold C1 at h2; omega
theorem wide_step {x y c o : Int} (hx : U x) (hy : U y) (hc : U c) (ho : U o) :
  IntKind.u64.wrap (mh x y + ac (ml x y) c 0 + ac o (ad (ml x y) c 0) 0) = mh x y + ac (ml x y) c 0 + ac o (ad (ml x y) c 0) 0 ∧
  U (mh x y + ac (ml x y) c 0 + ac o (ad (ml x y) c 0) 0) ∧
  (mh x y + ac (ml x y) c 0 + ac o (ad (ml x y) c 0) 0) * 18446744073709551616 + ad o (ad (ml x y) c 0) 0 = x * y + c + o := by
 have h1 := mul_le hx hy
 have h2 := mul_split x y
 have h3 := U_ml x y
 have h4 := U_mh hx hy
 have e1 := ad_eq h3 hc C1_0
 have u1 := U_ad (ml x y) c 0
 have c1 := C_ac (ml x y) c 0
 have e2 := ad_eq ho u1 C1_0
 have u2 := U_ad o (ad (ml x y) c 0) 0
 have c2 := C_ac o (ad (ml x y) c 0) 0
 generalize ad o (ad (ml x y) c 0) 0 = o' at *
 generalize ac o (ad (ml x y) c 0) 0 = k2 at *
 generalize ad (ml x y) c 0 = l1 at *
 generalize ac (ml x y) c 0 = k1 at *
 generalize mh x y = hi at *
 generalize ml x y = lo at *
 generalize x * y = p at *
 have hb : U (hi + k1 + k2) := by unfold U C1 at *; omega
 refine ⟨wru rfl hb.1 hb.2, hb, by omega⟩
theorem pw64 : (2 : Nat) ^ 64 = 18446744073709551616 := by kernel_rfl
theorem pw0 : (2 : Nat) ^ (64 * 0) = 1 := by kernel_rfl
theorem pw1 : (2 : Nat) ^ (64 * 1) = 18446744073709551616 := by kernel_rfl
theorem pw2 : (2 : Nat) ^ (64 * 2) = 340282366920938463463374607431768211456 := by kernel_rfl
theorem pw3 : (2 : Nat) ^ (64 * 3) = 6277101735386680763835789423207666416102355444464034512896 := by kernel_rfl
theorem pw4 : (2 : Nat) ^ (64 * 4) = 115792089237316195423570985008687907853269984665640564039457584007913129639936 := by kernel_rfl
theorem pw5 : (2 : Nat) ^ (64 * 5) = 2135987035920910082395021706169552114602704522356652769947041607822219725780640550022962086936576 := by kernel_rfl
theorem pw6 : (2 : Nat) ^ (64 * 6) = 39402006196394479212279040100143613805079739270465446667948293404245721771497210611414266254884915640806627990306816 := by kernel_rfl
theorem pw7 : (2 : Nat) ^ (64 * 7) = 726838724295606890549323807888004534353641360687318060281490199180639288113397923326191050713763565560762521606266177933534601628614656 := by kernel_rfl
def outL (f : Nat → Int) : List Value := [.int .u64 (f 0), .int .u64 (f 1), .int .u64 (f 2), .int .u64 (f 3), .int .u64 (f 4), .int .u64 (f 5), .int .u64 (f 6), .int .u64 (f 7)]
def wv (t : Nat) : Int := 18446744073709551616 ^ t
theorem wv_succ (t : Nat) : wv (t + 1) = wv t * 18446744073709551616 := by unfold wv; rw [Int.pow_succ]
theorem wv_0 : wv 0 = 1 := rfl
def val8 (f : Nat → Int) : Int := f 0 + f 1 * wv 1 + f 2 * wv 2 + f 3 * wv 3 + f 4 * wv 4 + f 5 * wv 5 + f 6 * wv 6 + f 7 * wv 7
def upd (f : Nat → Int) (t : Nat) (v : Int) : Nat → Int := fun s => if s = t then v else f s
theorem upd_other {f : Nat → Int} {t s : Nat} {v : Int} (h : s ≠ t) : upd f t v s = f s := by simp [upd, h]
theorem U_upd {f : Nat → Int} {t : Nat} {v : Int} (hf : ∀ s, U (f s)) (hv : U v) : ∀ s, U (upd f t v s) := fun s => by unfold upd; split; exact hv; exact hf s
theorem cases8 {t : Nat} (h : t < 8) : t = 0 ∨ t = 1 ∨ t = 2 ∨ t = 3 ∨ t = 4 ∨ t = 5 ∨ t = 6 ∨ t = 7 := by omega
theorem val8_upd (f : Nat → Int) (t : Nat) (v : Int) (h : t < 8) : val8 (upd f t v) = val8 f + (v - f t) * wv t := by
 rcases cases8 h with rfl | rfl | rfl | rfl | rfl | rfl | rfl | rfl <;> simp only [val8, upd, Nat.reduceEqDiff, if_true, if_false, wv_0] <;> grind
theorem out_piece (f : Nat → Int) (t : Nat) (h : t < 8) : piece (outL f) t 1 = [.int .u64 (f t)] := by
 rcases cases8 h with rfl | rfl | rfl | rfl | rfl | rfl | rfl | rfl <;> rfl
theorem out_lay (f : Nat → Int) (t : Nat) (v : Int) (h : t < 8) : lay (outL f) t [.int .u64 v] = outL (upd f t v) := by
 rcases cases8 h with rfl | rfl | rfl | rfl | rfl | rfl | rfl | rfl <;> rfl
theorem numL_piece (A t : Nat) (h : t < 4) : piece (numL A) t 1 = [.int .u64 (lm A t)] := by
 rcases (by omega : t = 0 ∨ t = 1 ∨ t = 2 ∨ t = 3) with rfl | rfl | rfl | rfl <;> rfl
def low (A t : Nat) : Int := ((A % (18446744073709551616 ^ t) : Nat) : Int)
theorem low_succ (A t : Nat) : low A (t + 1) = low A t + lm A t * wv t := by
 unfold low lm wv
 have e : (2 : Nat) ^ (64 * t) = 18446744073709551616 ^ t := by rw [Nat.pow_mul]
 rw [e, show (2 : Nat) ^ 64 = 18446744073709551616 from rfl, Nat.pow_succ, Nat.mod_mul]
 rw [Int.natCast_add, Int.natCast_mul, Int.natCast_pow]
 rw [Int.mul_comm]; rfl
theorem low_0 (A : Nat) : low A 0 = 0 := by unfold low; simp [Nat.mod_one]
theorem low_4 {A : Nat} (h : A < zaE) : low A 4 = (A : Int) := by
 unfold low; rw [show (18446744073709551616 : Nat) ^ 4 = zaE from rfl, Nat.mod_eq_of_lt h]
theorem wv_add (k j : Nat) : wv (k + j) = wv k * wv j := by unfold wv; rw [Int.pow_add]
theorem wide_inv {f f' : Nat → Int} {x c c' o' : Int} {k j B : Nat} (h : val8 f' + c * wv (k + j) = val8 f + x * low B j * wv k) (hs : c' * 18446744073709551616 + o' = x * lm B j + c + f' (k + j)) (hkj : k + j < 8) :
  val8 (upd f' (k + j) o') + c' * wv (k + (j + 1)) = val8 f + x * low B (j + 1) * wv k := by
 rw [val8_upd _ _ _ hkj, ← Nat.add_assoc, wv_succ, low_succ]
 have e := wv_add k j
 generalize wv (k + j) = p at *
 generalize wv k = q at *
 generalize wv j = r at *
 generalize val8 f' = v' at *
 generalize val8 f = v at *
 generalize f' (k + j) = o at *
 generalize lm B j = y at *
 generalize low B j = l at *
 grind
theorem wide_out {f f' : Nat → Int} {c : Int} {k A B : Nat} (h : val8 f' + c * wv (k + 4) = val8 f + lm A k * low B 4 * wv k) (h0 : val8 f = low A k * (B : Int)) (hB : B < zaE) (hz : f' (k + 4) = 0) (hk : k < 4) :
  val8 (upd f' (k + 4) c) = low A (k + 1) * (B : Int) := by
 rw [val8_upd _ _ _ (by omega), low_succ, hz]
 rw [low_4 hB] at h
 generalize wv (k + 4) = p at *
 generalize wv k = q at *
 generalize val8 f' = v' at *
 generalize val8 f = v at *
 generalize low A k = l at *
 generalize lm A k = x at *
 grind
theorem outL_of {f : Nat → Int} (hf : ∀ s, U (f s)) {X : Nat} (h : val8 f = (X : Int)) : outL f = outL (lm X) := by
 have e1 : wv 1 = 18446744073709551616 := rfl
 have e2 : wv 2 = 340282366920938463463374607431768211456 := rfl
 have e3 : wv 3 = 6277101735386680763835789423207666416102355444464034512896 := rfl
 have e4 : wv 4 = 115792089237316195423570985008687907853269984665640564039457584007913129639936 := rfl
 have e5 : wv 5 = 2135987035920910082395021706169552114602704522356652769947041607822219725780640550022962086936576 := rfl
 have e6 : wv 6 = 39402006196394479212279040100143613805079739270465446667948293404245721771497210611414266254884915640806627990306816 := rfl
 have e7 : wv 7 = 726838724295606890549323807888004534353641360687318060281490199180639288113397923326191050713763565560762521606266177933534601628614656 := rfl
 unfold val8 at h
 rw [e1, e2, e3, e4, e5, e6, e7] at h
 have h0 := hf 0; have h1 := hf 1; have h2 := hf 2; have h3 := hf 3; have h4 := hf 4; have h5 := hf 5; have h6 := hf 6; have h7 := hf 7
 unfold outL lm U at *
 simp only [pw0, pw1, pw2, pw3, pw4, pw5, pw6, pw7, pw64, Nat.div_one]
 generalize f 0 = a0 at *; generalize f 1 = a1 at *; generalize f 2 = a2 at *; generalize f 3 = a3 at *
 generalize f 4 = a4 at *; generalize f 5 = a5 at *; generalize f 6 = a6 at *; generalize f 7 = a7 at *
 clear e1 e2 e3 e4 e5 e6 e7
 simp only [List.cons.injEq, Value.int.injEq, true_and, and_true]
 refine ⟨?_, ?_, ?_, ?_, ?_, ?_, ?_, ?_⟩ <;> omega
theorem val8_lm {X : Nat} (h : X < zaE * zaE) : val8 (lm X) = (X : Int) := by
 have e1 : wv 1 = 18446744073709551616 := rfl
 have e2 : wv 2 = 340282366920938463463374607431768211456 := rfl
 have e3 : wv 3 = 6277101735386680763835789423207666416102355444464034512896 := rfl
 have e4 : wv 4 = 115792089237316195423570985008687907853269984665640564039457584007913129639936 := rfl
 have e5 : wv 5 = 2135987035920910082395021706169552114602704522356652769947041607822219725780640550022962086936576 := rfl
 have e6 : wv 6 = 39402006196394479212279040100143613805079739270465446667948293404245721771497210611414266254884915640806627990306816 := rfl
 have e7 : wv 7 = 726838724295606890549323807888004534353641360687318060281490199180639288113397923326191050713763565560762521606266177933534601628614656 := rfl
 unfold val8 lm zaE at *
 rw [e1, e2, e3, e4, e5, e6, e7]
 simp only [pw0, pw1, pw2, pw3, pw4, pw5, pw6, pw7, pw64, Nat.div_one]
 clear e1 e2 e3 e4 e5 e6 e7
 omega
def bval (l : List UInt8) : Nat := l.foldl (fun n b => n * 256 + b.toNat) 0
theorem bval_nil : bval [] = 0 := rfl
theorem bval_snoc (l : List UInt8) (b : UInt8) : bval (l ++ [b]) = bval l * 256 + b.toNat := by simp [bval]
theorem bval_take {l : List UInt8} {i : Nat} {b : UInt8} (h : l[i]? = some b) : bval (l.take (i + 1)) = bval (l.take i) * 256 + b.toNat := by
 rw [List.take_add_one, h]; exact bval_snoc _ _
theorem bval_append (a : List UInt8) : ∀ b : List UInt8, bval (a ++ b) = bval a * 256 ^ b.length + bval b := by
 intro b
 induction h : b.length generalizing b with
 | zero => obtain rfl : b = [] := List.length_eq_zero_iff.1 h; simp [bval_nil]
 | succ n ih =>
  obtain ⟨c, x, rfl⟩ : ∃ c x, b = c ++ [x] := by
   refine ⟨b.dropLast, b.getLast (by intro e; subst e; cases h), (List.dropLast_concat_getLast _).symm⟩
  have hn : c.length = n := by simpa using h
  rw [← List.append_assoc, bval_snoc, ih c hn, bval_snoc, Nat.pow_succ, Nat.add_mul, Nat.mul_assoc, Nat.add_assoc]
theorem bval_lt : ∀ (l : List UInt8), bval l < 256 ^ l.length := by
 intro l
 induction h : l.length generalizing l with
 | zero => obtain rfl : l = [] := List.length_eq_zero_iff.1 h; decide
 | succ n ih =>
  obtain ⟨c, x, rfl⟩ : ∃ c x, l = c ++ [x] := by
   refine ⟨l.dropLast, l.getLast (by intro e; subst e; cases h), (List.dropLast_concat_getLast _).symm⟩
  have hn : c.length = n := by simpa using h
  have h1 := ih c hn
  have h2 := x.toNat_lt
  rw [bval_snoc, Nat.pow_succ]
  omega
theorem bval_lt_of {l : List UInt8} {n : Nat} (h : l.length ≤ n) : bval l < 256 ^ n := Nat.lt_of_lt_of_le (bval_lt l) (Nat.pow_le_pow_right (by decide) h)
theorem bval_zeros (l : List UInt8) : ∀ j : Nat, bval (List.replicate j 0 ++ l) = bval l := by
 intro j
 have h : ∀ j, bval (List.replicate j 0) = 0 := by
  intro j
  induction j with
  | zero => rfl
  | succ j ih => rw [List.replicate_succ', bval_snoc, ih]; rfl
 rw [bval_append, h, Nat.zero_mul, Nat.zero_add]
theorem bval_split (l : List UInt8) (i : Nat) : bval l = bval (l.take i) * 256 ^ (l.length - i) + bval (l.drop i) := by
 conv => lhs; rw [← List.take_append_drop i l]
 rw [bval_append, List.length_drop]
theorem value_shl {n : Nat} (h : n < 72057594037927936) : IntKind.u64.wrap ((n : Int) * 2 ^ (min ((8 : Int).toNat) IntKind.u64.bits)) = ((n * 256 : Nat) : Int) := by
 have e : (2 : Int) ^ (min ((8 : Int).toNat) IntKind.u64.bits) = 256 := by decide
 rw [e, show (n : Int) * 256 = ((n * 256 : Nat) : Int) by omega]
 exact wrapS rfl (by have : (2 : Nat) ^ IntKind.u64.bits = 18446744073709551616 := by decide
                     omega)
theorem value_or {n : Nat} {b : UInt8} (h : n < 72057594037927936) : bits .or .u64 ((n * 256 : Nat) : Int) (b.toNat : Int) = ((n * 256 + b.toNat : Nat) : Int) := by
 have h2 := b.toNat_lt
 exact joinN (n := 8) rfl h2 (by have : (2 : Nat) ^ IntKind.u64.bits = 18446744073709551616 := by decide
                                 omega)
theorem u8_64 (b : UInt8) : IntKind.u64.wrap (b.toNat : Int) = (b.toNat : Int) := wrapS rfl (Nat.lt_trans b.toNat_lt (by decide))
theorem to8 (n : Nat) : IntKind.u8.wrap (n : Int) = ((UInt8.ofNat n).toNat : Int) := by
 rw [wrapN rfl]; simp [UInt8.toNat_ofNat']; rfl
theorem value_lt7 {l : List UInt8} {i : Nat} (hi : i < l.length) (hl : l.length ≤ 8) : bval (l.take i) < 72057594037927936 :=
 bval_lt_of (n := 7) (by rw [List.length_take]; omega)
theorem lm_nat {A i n : Nat} (h : A / 2 ^ (64 * i) % 2 ^ 64 = n) : lm A i = (n : Int) := by unfold lm; rw [h]
theorem bval_word {l : List UInt8} (hl : l.length = 32) {p : Nat} (hp : p + 8 ≤ 32) : bval l / 256 ^ (24 - p) % 256 ^ 8 = bval ((l.take (p + 8)).drop p) := by
 have h1 := bval_split l (p + 8)
 have h2 := bval_split (l.take (p + 8)) p
 rw [List.take_take, Nat.min_eq_left (by omega), List.length_take, Nat.min_eq_left (by omega), show p + 8 - p = 8 by omega] at h2
 have h3 : bval (l.drop (p + 8)) < 256 ^ (24 - p) := bval_lt_of (by rw [List.length_drop]; omega)
 have h4 : bval ((l.take (p + 8)).drop p) < 256 ^ 8 := bval_lt_of (by simp; omega)
 rw [hl, show 32 - (p + 8) = 24 - p by omega] at h1
 rw [h1, Nat.mul_comm, Nat.mul_add_div (Nat.pow_pos (by decide)), Nat.div_eq_of_lt h3, Nat.add_zero, h2, Nat.mul_comm, Nat.mul_add_mod, Nat.mod_eq_of_lt h4]
theorem number_fin {l : List UInt8} (hl : l.length = 32) :
  ([.int .u64 (bval ((l.take 32).drop 24) : Int), .int .u64 (bval ((l.take 24).drop 16) : Int), .int .u64 (bval ((l.take 16).drop 8) : Int), .int .u64 (bval ((l.take 8).drop 0) : Int)] : List Value) = numL (bval l) := by
 have e : ∀ i p, p + 8 ≤ 32 → 8 * i = 24 - p → lm (bval l) i = (bval ((l.take (p + 8)).drop p) : Int) := fun i p hp hi => by
  refine lm_nat ?_
  rw [← bval_word hl hp, show (256 : Nat) = 2 ^ 8 from rfl, ← Nat.pow_mul, ← Nat.pow_mul, ← hi, ← Nat.mul_assoc]
 unfold numL
 rw [e 0 24 (by decide) rfl, e 1 16 (by decide) rfl, e 2 8 (by decide) rfl, e 3 0 (by decide) rfl]
theorem bval_two256 {l : List UInt8} (hl : l.length = 32) : bval l < zaE := by
 have := bval_lt l
 rw [hl] at this
 exact this
def ofOK (m : Int) (l : List UInt8) : Bool := l.length == 32 && decide (bval l < modN m)
def ofV (m : Int) (l : List UInt8) : Nat := bif ofOK m l then bval l else 0
def ofE (m : Int) (l : List UInt8) : Int := bif ofOK m l then 0 else 60
theorem of_len {m : Int} {l : List UInt8} (h : l.length ≠ 32) : ofOK m l = false := by simp [ofOK, h]
theorem of_f {m : Int} {l : List UInt8} (h : ofOK m l = false) : ofV m l = 0 ∧ ofE m l = 60 := by simp [ofV, ofE, h]
theorem of_t {m : Int} {l : List UInt8} (h : ofOK m l = true) : ofV m l = bval l ∧ ofE m l = 0 := by simp [ofV, ofE, h]
theorem of_ne {m : Int} {l : List UInt8} (h : (bval l % modN m != bval l) = true) : ofOK m l = false := by
 have h1 : bval l % modN m ≠ bval l := bne_iff_ne.1 h
 have h2 : ¬ bval l < modN m := fun hlt => h1 (Nat.mod_eq_of_lt hlt)
 simp [ofOK, h2]
theorem of_eq {m : Int} {l : List UInt8} (hl : l.length = 32) (h : (bval l % modN m != bval l) = false) : ofOK m l = true := by
 have h1 : bval l % modN m = bval l := by simpa using h
 have h2 : bval l < modN m := by rw [← h1]; exact Nat.mod_lt _ (zbF m).pos
 simp [ofOK, hl, h2]
theorem ofV_lt (m : Int) (l : List UInt8) : ofV m l < modN m := by
 unfold ofV
 cases h : ofOK m l with
 | false => exact (zbF m).pos
 | true => simp only [ofOK, Bool.and_eq_true, decide_eq_true_eq] at h; exact h.2
theorem ofV_lt2 (m : Int) (l : List UInt8) : ofV m l < zaE := Nat.lt_trans (ofV_lt m l) (zbF m).lt
theorem word_0 {A n p : Nat} (hA : A < p) (hn : n < 18446744073709551616) : (A * 2 ^ (64 - 64) + n / 2 ^ 64) % p = A := by
 rw [Nat.div_eq_of_lt hn]; simp [Nat.mod_eq_of_lt hA]
theorem word_step {A n p k : Nat} (hk : 0 < k) (hk2 : k ≤ 64) : (((A * 2 ^ (64 - k) + n / 2 ^ k) % p + (A * 2 ^ (64 - k) + n / 2 ^ k) % p) % p + n / 2 ^ (k - 1) % 2) % p = (A * 2 ^ (64 - (k - 1)) + n / 2 ^ (k - 1)) % p := by
 have h1 := pow_step n k hk
 rw [Nat.mod_add_mod, Nat.add_assoc, Nat.mod_add_mod, Nat.add_left_comm, Nat.mod_add_mod]
 congr 1
 have h2 : 2 ^ (64 - (k - 1)) = 2 ^ (64 - k) * 2 := by rw [← Nat.pow_succ]; congr 1; omega
 rw [h2, ← Nat.mul_assoc]
 omega
theorem word_bit (n k : Nat) (hk : 0 < k) (hk2 : k ≤ 64) : ((n : Nat) : Int).fdiv (2 ^ (min (((k : Int) - 1).toNat) IntKind.u64.bits)) = ((n / 2 ^ (k - 1) : Nat) : Int) := by
 rw [show ((k : Int) - 1).toNat = ((k - 1 : Nat) : Int).toNat by omega]
 exact shrN (by have : IntKind.u64.bits = 64 := rfl
                omega)
theorem and64_1 {n : Nat} (hn : n < 18446744073709551616) : bits .and .u64 (n : Int) 1 = ((n % 2 : Nat) : Int) :=
 maskN (k := .u64) rfl 1 (by have : (2 : Nat) ^ IntKind.u64.bits = 18446744073709551616 := by decide
                             omega) (by decide)
theorem two_lt_modN (m : Int) : 2 < modN m := by rcases zlB m with h | h <;> rw [h] <;> decide
theorem rem8 (n : Nat) : (n : Int).tmod 8 = ((n % 8 : Nat) : Int) := (Int.ofNat_tmod n 8).symm
theorem red_cons (j : Nat) (l : List UInt8) : [0] ++ (List.replicate j 0 ++ l) = List.replicate (j + 1) 0 ++ l := by rw [List.replicate_succ]; rfl
theorem red_step {s : List UInt8} {n p : Nat} (hn : 8 * n + 8 ≤ s.length) : (bval (s.take (8 * n)) % p * 2 ^ 64 + bval ((s.drop (8 * n)).take 8)) % p = bval (s.take (8 * (n + 1))) % p := by
 have h : s.take (8 * (n + 1)) = s.take (8 * n) ++ (s.drop (8 * n)).take 8 := by rw [Nat.mul_add, List.take_add]
 have hl : ((s.drop (8 * n)).take 8).length = 8 := by simp; omega
 rw [h, bval_append, hl, Nat.add_mod, Nat.mul_mod, Nat.mod_mod, ← Nat.mul_mod, ← Nat.add_mod]
theorem red_t {s : List UInt8} {n q : Nat} (hs : s.length = 8 * q) (h : (s.drop (8 * n) != []) = true) : 8 * n + 8 ≤ s.length := by
 have h1 : s.drop (8 * n) ≠ [] := by simpa using h
 have h2 : 0 < (s.drop (8 * n)).length := List.length_pos_iff.2 h1
 rw [List.length_drop] at h2
 omega
theorem red_f {s : List UInt8} {n : Nat} (h : (s.drop (8 * n) != []) = false) : s.take (8 * n) = s := by
 have h1 : s.drop (8 * n) = [] := by simpa using h
 rw [List.drop_eq_nil_iff] at h1
 exact List.take_of_length_le h1
theorem bval_lt8 {l : List UInt8} (h : l.length ≤ 8) : bval l < 18446744073709551616 := bval_lt_of (n := 8) h
def be (n A : Nat) : List UInt8 := (List.range n).map fun i => UInt8.ofNat (A / 2 ^ (8 * (n - 1 - i)))
theorem zgY (n A : Nat) : (be n A).length = n := by simp [be]
theorem ofNat_toNat (n : Nat) : (UInt8.ofNat n).toNat = n % 256 := by simp [UInt8.toNat_ofNat']
theorem be_8 (A : Nat) : be 8 A = [UInt8.ofNat (A / 2 ^ 56), UInt8.ofNat (A / 2 ^ 48), UInt8.ofNat (A / 2 ^ 40), UInt8.ofNat (A / 2 ^ 32), UInt8.ofNat (A / 2 ^ 24), UInt8.ofNat (A / 2 ^ 16), UInt8.ofNat (A / 2 ^ 8), UInt8.ofNat (A / 2 ^ 0)] := rfl
theorem zkW (A i r : Nat) (hr : r < 8) : UInt8.ofNat (A / 2 ^ (64 * i) % 2 ^ 64 / 2 ^ (8 * r)) = UInt8.ofNat (A / 2 ^ (64 * i + 8 * r)) := by
 apply UInt8.toNat_inj.1
 rw [ofNat_toNat, ofNat_toNat, Nat.pow_add, ← Nat.div_div_eq_div_mul]
 generalize A / 2 ^ (64 * i) = B
 have e1 : (2 : Nat) ^ 64 = 2 ^ (8 * r) * 2 ^ (64 - 8 * r) := by rw [← Nat.pow_add]; congr 1; omega
 rw [e1, Nat.mod_mul_right_div_self, show (2 : Nat) ^ (64 - 8 * r) = 256 * 2 ^ (56 - 8 * r) by
  rw [show (256 : Nat) = 2 ^ 8 from rfl, ← Nat.pow_add]; congr 1; omega, Nat.mod_mul_right_mod]
theorem be_32 (A : Nat) : be 32 A = be 8 (lm A 3).toNat ++ be 8 (lm A 2).toNat ++ be 8 (lm A 1).toNat ++ be 8 (lm A 0).toNat := by
 have e : ∀ i, (lm A i).toNat = A / 2 ^ (64 * i) % 2 ^ 64 := fun i => by unfold lm; omega
 rw [e, e, e, e]
 have f : ∀ i, be 8 (A / 2 ^ (64 * i) % 2 ^ 64) = [UInt8.ofNat (A / 2 ^ (64 * i + 8 * 7)), UInt8.ofNat (A / 2 ^ (64 * i + 8 * 6)), UInt8.ofNat (A / 2 ^ (64 * i + 8 * 5)), UInt8.ofNat (A / 2 ^ (64 * i + 8 * 4)), UInt8.ofNat (A / 2 ^ (64 * i + 8 * 3)), UInt8.ofNat (A / 2 ^ (64 * i + 8 * 2)), UInt8.ofNat (A / 2 ^ (64 * i + 8 * 1)), UInt8.ofNat (A / 2 ^ (64 * i + 8 * 0))] := fun i => by
  rw [← zkW A i 7 (by decide), ← zkW A i 6 (by decide), ← zkW A i 5 (by decide), ← zkW A i 4 (by decide), ← zkW A i 3 (by decide), ← zkW A i 2 (by decide), ← zkW A i 1 (by decide), ← zkW A i 0 (by decide)]
  rfl
 rw [f, f, f, f]
 rfl
theorem be_succ (n A : Nat) : be (n + 1) A = be n (A / 256) ++ [UInt8.ofNat A] := by
 unfold be
 rw [List.range_succ, List.map_append, List.map_singleton]
 congr 1
 ·apply List.map_congr_left
  intro i hi
  rw [List.mem_range] at hi
  rw [show n + 1 - 1 - i = 1 + (n - 1 - i) by omega, Nat.mul_add, Nat.pow_add, ← Nat.div_div_eq_div_mul]
 ·simp
theorem HP.skip {w0 w : World} {x y : Ent} {L : List Ent} (h : HP w0 w (x :: y :: L)) : HP w0 w (x :: L) := by
 refine ⟨h.below, fun k b cs T hk => ?_, fun i j b cs T cs' T' hi hj => ?_⟩
 ·cases k with
  | zero => exact h.blk 0 b cs T hk
  | succ k => exact h.blk (k + 2) b cs T hk
 ·cases i with
  | zero => cases j with
   | zero => rfl
   | succ j => have := h.inj 0 (j + 2) b cs T cs' T' hi hj; omega
  | succ i => cases j with
   | zero => have := h.inj (i + 2) 0 b cs T cs' T' hi hj; omega
   | succ j => have := h.inj (i + 2) (j + 2) b cs T cs' T' hi hj; omega
theorem bshr {x : Int} (hx : U x) (n : Nat) (hn : n ≤ 64) : x.fdiv (2 ^ (min ((n : Int).toNat) IntKind.u64.bits)) = ((x.toNat / 2 ^ n : Nat) : Int) := by
 have h : x = (x.toNat : Int) := by have := hx.1; omega
 conv => lhs; rw [h]
 exact shrN hn
theorem big_fin (X : List UInt8) (N : Nat) : X ++ be 8 N = X ++ [UInt8.ofNat (N / 2 ^ 56)] ++ [UInt8.ofNat (N / 2 ^ 48)] ++ [UInt8.ofNat (N / 2 ^ 40)] ++ [UInt8.ofNat (N / 2 ^ 32)] ++ [UInt8.ofNat (N / 2 ^ 24)] ++ [UInt8.ofNat (N / 2 ^ 16)] ++ [UInt8.ofNat (N / 2 ^ 8)] ++ [UInt8.ofNat (N / 2 ^ 0)] := by
 rw [be_8]; simp
theorem big_finN (N : Nat) : be 8 N = [UInt8.ofNat (N / 2 ^ 56)] ++ [UInt8.ofNat (N / 2 ^ 48)] ++ [UInt8.ofNat (N / 2 ^ 40)] ++ [UInt8.ofNat (N / 2 ^ 32)] ++ [UInt8.ofNat (N / 2 ^ 24)] ++ [UInt8.ofNat (N / 2 ^ 16)] ++ [UInt8.ofNat (N / 2 ^ 8)] ++ [UInt8.ofNat (N / 2 ^ 0)] := by
 rw [be_8]; simp
theorem pow_init0 {A E : Nat} (m : Int) (hE : E < zaE) : A ^ (E / 2 ^ 256) % modN m = 1 := by
 rw [Nat.div_eq_of_lt (show E < 2 ^ 256 from hE), Nat.pow_zero, Nat.mod_eq_of_lt (zjH m)]
theorem pow_quo {k : Nat} (hk : 0 < k) (h : k ≤ 256) : IntKind.i64.wrap (((k : Int) - 1).tdiv 64) = (((k - 1) / 64 : Nat) : Int) := quoI hk (by decide) (by omega)
theorem pow_rem {k : Nat} (hk : 0 < k) : ((k : Int) - 1).tmod 64 = (((k - 1) % 64 : Nat) : Int) := remI hk
theorem pow_shr (E i r : Nat) (hr : r < 64) : (lm E i).fdiv (2 ^ (min ((r : Int).toNat) IntKind.u64.bits)) = ((E / 2 ^ (64 * i) % 2 ^ 64 / 2 ^ r : Nat) : Int) := by
 unfold lm
 exact shrN (by have : IntKind.u64.bits = 64 := rfl
                omega)
theorem pow_bit (E i : Nat) : E / 2 ^ (64 * (i / 64)) % 2 ^ 64 / 2 ^ (i % 64) % 2 = E / 2 ^ i % 2 := by
 have e : (2 : Nat) ^ i = 2 ^ (64 * (i / 64)) * 2 ^ (i % 64) := by rw [← Nat.pow_add]; congr 1; omega
 rw [e, ← Nat.div_div_eq_div_mul]
 generalize E / 2 ^ (64 * (i / 64)) = X
 have h : i % 64 < 64 := Nat.mod_lt _ (by decide)
 generalize i % 64 = r at h
 have e3 : (2 : Nat) ^ 64 = 2 ^ r * 2 ^ (64 - r) := by rw [← Nat.pow_add]; congr 1; omega
 rw [e3, Nat.mod_mul_right_div_self, show (2 : Nat) ^ (64 - r) = 2 * 2 ^ (63 - r) by rw [← Nat.pow_succ']; congr 1; omega, Nat.mod_mul_right_mod]
theorem pow_and (E i : Nat) : bits .and .u64 ((E / 2 ^ (64 * (i / 64)) % 2 ^ 64 / 2 ^ (i % 64) : Nat) : Int) 1 = ((E / 2 ^ i % 2 : Nat) : Int) := by
 rw [and64_1 (Nat.lt_of_le_of_lt (Nat.div_le_self _ _) (Nat.mod_lt _ (by decide))), pow_bit]
def invV (m : Int) (A : Nat) : Nat := if A % modN m = 0 then 0 else A ^ (modN m - 2) % modN m
def invE (m : Int) (A : Nat) : Int := if A % modN m = 0 then 61 else 0
theorem invV_lt2 (m : Int) (A : Nat) : invV m A < zaE := by
 unfold invV
 split
 ·exact zcL
 ·exact Nat.lt_trans (Nat.mod_lt _ (zbF m).pos) (zbF m).lt
theorem low_sub (m : Int) : lay (numL (modN m)) 0 [.int .u64 (IntKind.u64.wrap (lm (modN m) 0 - 2))] = numL (modN m - 2) := by
 rcases zlB m with h | h <;> rw [h]
 ·rw [show numL PP = ([.int .u64 18446744073709551615, .int .u64 4294967295, .int .u64 0, .int .u64 18446744069414584321] : List Value) from num_PP.symm, show lm PP 0 = 18446744073709551615 from rfl]
  exact (zjA (a := 18446744073709551613) (b := 4294967295) (c := 0) (d := 18446744069414584321) (PP - 2) (by decide) (by decide) (by decide) (by decide) (by decide))
 ·rw [show numL NN = ([.int .u64 17562291160714782033, .int .u64 13611842547513532036, .int .u64 18446744073709551615, .int .u64 18446744069414584320] : List Value) from num_NN.symm, show lm NN 0 = 17562291160714782033 from rfl]
  exact (zjA (a := 17562291160714782031) (b := 13611842547513532036) (c := 18446744073709551615) (d := 18446744069414584320) (NN - 2) (by decide) (by decide) (by decide) (by decide) (by decide))
theorem low_lt (m : Int) : modN m - 2 < zaE := Nat.lt_of_le_of_lt (Nat.sub_le _ _) (zbF m).lt
theorem beqN {a b : Nat} (h : (a == b) = true) : a = b := by simpa using h
theorem bneN {a b : Nat} (h : (a == b) = false) : a ≠ b := by simpa using h
def Pr (p : Nat) : Prop := 2 ≤ p ∧ ∀ d, d ∣ p → d = 1 ∨ d = p
theorem Pr.cop {p a : Nat} (h : Pr p) (ha : ¬ p ∣ a) : Nat.Coprime p a := by
 rcases h.2 _ (Nat.gcd_dvd_left p a) with h1 | h1
 ·exact h1
 ·exact absurd (h1 ▸ Nat.gcd_dvd_right p a) ha
theorem Pr.mul {p a b : Nat} (h : Pr p) (hab : p ∣ a * b) : p ∣ a ∨ p ∣ b := by
 by_cases ha : p ∣ a
 ·exact .inl ha
 ·exact .inr ((h.cop ha).dvd_of_dvd_mul_left hab)
def chs : Nat → Nat → Nat
 | _, 0 => 1
 | 0, _ + 1 => 0
 | n + 1, k + 1 => chs n k + chs n (k + 1)
theorem chs_0 (n : Nat) : chs n 0 = 1 := by cases n <;> rfl
theorem chs_gt : ∀ {n k : Nat}, n < k → chs n k = 0
 | _, 0, h => absurd h (Nat.not_lt_zero _)
 | 0, _ + 1, _ => rfl
 | n + 1, k + 1, h => by rw [chs, chs_gt (by omega), chs_gt (by omega)]
theorem chs_self : ∀ n : Nat, chs n n = 1
 | 0 => rfl
 | n + 1 => by rw [chs, chs_self n, chs_gt (by omega)]
theorem chs_mul : ∀ n k : Nat, (k + 1) * chs (n + 1) (k + 1) = (n + 1) * chs n k
 | 0, 0 => rfl
 | 0, k + 1 => by rw [chs_gt (by omega), chs_gt (by omega)]; simp
 | n + 1, 0 => by
  have h := chs_mul n 0
  have e : chs (n + 1 + 1) (0 + 1) = chs (n + 1) 0 + chs (n + 1) (0 + 1) := rfl
  rw [chs_0] at h
  rw [e, chs_0]
  omega
 | n + 1, k + 1 => by
  have h1 := chs_mul n k
  have h2 := chs_mul n (k + 1)
  rw [show chs (n + 1 + 1) (k + 1 + 1) = chs (n + 1) (k + 1) + chs (n + 1) (k + 1 + 1) from rfl, Nat.mul_add, h2, show (k + 1 + 1) * chs (n + 1) (k + 1) = (k + 1) * chs (n + 1) (k + 1) + chs (n + 1) (k + 1) by rw [Nat.succ_mul], h1,
   show chs (n + 1) (k + 1) = chs n k + chs n (k + 1) from rfl]
  rw [show n + 1 + 1 = (n + 1) + 1 from rfl, Nat.succ_mul (n + 1), Nat.mul_add]
  omega
def sm (f : Nat → Nat) : Nat → Nat
 | 0 => 0
 | n + 1 => sm f n + f n
theorem sm_congr {f g : Nat → Nat} : ∀ {n : Nat}, (∀ i, i < n → f i = g i) → sm f n = sm g n
 | 0, _ => rfl
 | n + 1, h => by rw [sm, sm, sm_congr fun i hi => h i (by omega), h n (by omega)]
theorem sm_add (f g : Nat → Nat) : ∀ n : Nat, sm (fun i => f i + g i) n = sm f n + sm g n
 | 0 => rfl
 | n + 1 => by rw [sm, sm, sm, sm_add f g n]; omega
theorem sm_mul (f : Nat → Nat) (c : Nat) : ∀ n : Nat, sm (fun i => c * f i) n = c * sm f n
 | 0 => rfl
 | n + 1 => by rw [sm, sm, sm_mul f c n, Nat.mul_add]
theorem sm_head (f : Nat → Nat) : ∀ n : Nat, sm f (n + 1) = f 0 + sm (fun i => f (i + 1)) n
 | 0 => by simp [sm]
 | n + 1 => by rw [sm, sm_head f n, sm]; omega
theorem binom (a : Nat) : ∀ n : Nat, (a + 1) ^ n = sm (fun k => chs n k * a ^ k) (n + 1)
 | 0 => by simp [sm, chs]
 | n + 1 => by
  have h1 := sm_head (fun k => chs (n + 1) k * a ^ k) (n + 1)
  have h2 : sm (fun i => chs (n + 1) (i + 1) * a ^ (i + 1)) (n + 1) = sm (fun i => a * (chs n i * a ^ i) + chs n (i + 1) * a ^ (i + 1)) (n + 1) := sm_congr fun i _ => by
   show (chs n i + chs n (i + 1)) * a ^ (i + 1) = _
   rw [Nat.add_mul, Nat.pow_succ, Nat.mul_comm (a ^ i) a, Nat.mul_left_comm]
  rw [sm_add, sm_mul] at h2
  have h3 := sm_head (fun k => chs n k * a ^ k) (n + 1)
  have h4 : sm (fun k => chs n k * a ^ k) (n + 1 + 1) = sm (fun k => chs n k * a ^ k) (n + 1) + 0 := by
   rw [sm, chs_gt (by omega : n < n + 1), Nat.zero_mul]
  simp only [chs_0, Nat.pow_zero] at h1 h3
  rw [Nat.pow_succ, binom a n, h1, h2, Nat.mul_add, Nat.mul_one, Nat.mul_comm]
  omega
theorem sm_dvd {p : Nat} {f : Nat → Nat} : ∀ {n : Nat}, (∀ i, i < n → p ∣ f i) → p ∣ sm f n
 | 0, _ => ⟨0, rfl⟩
 | n + 1, h => Nat.dvd_add (sm_dvd fun i hi => h i (by omega)) (h n (by omega))
theorem Pr.chs {p k : Nat} (h : Pr p) (hk : k + 1 < p) : p ∣ chs p (k + 1) := by
 obtain ⟨q, rfl⟩ : ∃ q, p = q + 1 := ⟨p - 1, by have := h.1; omega⟩
 have h1 := chs_mul q k
 have h2 : q + 1 ∣ (k + 1) * Go.Proofs.YtmbcolbbekbccaaGreat.chs (q + 1) (k + 1) := ⟨_, h1⟩
 rcases h.mul h2 with h3 | h3
 ·exact absurd (Nat.le_of_dvd (by omega) h3) (by omega)
 ·exact h3
theorem Pr.dream {p : Nat} (h : Pr p) (a : Nat) : (a + 1) ^ p % p = (a ^ p + 1) % p := by
 obtain ⟨q, rfl⟩ : ∃ q, p = q + 1 := ⟨p - 1, by have := h.1; omega⟩
 rw [binom, sm, sm_head, chs_0, chs_self]
 obtain ⟨c, hc⟩ := sm_dvd (p := q + 1) (f := fun i => Go.Proofs.YtmbcolbbekbccaaGreat.chs (q + 1) (i + 1) * a ^ (i + 1)) (n := q) (fun i hi => Nat.dvd_trans (h.chs (by omega)) ⟨_, rfl⟩)
 rw [hc, show 1 * a ^ 0 + (q + 1) * c + 1 * a ^ (q + 1) = (a ^ (q + 1) + 1) + (q + 1) * c by simp; omega, Nat.add_mul_mod_self_left]
theorem Pr.fermat {p : Nat} (h : Pr p) : ∀ a : Nat, a ^ p % p = a % p
 | 0 => by rw [Nat.zero_pow (by have := h.1; omega)]
 | a + 1 => by rw [h.dream, Nat.add_mod, h.fermat a, ← Nat.add_mod]
theorem dvd_sub_of_mod {p a b : Nat} (h : a % p = b % p) : p ∣ a - b := by
 by_cases hab : b ≤ a
 ·exact (Nat.dvd_iff_mod_eq_zero).2 (Nat.sub_mod_eq_zero_of_mod_eq h)
 ·rw [Nat.sub_eq_zero_of_le (by omega)]; exact ⟨0, rfl⟩
theorem Pr.fermat1 {p a : Nat} (h : Pr p) (ha : ¬ p ∣ a) : a ^ (p - 1) % p = 1 := by
 have h1 := h.fermat a
 have hp := h.1
 have h2 : a ^ p = a * a ^ (p - 1) := by rw [← Nat.pow_succ']; congr 1; omega
 have h3 : p ∣ a * (a ^ (p - 1) - 1) := by
  rw [Nat.mul_sub, Nat.mul_one, ← h2]; exact dvd_sub_of_mod h1
 have h4 := (h.mul h3).resolve_left ha
 have h5 : 0 < a := Nat.pos_of_ne_zero fun h0 => ha (h0 ▸ ⟨0, rfl⟩)
 have h6 : 0 < a ^ (p - 1) := Nat.pow_pos h5
 obtain ⟨c, hc⟩ := h4
 have h7 : a ^ (p - 1) = 1 + p * c := by omega
 rw [h7, Nat.add_mul_mod_self_left, Nat.mod_eq_of_lt (by omega)]
theorem pow_gcd {a d x y : Nat} (hx : a ^ x % d = 1 % d) (hy : a ^ y % d = 1 % d) : a ^ (Nat.gcd x y) % d = 1 % d := by
 induction x, y using Nat.gcd.induction with
 | H0 n => rw [Nat.gcd_zero_left]; exact hy
 | H1 m n hm ih =>
  rw [Nat.gcd_rec]
  refine ih ?_ hx
  have h1 : a ^ n = (a ^ m) ^ (n / m) * a ^ (n % m) := by rw [← Nat.pow_mul, ← Nat.pow_add, Nat.div_add_mod]
  rw [h1, Nat.mul_mod, Nat.pow_mod, hx, ← Nat.pow_mod, Nat.one_pow, ← Nat.mul_mod, Nat.one_mul] at hy
  exact hy
theorem exists_prime : ∀ (n : Nat), 2 ≤ n → ∃ p, Pr p ∧ p ∣ n := by
 intro n
 induction n using Nat.strongRecOn with
 | _ n ih =>
  intro h2
  by_cases h : Pr n
  ·exact ⟨n, h, Nat.dvd_refl _⟩
  ·have : ∃ d, d ∣ n ∧ d ≠ 1 ∧ d ≠ n := by
    refine Classical.byContradiction fun hn => h ⟨h2, fun d hd => ?_⟩
    by_cases h1 : d = 1
    ·exact .inl h1
    ·exact .inr (Classical.byContradiction fun h3 => hn ⟨d, hd, h1, h3⟩)
   obtain ⟨d, hd, h1, h3⟩ := this
   have hle := Nat.le_of_dvd (by omega) hd
   have h0 : d ≠ 0 := fun h0 => by subst h0; have := Nat.eq_zero_of_zero_dvd hd; omega
   obtain ⟨p, hp, hpd⟩ := ih d (by omega) (by omega)
   exact ⟨p, hp, Nat.dvd_trans hpd hd⟩
theorem prime_of {n : Nat} (h2 : 2 ≤ n) (h : ∀ d, Pr d → d ∣ n → n < d * d) : Pr n := by
 refine ⟨h2, fun d hd => ?_⟩
 by_cases h1 : d = 1
 ·exact .inl h1
 by_cases h3 : d = n
 ·exact .inr h3
 exfalso
 obtain ⟨e, he⟩ := hd
 have hd0 : d ≠ 0 := fun h0 => by subst h0; simp at he; omega
 have he0 : e ≠ 0 := fun h0 => by subst h0; simp at he; omega
 have he1 : e ≠ 1 := fun h0 => by subst h0; simp at he; omega
 obtain ⟨p, hp, hpd⟩ := exists_prime d (by omega)
 obtain ⟨q, hq, hqe⟩ := exists_prime e (by omega)
 have hp2 := h p hp (Nat.dvd_trans hpd ⟨e, he⟩)
 have hq2 := h q hq (Nat.dvd_trans hqe ⟨d, by rw [he, Nat.mul_comm]⟩)
 have hp3 := Nat.le_of_dvd (by omega) hpd
 have hq3 := Nat.le_of_dvd (by omega) hqe
 have h4 : n < d * d := Nat.lt_of_lt_of_le hp2 (Nat.mul_le_mul hp3 hp3)
 have h5 : n < e * e := Nat.lt_of_lt_of_le hq2 (Nat.mul_le_mul hq3 hq3)
 rw [he] at h4 h5
 have h6 := Nat.lt_of_mul_lt_mul_left h4
 have h7 := Nat.lt_of_mul_lt_mul_right h5
 omega
def pm (a n : Nat) : Nat → Nat → Nat
 | 0, _ => 1 % n
 | f + 1, e => if e = 0 then 1 % n else if e % 2 = 1 then (pm a n f (e / 2)) ^ 2 * a % n else (pm a n f (e / 2)) ^ 2 % n
theorem pm_eq (a n : Nat) : ∀ (f e : Nat), e < 2 ^ f → pm a n f e = a ^ e % n
 | 0, e, h => by
  obtain rfl : e = 0 := by omega
  rfl
 | f + 1, e, h => by
  rw [pm]
  split
  ·next h0 => subst h0; rfl
  ·have hd : e / 2 < 2 ^ f := by rw [Nat.pow_succ] at h; omega
   rw [pm_eq a n f _ hd]
   have hm := Nat.div_add_mod e 2
   split
   ·next h1 =>
    have e1 : e / 2 * 2 + 1 = e := by omega
    rw [← Nat.mod_mul_mod, ← Nat.pow_mod, Nat.mod_mul_mod, ← Nat.pow_mul, ← Nat.pow_succ]
    show a ^ (e / 2 * 2 + 1) % n = _
    rw [e1]
   ·next h1 =>
    have e1 : e / 2 * 2 = e := by omega
    rw [← Nat.pow_mod, ← Nat.pow_mul, e1]
def pl : List Nat → Nat
 | [] => 1
 | q :: l => q * pl l
theorem pock {n : Nat} (a : Nat) (l : List Nat) (R f : Nat) (h2 : 2 ≤ n) (hl : ∀ q ∈ l, Pr q) (hF : pl l * R + 1 = n) (hs : n < pl l * pl l) (hf : n < 2 ^ f) (h1 : pm a n f (n - 1) = 1)
  (hg : l.all (fun q => Nat.gcd (pm a n f ((n - 1) / q) + n - 1) n == 1) = true) : Pr n := by
 refine prime_of h2 fun d hd hdn => ?_
 have hd2 := hd.1
 have hdv : ∀ x, x % n % d = x % d := fun x => Nat.mod_mod_of_dvd x hdn
 rw [pm_eq _ _ _ _ (by omega)] at h1
 have hy : a ^ (n - 1) % d = 1 % d := by rw [← hdv, h1]
 have had : ¬ d ∣ a := fun h => by
  have h3 : a ^ (n - 1) % d = 0 := by rw [Nat.pow_mod, Nat.mod_eq_zero_of_dvd h, Nat.zero_pow (by omega), Nat.zero_mod]
  rw [hy, Nat.mod_eq_of_lt (by omega)] at h3
  exact absurd h3 (by decide)
 have hx : a ^ (d - 1) % d = 1 % d := by rw [hd.fermat1 had, Nat.mod_eq_of_lt (by omega)]
 have hG := pow_gcd hx hy
 obtain ⟨h, hh⟩ := Nat.gcd_dvd_right (d - 1) (n - 1)
 have key : ∀ q ∈ l, ¬ q ∣ h := by
  intro q hq hqh
  obtain ⟨c, hc⟩ := hqh
  have hq0 : 0 < q := by have := (hl q hq).1; omega
  have h3 : (n - 1) / q = Nat.gcd (d - 1) (n - 1) * c := by
   rw [hh, hc, show Nat.gcd (d - 1) (Nat.gcd (d - 1) (n - 1) * (q * c)) = Nat.gcd (d - 1) (n - 1) by rw [← hc, ← hh], Nat.mul_left_comm, Nat.mul_div_cancel_left _ hq0]
  have h4 : a ^ ((n - 1) / q) % d = 1 % d := by rw [h3, Nat.pow_mul, Nat.pow_mod, hG, ← Nat.pow_mod, Nat.one_pow]
  have h5 := List.all_eq_true.1 hg q hq
  rw [pm_eq _ _ _ _ (by have := Nat.div_le_self (n - 1) q; omega)] at h5
  have h6 : d ∣ a ^ ((n - 1) / q) % n + n - 1 := by
   have h7 : (a ^ ((n - 1) / q) % n) % d = 1 % d := by rw [hdv, h4]
   rw [Nat.mod_eq_of_lt (show 1 < d by omega)] at h7
   have h8 : 1 ≤ a ^ ((n - 1) / q) % n := by
    rcases Nat.eq_zero_or_pos (a ^ ((n - 1) / q) % n) with h0 | h0
    ·rw [h0, Nat.zero_mod] at h7; exact absurd h7 (by decide)
    ·exact h0
   have h9 : d ∣ a ^ ((n - 1) / q) % n - 1 := dvd_sub_of_mod (by rw [h7, Nat.mod_eq_of_lt (by omega)])
   have := Nat.dvd_add h9 hdn
   rwa [show a ^ ((n - 1) / q) % n - 1 + n = a ^ ((n - 1) / q) % n + n - 1 by omega] at this
  have h10 := Nat.dvd_gcd h6 hdn
  rw [beq_iff_eq.1 h5] at h10
  have := Nat.le_of_dvd (by decide) h10
  omega
 have hcop : ∀ l : List Nat, (∀ q ∈ l, Pr q) → (∀ q ∈ l, ¬ q ∣ h) → Nat.Coprime (pl l) h := by
  intro l
  induction l with
  | nil => intro _ _; exact Nat.coprime_one_left _
  | cons q l ih => intro hp hk; exact Nat.Coprime.mul_left ((hp q (by simp)).cop (hk q (by simp))) (ih (fun q hq => hp q (by simp [hq])) (fun q hq => hk q (by simp [hq])))
 have hFg : pl l ∣ Nat.gcd (d - 1) (n - 1) := by
  refine (hcop l hl key).dvd_of_dvd_mul_right (m := Nat.gcd (d - 1) (n - 1)) ?_
  rw [← hh]; exact ⟨R, by omega⟩
 have hFd : pl l ∣ d - 1 := Nat.dvd_trans hFg (Nat.gcd_dvd_left _ _)
 have hle := Nat.le_of_dvd (by omega) hFd
 exact Nat.lt_of_lt_of_le hs (Nat.mul_le_mul (by omega) (by omega))
def trial (n : Nat) : Nat → Nat → Bool
 | 0, _ => false
 | f + 1, d => if n < d * d then true else if n % d = 0 then false else trial n f (d + 1)
theorem trial_ok {n : Nat} : ∀ (f d : Nat), trial n f d = true → (∀ e, 2 ≤ e → e < d → ¬ e ∣ n) → ∀ e, 2 ≤ e → e ∣ n → n < e * e
 | 0, d, h, _ => by simp [trial] at h
 | f + 1, d, h, hd => by
  rw [trial] at h
  split at h
  ·next h1 =>
   intro e he hen
   rcases Nat.lt_or_ge e d with h2 | h2
   ·exact absurd hen (hd e he h2)
   ·exact Nat.lt_of_lt_of_le h1 (Nat.mul_le_mul h2 h2)
  ·split at h
   ·cases h
   ·next h1 h2 =>
    refine trial_ok f (d + 1) h fun e he hlt hen => ?_
    rcases Nat.lt_or_ge e d with h3 | h3
    ·exact hd e he h3 hen
    ·obtain rfl : e = d := by omega
     exact h2 (Nat.mod_eq_zero_of_dvd hen)
theorem trial_pr {n : Nat} (f : Nat) (h2 : 2 ≤ n) (h : trial n f 2 = true) : Pr n :=
 prime_of h2 fun d hd hdn => trial_ok f 2 h (fun e h1 h2 => absurd h1 (by omega)) d hd.1 hdn
theorem pr_197 : Pr 197 := trial_pr 19 (by decide) (by kernel_rfl)
theorem pr_3677 : Pr 3677 := trial_pr 65 (by decide) (by kernel_rfl)
theorem pr_66417393611 : Pr 66417393611 := by
 refine pock 2 [3677, 197] 91690 256 (by decide) ?_ (by kernel_rfl) (by decide) (by decide) (by kernel_rfl) (by kernel_rfl)
 intro q hq
 simp only [List.mem_cons, List.not_mem_nil, or_false] at hq
 rcases hq with rfl | rfl
 ·exact pr_3677
 ·exact pr_197
theorem pr_11290956913871 : Pr 11290956913871 := by
 refine pock 2 [66417393611] 170 256 (by decide) ?_ (by kernel_rfl) (by decide) (by decide) (by kernel_rfl) (by kernel_rfl)
 intro q hq
 simp only [List.mem_cons, List.not_mem_nil, or_false] at hq
 rcases hq with rfl
 ·exact pr_66417393611
theorem pr_704251 : Pr 704251 := trial_pr 844 (by decide) (by kernel_rfl)
theorem pr_78283 : Pr 78283 := trial_pr 284 (by decide) (by kernel_rfl)
theorem pr_46076956964474543 : Pr 46076956964474543 := by
 refine pock 2 [704251, 78283] 835774 256 (by decide) ?_ (by kernel_rfl) (by decide) (by decide) (by kernel_rfl) (by kernel_rfl)
 intro q hq
 simp only [List.mem_cons, List.not_mem_nil, or_false] at hq
 rcases hq with rfl | rfl
 ·exact pr_704251
 ·exact pr_78283
theorem zeX : Pr 774023187263532362759620327192479577272145303 := by
 refine pock 2 [46076956964474543, 11290956913871] 1487782449629334 256 (by decide) ?_ (by kernel_rfl) (by decide) (by decide) (by kernel_rfl) (by kernel_rfl)
 intro q hq
 simp only [List.mem_cons, List.not_mem_nil, or_false] at hq
 rcases hq with rfl | rfl
 ·exact pr_46076956964474543
 ·exact pr_11290956913871
theorem zeL : Pr 835945042244614951780389953367877943453916927241 := by
 refine pock 2 [774023187263532362759620327192479577272145303] 1080 256 (by decide) ?_ (by kernel_rfl) (by decide) (by decide) (by kernel_rfl) (by kernel_rfl)
 intro q hq
 simp only [List.mem_cons, List.not_mem_nil, or_false] at hq
 rcases hq with rfl
 ·exact zeX
theorem zcI : Pr 115792089210356248762697446949407573530086143415290314195533631308867097853951 := by
 refine pock 2 [835945042244614951780389953367877943453916927241] 138516389665330497628477975950 256 (by decide) ?_ (by kernel_rfl) (by decide) (by decide) (by kernel_rfl) (by kernel_rfl)
 intro q hq
 simp only [List.mem_cons, List.not_mem_nil, or_false] at hq
 rcases hq with rfl
 ·exact zeL
theorem pr_104471 : Pr 104471 := trial_pr 328 (by decide) (by kernel_rfl)
theorem pr_3969899 : Pr 3969899 := by
 refine pock 2 [104471] 38 256 (by decide) ?_ (by kernel_rfl) (by decide) (by decide) (by kernel_rfl) (by kernel_rfl)
 intro q hq
 simp only [List.mem_cons, List.not_mem_nil, or_false] at hq
 rcases hq with rfl
 ·exact pr_104471
theorem pr_1002328039319 : Pr 1002328039319 := by
 refine pock 2 [3969899] 252482 256 (by decide) ?_ (by kernel_rfl) (by decide) (by decide) (by kernel_rfl) (by kernel_rfl)
 intro q hq
 simp only [List.mem_cons, List.not_mem_nil, or_false] at hq
 rcases hq with rfl
 ·exact pr_3969899
theorem pr_3023 : Pr 3023 := trial_pr 59 (by decide) (by kernel_rfl)
theorem pr_155317 : Pr 155317 := trial_pr 399 (by decide) (by kernel_rfl)
theorem pr_191039911 : Pr 191039911 := by
 refine pock 2 [155317] 1230 256 (by decide) ?_ (by kernel_rfl) (by decide) (by decide) (by kernel_rfl) (by kernel_rfl)
 intro q hq
 simp only [List.mem_cons, List.not_mem_nil, or_false] at hq
 rcases hq with rfl
 ·exact pr_155317
theorem pr_208150935158385979 : Pr 208150935158385979 := by
 refine pock 2 [191039911, 3023] 360426 256 (by decide) ?_ (by kernel_rfl) (by decide) (by decide) (by kernel_rfl) (by kernel_rfl)
 intro q hq
 simp only [List.mem_cons, List.not_mem_nil, or_false] at hq
 rcases hq with rfl | rfl
 ·exact pr_191039911
 ·exact pr_3023
theorem zjN : Pr 2624747550333869278416773953 := by
 refine pock 2 [208150935158385979] 12609828288 256 (by decide) ?_ (by kernel_rfl) (by decide) (by decide) (by kernel_rfl) (by kernel_rfl)
 intro q hq
 simp only [List.mem_cons, List.not_mem_nil, or_false] at hq
 rcases hq with rfl
 ·exact pr_208150935158385979
theorem zcJ : Pr 115792089210356248762697446949407573529996955224135760342422259061068512044369 := by
 refine pock 2 [2624747550333869278416773953, 1002328039319] 44013050614219118277426053354358264624 256 (by decide) ?_ (by kernel_rfl) (by decide) (by decide) (by kernel_rfl) (by kernel_rfl)
 intro q hq
 simp only [List.mem_cons, List.not_mem_nil, or_false] at hq
 rcases hq with rfl | rfl
 ·exact zjN
 ·exact pr_1002328039319
theorem pr_PP : Pr PP := zcI
theorem pr_NN : Pr NN := zcJ
theorem pr_modN (m : Int) : Pr (modN m) := by
 rcases zlB m with h | h <;> rw [h]
 ·exact pr_PP
 ·exact pr_NN
end Go.Proofs.YtmbcolbbekbccaaGreat
