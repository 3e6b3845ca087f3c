/- Package hash: what its sums and macs are: plain laws. Package hash: are two texts the same: plain laws. strings.Builder: what its methods do to a builder of the call's own. DERIVED: THE SHELF's CONTRACTS AT THIS DUMP, IN PLAIN WORDS (tools/lay-plain.mjs out of 'TryzShelf.lean', which tools/lay-shelf.mjs wrote): THE SAME DECLARATIONS UNDER THE SAME NAMES: 'import', 'namespace', 'open', 'def', 'theorem' AND NOTHING ELSE: no command of the shelf's: FOR A HAND-IN. Each laying: the table of numbers ('.._ren') and one theorem, a field a fact of the dump's own or the kernel's comparison; each contract: ONE APPLICATION. A region that draws its order, walked in the order of the text, where floats of the head read what the tail leaves alone. A machine over plain values: what the program's code computes, in the order of its text, as a function. Conditions: none; these are definitions. Conditions: as each theorem says. -/
import Derived.Test.YtmkomlbiaebddaaGreatDoorRows
import Derived.Lib.Builder
import Derived.Lib.UnsafeStr
import Derived.LaidEql
import Derived.Laws.Externs
import Derived.Shelf.Strings.Builder1
import Derived.Shelf.Strings.Trim
import Derived.Shelf.Small.Utf8
import Derived.Shelf.Small.Bits
import Derived.Shelf.Small.Strs
import Derived.Shelf.Small.Wraps
import Derived.Shelf.Strings.BuilderF
import Derived.Shelf.Strings.BuilderK
import Derived.Shelf.Strconv.Atoi
import Derived.Shelf.Strconv.Itoa0
import Derived.Shelf.Strconv.Itoa1
import Derived.Shelf.LaysM
import Derived.Shelf.Strconv.Itoa2
import Derived.Shelf.Strconv.Itoa3
import Derived.Shelf.Strconv.AtoiErrFast
import Derived.Shelf.Strconv.ParseIntEmpty
import Derived.Shelf.Strconv.AtoiFail
import Derived.Shelf.Strconv.Clone
import Derived.Shelf.Strconv.SyntaxError
import Derived.Shelf.LaysC
import Derived.Shelf.Strconv.ToError
import Derived.Shelf.Strconv.Lower
import Derived.Shelf.Strconv.ParseUint10
import Derived.Shelf.Strconv.ParseUint10Empty
import Derived.Shelf.Strconv.ParseUint10Any
import Derived.Shelf.Strconv.ParseInt10
import Derived.Shelf.Strconv.AtoiLong
import Derived.Shelf.Strconv.AtoiInnerAll
import Derived.Shelf.Strconv.RangeError
import Derived.Shelf.Strconv.ToErrorRange
import Derived.Shelf.Strconv.AtoiAll
import Derived.Shelf.Strings.Search1
import Derived.Shelf.Strings.Search2
import Derived.Shelf.Strings.Cut
import Derived.Shelf.Strings.Shaped
import Derived.Shelf.Strings.Prefix
import Derived.Shelf.Strings.Runes
import Derived.Shelf.Strings.AsciiSet
import Derived.Shelf.Bits.Mul64
import Derived.Shelf.Unicode.DecodeSlow
import Derived.Ground.SlgmProg
import Derived.Shelf.SortM.Plain
import Derived.Shelf.SortM.SortNone
import Derived.Test.YtmkomlbiaebddaaGreatDoorProg
import Derived.Test.YtmkomlbiaebddaaGreatDoorQlD
namespace Go.Proofs.YtmkomlbiaebddaaGreatDoor
open Go Go.RowKit
section
variable {α : Type} {n : Nat}
def vset (x : Vec α n) (i : Nat) (u : α) : Vec α n := ⟨x.l.set i u, by simp [x.h]⟩
def gv (x : Vec UInt32 64) (i : Nat) : UInt32 := x.l.getD i 0
theorem setV_ok {x : Vec α n} {i : Nat} {j : Int} {u : α} (hj : j = (i : Int)) (h : i < n) : setV x j u = some (vset x i u) := by
 subst hj
 unfold setV
 rw [show (decide (0 ≤ (i : Int)) && decide ((i : Int) < (n : Int))) = true by simp; exact h]
 exact congrArg some (Vec.eq (by rw [vset]; simp))
theorem idxV_ok {x : Vec UInt32 64} {i : Nat} {j : Int} (hj : j = (i : Int)) (h : i < 64) : idx x.l j = some (gv x i) := by
 have h' : i < x.l.length := by rw [x.h]; exact h
 rw [idx_ok hj h', gv, List.getD_eq_getElem?_getD, List.getElem?_eq_getElem h']; rfl
theorem w64n {n : Nat} (h : n < 9223372036854775808) : w64 (n : Int) = (n : Int) := w64_of (by omega) (by omega)
theorem w64s (n : Nat) (h : n < 9223372036854775807) : w64 ((n : Int) + 1) = ((n + 1 : Nat) : Int) := w64_of (by omega) (by omega)
def rr (x : UInt32) (n : Nat) : UInt32 := i32 (shlI .u32 (x.toNat : Int) ((32 - n : Nat) : Int)) ||| i32 (shrI .u32 (x.toNat : Int) (n : Int))
theorem ror_ok (x : UInt32) (n : Nat) {m : Int} (h1 : ((((i64 (w64 (0 - m))) &&& (31 : UInt64))).toNat : Int) = ((32 - n : Nat) : Int)) (h2 : (((i64 ((32 : Int) - ((32 - n : Nat) : Int)))).toNat : Int) = (n : Int)) : hash_state_next_1_p x m = some (rr x n) := by
 unfold hash_state_next_1_p math_bits_RotateLeft32_p
 simp only [some_bind]
 rw [h1, h2]; rfl
def valF (l : List UInt8) : UInt64 := l.foldl (fun s b => (i64 (shlI .u64 (s.toNat : Int) 8)) ||| (i64 (b.toNat : Int))) 0
theorem value_ok {l : List UInt8} (h : l.length < 1000000) : hash_value_p l = some (valF l) := by
 have key : iter (hash_value_b0 l) ((0 : UInt64), 0) = some (valF l) := by
  refine iter_run (fun k => (valF (l.take k), (k : Int))) l.length (by omega) _ (fun k hk => ?_) ?_
  ·unfold hash_value_b0
   rw [dec_t (by omega), idx_ok rfl hk]
   simp only [some_bind]
   rw [w64s k (by omega), take_succ hk]
   simp only [valF, List.foldl_append, List.foldl_cons, List.foldl_nil]
  ·unfold hash_value_b0
   rw [dec_f (by omega), List.take_length]
 unfold hash_value_p
 rw [key]; rfl
end
abbrev St8 : Type := Qs
def W1 (blk : List UInt8) : Nat → Vec UInt32 64
 | 0 => vrep 64 0
 | k + 1 => vset (W1 blk k) k (i32 (((valF ((blk.take (4 * k + 4)).drop (4 * k))).toNat : Int)))
def extW (a b c d : UInt32) : UInt32 := i32 ((((i32 ((((i32 (((c).toNat : Int) + ((((rr a 7 ^^^ rr a 18) ^^^ (i32 (shrI .u32 ((a).toNat : Int) 3)))).toNat : Int)))).toNat : Int) + ((d).toNat : Int)))).toNat : Int) + ((((rr b 17 ^^^ rr b 19) ^^^ (i32 (shrI .u32 ((b).toNat : Int) 10)))).toNat : Int))
def W2 (w : Vec UInt32 64) : Nat → Vec UInt32 64
 | 0 => w
 | k + 1 => vset (W2 w k) (16 + k) (extW (gv (W2 w k) (k + 1)) (gv (W2 w k) (k + 14)) (gv (W2 w k) k) (gv (W2 w k) (k + 9)))
def t1F (s : St8) (K w : UInt32) : UInt32 := i32 ((((i32 ((((i32 ((((i32 (((s.2.2.2.2.2.2.2).toNat : Int) + ((((rr s.2.2.2.2.1 6 ^^^ rr s.2.2.2.2.1 11) ^^^ rr s.2.2.2.2.1 25)).toNat : Int)))).toNat : Int) + ((((s.2.2.2.2.1 &&& s.2.2.2.2.2.1) ^^^ (((4294967295 : UInt32) ^^^ s.2.2.2.2.1) &&& s.2.2.2.2.2.2.1))).toNat : Int)))).toNat : Int) + ((K).toNat : Int)))).toNat : Int) + ((w).toNat : Int))
def t2F (s : St8) : UInt32 := i32 (((((rr s.1 2 ^^^ rr s.1 13) ^^^ rr s.1 22)).toNat : Int) + (((((s.1 &&& s.2.1) ^^^ (s.1 &&& s.2.2.1)) ^^^ (s.2.1 &&& s.2.2.1))).toNat : Int))
def rnd (K w : UInt32) (s : St8) : St8 := (i32 (((t1F s K w).toNat : Int) + ((t2F s).toNat : Int)), s.1, s.2.1, s.2.2.1, i32 (((s.2.2.2.1).toNat : Int) + ((t1F s K w).toNat : Int)), s.2.2.2.2.1, s.2.2.2.2.2.1, s.2.2.2.2.2.2.1)
def R3 (K w : Vec UInt32 64) (s : St8) : Nat → St8
 | 0 => s
 | k + 1 => rnd (gv K k) (gv w k) (R3 K w s k)
def ad8 (a b : UInt32) : UInt32 := i32 (((a).toNat : Int) + ((b).toNat : Int))
def add8 (v s : St8) : St8 := (ad8 v.1 s.1, ad8 v.2.1 s.2.1, ad8 v.2.2.1 s.2.2.1, ad8 v.2.2.2.1 s.2.2.2.1, ad8 v.2.2.2.2.1 s.2.2.2.2.1, ad8 v.2.2.2.2.2.1 s.2.2.2.2.2.1, ad8 v.2.2.2.2.2.2.1 s.2.2.2.2.2.2.1, ad8 v.2.2.2.2.2.2.2 s.2.2.2.2.2.2.2)
def nextF (s : St8) (blk : List UInt8) (K : Vec UInt32 64) : St8 := add8 (R3 K (W2 (W1 blk 16) 48) s 64) s
theorem l0_ok {blk : List UInt8} (h : blk.length = 64) : iter (hash_state_next_b0 blk) (0, vrep 64 (0 : UInt32)) = some (W1 blk 16) := by
 refine iter_run (fun k => ((k : Int), W1 blk k)) 16 (by decide) _ (fun k hk => ?_) ?_
 ·unfold hash_state_next_b0
  have e1 : w64 ((4 : Int) * (k : Int)) = ((4 * k : Nat) : Int) := w64_of (by omega) (by omega)
  have e2 : w64 (((4 * k : Nat) : Int) + 4) = ((4 * k + 4 : Nat) : Int) := w64_of (by omega) (by omega)
  rw [dec_t (by omega)]
  simp only [e1, e2]
  rw [sub3_ok (by omega) (by omega), some_bind, value_ok (by simp; omega), some_bind, idxV_ok rfl (by omega), some_bind, setV_ok rfl (by omega), some_bind, w64s k (by omega)]
  rfl
 ·unfold hash_state_next_b0
  rw [dec_f (by omega)]
theorem l1_ok (w : Vec UInt32 64) : iter hash_state_next_b1 (16, w) = some (W2 w 48) := by
 refine iter_run (fun k => (((16 + k : Nat) : Int), W2 w k)) 48 (by decide) _ (fun k hk => ?_) ?_
 ·unfold hash_state_next_b1
  have e : ∀ (a : Int) (b : Nat), a = (b : Int) → b < 64 → w64 a = (b : Int) := fun a b e h => by rw [e]; exact w64n (by omega)
  rw [dec_t (by omega)]
  simp only [e (((16 + k : Nat) : Int) - 15) (k + 1) (by omega) (by omega), e (((16 + k : Nat) : Int) - 2) (k + 14) (by omega) (by omega), e (((16 + k : Nat) : Int) - 16) k (by omega) (by omega), e (((16 + k : Nat) : Int) - 7) (k + 9) (by omega) (by omega)]
  simp only [idxV_ok (x := W2 w k) (i := k + 1) rfl (by omega), idxV_ok (x := W2 w k) (i := k + 14) rfl (by omega), idxV_ok (x := W2 w k) (i := k) rfl (by omega), idxV_ok (x := W2 w k) (i := k + 9) rfl (by omega), idxV_ok (x := W2 w k) (i := 16 + k) rfl (by omega), some_bind, ror_ok _ 7 (m := 7) (by decide) (by decide), ror_ok _ 18 (m := 18) (by decide) (by decide), ror_ok _ 17 (m := 17) (by decide) (by decide), ror_ok _ 19 (m := 19) (by decide) (by decide), setV_ok (x := W2 w k) (i := 16 + k) rfl (by omega)]
  rw [w64s (16 + k) (by omega)]
  rfl
 ·unfold hash_state_next_b1
  rw [dec_f (by omega)]
theorem l2_ok (K w : Vec UInt32 64) (s : St8) : iter (hash_state_next_b2 K w) (0, s) = some (R3 K w s 64) := by
 refine iter_run (fun k => ((k : Int), R3 K w s k)) 64 (by decide) _ (fun k hk => ?_) ?_
 ·unfold hash_state_next_b2
  rw [dec_t (by omega)]
  simp only [idxV_ok (x := K) (i := k) rfl hk, idxV_ok (x := w) (i := k) rfl hk, some_bind, ror_ok _ 6 (m := 6) (by decide) (by decide), ror_ok _ 11 (m := 11) (by decide) (by decide), ror_ok _ 25 (m := 25) (by decide) (by decide), ror_ok _ 2 (m := 2) (by decide) (by decide), ror_ok _ 13 (m := 13) (by decide) (by decide), ror_ok _ 22 (m := 22) (by decide) (by decide)]
  rw [w64s k (by omega)]
  rfl
 ·unfold hash_state_next_b2
  rw [dec_f (by omega)]
def pt8 (v s : St8) (k : Nat) : St8 := (if 0 < k then ad8 v.1 s.1 else v.1, if 1 < k then ad8 v.2.1 s.2.1 else v.2.1, if 2 < k then ad8 v.2.2.1 s.2.2.1 else v.2.2.1, if 3 < k then ad8 v.2.2.2.1 s.2.2.2.1 else v.2.2.2.1, if 4 < k then ad8 v.2.2.2.2.1 s.2.2.2.2.1 else v.2.2.2.2.1, if 5 < k then ad8 v.2.2.2.2.2.1 s.2.2.2.2.2.1 else v.2.2.2.2.2.1, if 6 < k then ad8 v.2.2.2.2.2.2.1 s.2.2.2.2.2.2.1 else v.2.2.2.2.2.2.1, if 7 < k then ad8 v.2.2.2.2.2.2.2 s.2.2.2.2.2.2.2 else v.2.2.2.2.2.2.2)
theorem l3_ok (s v : St8) : iter (hash_state_next_b3 s) (0, v) = some (add8 v s) := by
 refine iter_run (fun k => ((k : Int), pt8 v s k)) 8 (by decide) _ (fun k hk => ?_) ?_
 ·rcases (by omega : k = 0 ∨ k = 1 ∨ k = 2 ∨ k = 3 ∨ k = 4 ∨ k = 5 ∨ k = 6 ∨ k = 7) with rfl | rfl | rfl | rfl | rfl | rfl | rfl | rfl <;> rfl
 ·rfl
theorem next_ok (s : St8) {blk : List UInt8} (K : Vec UInt32 64) (h : blk.length = 64) : hash_state_next_p s blk K = some (nextF s blk K, K) := by
 unfold hash_state_next_p
 rw [l0_ok h, some_bind, some_bind, l1_ok, some_bind, some_bind]
 rw [show (0, s.1, s.2.1, s.2.2.1, s.2.2.2.1, s.2.2.2.2.1, s.2.2.2.2.2.1, s.2.2.2.2.2.2.1, s.2.2.2.2.2.2.2) = ((0 : Int), s) from rfl, l2_ok, some_bind, some_bind]
 rw [show ∀ t : St8, (0, t.1, t.2.1, t.2.2.1, t.2.2.2.1, t.2.2.2.2.1, t.2.2.2.2.2.1, t.2.2.2.2.2.2.1, t.2.2.2.2.2.2.2) = ((0 : Int), t) from fun _ => rfl, l3_ok, some_bind, some_bind]
 rfl
def byF (x : UInt64) (i : Nat) : UInt8 := i8 (((i64 (shrI .u64 ((x).toNat : Int) ((8 * i : Nat) : Int)))).toNat : Int)
def beF (x : UInt64) : Nat → List UInt8
 | 0 => []
 | i + 1 => byF x i :: beF x i
theorem beF_len (x : UInt64) : ∀ n, (beF x n).length = n
 | 0 => rfl
 | n + 1 => by rw [beF, List.length_cons, beF_len x n]
theorem beF_take (x : UInt64) (n : Nat) : ∀ k, k < n → (beF x n).take (k + 1) = (beF x n).take k ++ [byF x (n - 1 - k)] := by
 have get : ∀ n k (h : k < (beF x n).length), (beF x n)[k] = byF x (n - 1 - k) := by
  intro n
  induction n with
  | zero => intro k h; simp [beF] at h
  | succ n ih =>
   intro k h
   cases k with
   | zero => simp [beF]
   | succ k =>
    simp only [beF, List.getElem_cons_succ]
    rw [ih k (by simpa [beF] using h)]
    congr 1; omega
 intro k hk
 have h : k < (beF x n).length := by rw [beF_len]; exact hk
 rw [take_succ h, get n k h]
theorem big_ok {l : List UInt8} {x : UInt64} {n : Nat} (hn : n ≤ 8) (h : l.length ≤ 68719476000) : hash_big_p l x (n : Int) = some (l ++ beF x n) := by
 have e0 : w64 ((n : Int) - 1) = (n : Int) - 1 := w64_of (by omega) (by omega)
 have key : iter (hash_big_b0 x) ((n : Int) - 1, l) = some (l ++ beF x n) := by
  have := iter_run (body := hash_big_b0 x) (fun k => ((n : Int) - 1 - (k : Int), l ++ (beF x n).take k)) n (by omega) (l ++ beF x n) (fun k hk => by
   unfold hash_big_b0
   have e1 : (n : Int) - 1 - (k : Int) = ((n - 1 - k : Nat) : Int) := by omega
   rw [dec_t (by omega)]
   simp only [e1]
   have e2 : w64 ((8 : Int) * ((n - 1 - k : Nat) : Int)) = ((8 * (n - 1 - k) : Nat) : Int) := w64_of (by omega) (by omega)
   have e3 : w64 (((n - 1 - k : Nat) : Int) - 1) = (n : Int) - 1 - ((k + 1 : Nat) : Int) := by rw [w64_of (by omega) (by omega)]; omega
   rw [e2, chk_ok (decide_eq_true (by omega)), some_bind, app_ok (by simp [List.length_take, beF_len]; omega), some_bind, e3, beF_take x n k hk]
   simp only [List.append_assoc]
   rfl) (by
   unfold hash_big_b0
   rw [dec_f (by omega), List.take_of_length_le (by rw [beF_len]; exact Nat.le_refl _)])
  simpa using this
 unfold hash_big_p
 rw [e0, key]; rfl
def bodyF (l : List UInt8) : List UInt8 := (l ++ [128]) ++ List.replicate ((119 - l.length % 64) % 64) 0
def msgF (l : List UInt8) : List UInt8 := bodyF l ++ beF (i64 ((8 : Int) * (((i64 ((l.length : Int)))).toNat : Int))) 8
theorem bodyF_len (l : List UInt8) : (bodyF l).length % 64 = 56 := by simp only [bodyF, List.length_append, List.length_replicate, List.length_cons, List.length_nil]; omega
theorem bodyF_le (l : List UInt8) : (bodyF l).length ≤ l.length + 64 := by simp only [bodyF, List.length_append, List.length_replicate, List.length_cons, List.length_nil]; omega
theorem msgF_len (l : List UInt8) : (msgF l).length % 64 = 0 := by have := bodyF_len l; simp only [msgF, List.length_append, beF_len]; omega
theorem msgF_le (l : List UInt8) : (msgF l).length ≤ l.length + 72 := by have := bodyF_le l; simp only [msgF, List.length_append, beF_len]; omega
theorem tmod64 (n : Nat) : Int.tmod (n : Int) 64 = ((n % 64 : Nat) : Int) := (Int.ofNat_tmod n 64).symm
theorem pad_ok {l : List UInt8} (h : l.length ≤ 68719470000) : iter hash_Sum_b0 (l ++ [128]) = some (bodyF l) := by
 have := iter_run (body := hash_Sum_b0) (fun k => (l ++ [128]) ++ List.replicate k (0 : UInt8)) ((119 - l.length % 64) % 64) (by omega) (bodyF l) (fun k hk => by
  unfold hash_Sum_b0
  have hl : ((l ++ [128]) ++ List.replicate k (0 : UInt8)).length = l.length + 1 + k := by simp; omega
  rw [hl, cond_t (by rw [tmod64]; simp only [bne_iff_ne, ne_eq]; omega), app_ok (by rw [hl, List.length_cons, List.length_nil]; omega), some_bind, List.append_assoc, ← List.replicate_succ']) (by
  unfold hash_Sum_b0
  rw [show (l ++ [128]) ++ List.replicate ((119 - l.length % 64) % 64) (0 : UInt8) = bodyF l from rfl]
  have := bodyF_len l
  rw [cond_f (by rw [tmod64, this]; rfl)])
 simpa using this
def ini8 : St8 := (1779033703, 3144134277, 1013904242, 2773480762, 1359893119, 2600822924, 528734635, 1541459225)
def chainF (K : Vec UInt32 64) (b : List UInt8) : Nat → St8
 | 0 => ini8
 | k + 1 => nextF (chainF K b k) ((b.drop (64 * k)).take 64) K
def outF (s : St8) : List UInt8 := beF (i64 (s.1.toNat : Int)) 4 ++ (beF (i64 (s.2.1.toNat : Int)) 4 ++ (beF (i64 (s.2.2.1.toNat : Int)) 4 ++ (beF (i64 (s.2.2.2.1.toNat : Int)) 4 ++ (beF (i64 (s.2.2.2.2.1.toNat : Int)) 4 ++ (beF (i64 (s.2.2.2.2.2.1.toNat : Int)) 4 ++ (beF (i64 (s.2.2.2.2.2.2.1.toNat : Int)) 4 ++ beF (i64 (s.2.2.2.2.2.2.2.toNat : Int)) 4))))))
def at8 (s : St8) (k : Nat) : UInt32 := ([s.1, s.2.1, s.2.2.1, s.2.2.2.1, s.2.2.2.2.1, s.2.2.2.2.2.1, s.2.2.2.2.2.2.1, s.2.2.2.2.2.2.2] : List UInt32).getD k 0
def outN (s : St8) : Nat → List UInt8
 | 0 => []
 | k + 1 => outN s k ++ beF (i64 ((at8 s k).toNat : Int)) 4
theorem outN_len (s : St8) : ∀ k, (outN s k).length = 4 * k
 | 0 => rfl
 | k + 1 => by rw [outN, List.length_append, outN_len s k, beF_len]; omega
theorem outF_eq (s : St8) : outN s 8 = outF s := by simp only [outN, outF, at8, List.nil_append, List.append_assoc]; rfl
theorem outF_len (s : St8) : (outF s).length = 32 := by rw [← outF_eq, outN_len]
def keysF : Vec UInt32 64 := (hash_keys_p).getD (vrep 64 0)
theorem keys_ok : hash_keys_p = some keysF := rfl
def shaF (l : List UInt8) : List UInt8 := outF (chainF keysF (msgF l) ((msgF l).length / 64))
theorem shaF_len (l : List UInt8) : (shaF l).length = 32 := outF_len _
theorem chain_ok (K : Vec UInt32 64) {b : List UInt8} (h : b.length % 64 = 0) (hl : b.length ≤ 68719476736) : iter hash_Sum_b1 (b, 1779033703, 3144134277, 1013904242, 2773480762, 1359893119, 2600822924, 528734635, 1541459225, K) =
  some ((chainF K b (b.length / 64)).1, (chainF K b (b.length / 64)).2.1, (chainF K b (b.length / 64)).2.2.1, (chainF K b (b.length / 64)).2.2.2.1, (chainF K b (b.length / 64)).2.2.2.2.1, (chainF K b (b.length / 64)).2.2.2.2.2.1, (chainF K b (b.length / 64)).2.2.2.2.2.2.1, (chainF K b (b.length / 64)).2.2.2.2.2.2.2, K) := by
 refine iter_run (fun k => (b.drop (64 * k), (chainF K b k).1, (chainF K b k).2.1, (chainF K b k).2.2.1, (chainF K b k).2.2.2.1, (chainF K b k).2.2.2.2.1, (chainF K b k).2.2.2.2.2.1, (chainF K b k).2.2.2.2.2.2.1, (chainF K b k).2.2.2.2.2.2.2, K)) (b.length / 64) (by omega) _ (fun k hk => ?_) ?_
 ·unfold hash_Sum_b1
  have hd : (b.drop (64 * k)).length = b.length - 64 * k := by simp
  rw [dec_t (by simp only [hd]; omega)]
  simp only []
  rw [show (64 : Int) = ((64 : Nat) : Int) from rfl, subH_ok (by rw [hd]; omega), some_bind, next_ok _ _ (by simp only [List.length_take, hd]; omega), some_bind, subL_ok (by rw [hd]; omega), some_bind, List.drop_drop]
  rfl
 ·unfold hash_Sum_b1
  rw [dec_f (by simp only [List.length_drop]; omega)]
theorem out_ok2 (s : St8) (K : Vec UInt32 64) : iter (hash_Sum_b2 (s.1, s.2.1, s.2.2.1, s.2.2.2.1, s.2.2.2.2.1, s.2.2.2.2.2.1, s.2.2.2.2.2.2.1, s.2.2.2.2.2.2.2, K)) (([] : List UInt8), 0) = some (outF s) := by
 rw [← outF_eq]
 refine iter_run (fun k => (outN s k, (k : Int))) 8 (by decide) _ (fun k hk => ?_) ?_
 ·unfold hash_Sum_b2
  have e : idx ([s.1, s.2.1, s.2.2.1, s.2.2.2.1, s.2.2.2.2.1, s.2.2.2.2.2.1, s.2.2.2.2.2.2.1, s.2.2.2.2.2.2.2] : List UInt32) (k : Int) = some (at8 s k) := by
   rcases (by omega : k = 0 ∨ k = 1 ∨ k = 2 ∨ k = 3 ∨ k = 4 ∨ k = 5 ∨ k = 6 ∨ k = 7) with rfl | rfl | rfl | rfl | rfl | rfl | rfl | rfl <;> rfl
  rw [dec_t (by omega)]
  simp only []
  rw [e, some_bind, show (4 : Int) = ((4 : Nat) : Int) from rfl, big_ok (by decide) (by rw [outN_len]; omega), some_bind, w64s k (by omega)]
  rfl
 ·unfold hash_Sum_b2
  rw [dec_f (by omega)]
theorem sum_ok4 {l : List UInt8} (h : l.length ≤ 68719470000) : hash_Sum_p l = some (shaF l) := by
 unfold hash_Sum_p
 rw [app_ok (by rw [List.length_cons, List.length_nil]; omega), some_bind, pad_ok h, some_bind, some_bind, show (8 : Int) = ((8 : Nat) : Int) from rfl, big_ok (by decide) (by have := bodyF_le l; omega), some_bind, keys_ok, some_bind]
 rw [show bodyF l ++ beF (i64 (((8 : Nat) : Int) * (((i64 ((l.length : Int)))).toNat : Int))) 8 = msgF l from rfl, chain_ok keysF (msgF_len l) (by have := msgF_le l; omega), some_bind, some_bind, out_ok2]
 rfl
theorem mul1 (c : UInt8) : math_bits_Mul_p (i64 ((([c] : List UInt8)).length : Int)) (i64 64) = some ((0 : UInt64), (64 : UInt64)) := by
 rw [show ((([c] : List UInt8)).length : Int) = 1 from rfl]; decide +kernel
theorem rep_step (c : UInt8) {n : Nat} (h0 : 0 < n) (h : n ≤ 32) {r : List UInt8} (hr : r.length = 64 - n) : bytes_Repeat_b0 ((0 : UInt64), (64 : UInt64)) 64 ((n : Int), List.replicate n c ++ r) = some (.inl (((2 * n : Nat) : Int), List.replicate (2 * n) c ++ r.drop n)) := by
 unfold bytes_Repeat_b0
 have e64 : w64 (((64 : UInt64)).toNat : Int) = 64 := by decide
 have hl : (List.replicate n c ++ r).length = 64 := by simp [hr]; omega
 simp only [e64]
 rw [dec_t (by omega), subL_ok (by omega), some_bind, dec_t (by omega), subH_ok (by omega), some_bind]
 have h1 : (List.replicate n c ++ r).drop n = r := by rw [List.drop_left' (by simp)]
 have h2 : (List.replicate n c ++ r).take n = List.replicate n c := by rw [List.take_left' (by simp)]
 rw [h2, hl, show (((n : Int)).toNat) = n from rfl, List.length_replicate]
 have h4 : min n (64 - n) = n := by omega
 rw [h4, w64_of (by omega) (by omega)]
 have h5 : putB (List.replicate n c ++ r) n (List.replicate n c) = List.replicate (2 * n) c ++ r.drop n := by
  unfold putB
  rw [h2, hl, List.length_replicate, h4, List.take_of_length_le (by simp; omega), List.drop_append, List.length_replicate, List.drop_eq_nil_of_le (by simp), List.nil_append, ← List.append_assoc, List.replicate_append_replicate]
  congr 2 <;> omega
 rw [h5]
 congr 4
 omega
theorem rep_ok (c : UInt8) : bytes_Repeat_p [c] 64 = some (List.replicate 64 c) := by
 unfold bytes_Repeat_p
 have e64 : w64 (((64 : UInt64)).toNat : Int) = 64 := by decide
 rw [cond_f (by rfl), dec_f (by decide), mul1, some_bind]
 simp only [e64]
 rw [cond_f (by decide), cond_f (by rfl), dec_f (by decide), some_bind, chk_ok (by decide), some_bind]
 refine anyJ_intro fun jk hj => ?_
 have hj' : jk.length = 64 := hj
 have h0 : putB jk 0 [c] = List.replicate 1 c ++ jk.drop 1 := by
  unfold putB
  rw [hj']; rfl
 have key : iter (bytes_Repeat_b0 ((0 : UInt64), (64 : UInt64)) 64) (((1 : Nat) : Int), List.replicate 1 c ++ jk.drop 1) = some (List.replicate 64 c) := by
  refine iter_run (fun k => (((2 ^ k : Nat) : Int), List.replicate (2 ^ k) c ++ jk.drop (2 ^ k))) 6 (by decide) _ (fun k hk => ?_) ?_
  ·have hp : 2 ^ k ≤ 32 := by rcases (by omega : k = 0 ∨ k = 1 ∨ k = 2 ∨ k = 3 ∨ k = 4 ∨ k = 5) with rfl | rfl | rfl | rfl | rfl | rfl <;> decide
   rw [rep_step c (Nat.pos_of_ne_zero (by simp)) hp (by rw [List.length_drop, hj']), List.drop_drop, ← Nat.two_mul, Nat.pow_succ, Nat.mul_comm]
  ·unfold bytes_Repeat_b0
   simp only [e64]
   rw [dec_f (by decide), List.drop_eq_nil_of_le (by rw [hj']; decide), List.append_nil]
 rw [show (((min (([c] : List UInt8)).length (jk.length - 0) : Nat)) : Int) = ((1 : Nat) : Int) by rw [hj']; rfl, h0, key]; rfl
def overF (c : UInt8) (key : List UInt8) : Nat → List UInt8
 | 0 => List.replicate 64 c
 | k + 1 => (overF c key k).set k ((overF c key k).getD k 0 ^^^ key.getD k 0)
theorem overF_len (c : UInt8) (key : List UInt8) : ∀ k, (overF c key k).length = 64
 | 0 => by simp [overF]
 | k + 1 => by rw [overF, List.length_set, overF_len c key k]
theorem idxD {l : List UInt8} {k : Nat} (h : k < l.length) : idx l (k : Int) = some (l.getD k 0) := by
 rw [idx_ok rfl h, List.getD_eq_getElem?_getD, List.getElem?_eq_getElem h]; rfl
theorem setL8_ok {l : List UInt8} {k : Nat} {u : UInt8} (h : k < l.length) : setL l (k : Int) u = some (l.set k u) := by
 unfold setL
 rw [show (decide (0 ≤ (k : Int)) && decide ((k : Int) < (l.length : Int))) = true by simp; exact h]; rfl
theorem over_ok {key : List UInt8} (h : key.length ≤ 64) : iter (hash_Mac_b0 key) (0, List.replicate 64 (92 : UInt8), List.replicate 64 (54 : UInt8)) = some (overF 92 key key.length, overF 54 key key.length) := by
 refine iter_run (fun k => ((k : Int), overF 92 key k, overF 54 key k)) key.length (by omega) _ (fun k hk => ?_) ?_
 ·unfold hash_Mac_b0
  rw [dec_t (by omega)]
  simp only []
  have hi : k < (overF 54 key k).length := by rw [overF_len]; omega
  have ho : k < (overF 92 key k).length := by rw [overF_len]; omega
  rw [idxD hi, some_bind, idxD hk, some_bind, some_bind, setL8_ok hi, some_bind, idxD ho, some_bind, some_bind, some_bind, setL8_ok ho, some_bind, w64s k (by omega)]
  rfl
 ·unfold hash_Mac_b0
  rw [dec_f (by omega)]
def keyF (key : List UInt8) : List UInt8 := bif decide (64 < key.length) then shaF key else key
def macF (key s : List UInt8) : List UInt8 := shaF (overF 92 (keyF key) (keyF key).length ++ shaF (overF 54 (keyF key) (keyF key).length ++ s))
theorem keyF_len (key : List UInt8) : (keyF key).length ≤ 64 := by
 unfold keyF
 by_cases h : 64 < key.length
 ·rw [dec_t h, shaF_len]; decide
 ·rw [dec_f h]; omega
theorem macF_len (key s : List UInt8) : (macF key s).length = 32 := shaF_len _
theorem mac_ok4 {key s : List UInt8} (hk : key.length ≤ 68719470000) (hs : s.length ≤ 68719460000) : hash_Mac_p key s = some (macF key s) := by
 unfold hash_Mac_p
 have e : (bif decide ((64 : Int) < ((key).length : Int)) then (Option.bind (hash_Sum_p key) fun y1 => some (y1)) else (some (key))) = some (keyF key) := by
  unfold keyF
  by_cases h : 64 < key.length
  ·rw [dec_t (by omega), dec_t h, sum_ok4 hk]; rfl
  ·rw [dec_f (by omega), dec_f h]
 have l2 := overF_len 92 (keyF key) (keyF key).length
 have l1 := overF_len 54 (keyF key) (keyF key).length
 have hi : (overF 54 (keyF key) (keyF key).length ++ s).length ≤ 68719470000 := by rw [List.length_append, l1]; omega
 have ho : (overF 92 (keyF key) (keyF key).length ++ shaF (overF 54 (keyF key) (keyF key).length ++ s)).length ≤ 68719470000 := by rw [List.length_append, l2, shaF_len]; omega
 rw [e, some_bind, rep_ok, some_bind, rep_ok, some_bind, over_ok (keyF_len key), some_bind, some_bind, app_ok (by rw [← List.length_append]; show (overF 54 (keyF key) (keyF key).length ++ s).length ≤ _; omega), some_bind, sum_ok4 hi, some_bind, app_ok (by rw [← List.length_append]; show (overF 92 (keyF key) (keyF key).length ++ shaF (overF 54 (keyF key) (keyF key).length ++ s)).length ≤ _; omega), some_bind, sum_ok4 ho]
 rfl
theorem or63 {a b : Nat} (ha : a < 2 ^ 63) (hb : b < 2 ^ 63) : bits .or .i64 (a : Int) (b : Int) = ((a ||| b : Nat) : Int) := by
 have h1 : a < 2 ^ IntKind.i64.bits := by show a < 2 ^ 64; omega
 have h2 : b < 2 ^ IntKind.i64.bits := by show b < 2 ^ 64; omega
 simp only [bits, BitVec.toNat_or, ofNatBV .i64 a h1, ofNatBV .i64 b h2]
 have := Nat.or_lt_two_pow ha hb
 exact wr64 (by omega) (by omega)
theorem xor63 {a b : Nat} (ha : a < 2 ^ 63) (hb : b < 2 ^ 63) : bits .xor .i64 (a : Int) (b : Int) = ((a ^^^ b : Nat) : Int) := by
 have h1 : a < 2 ^ IntKind.i64.bits := by show a < 2 ^ 64; omega
 have h2 : b < 2 ^ IntKind.i64.bits := by show b < 2 ^ 64; omega
 simp only [bits, BitVec.toNat_xor, ofNatBV .i64 a h1, ofNatBV .i64 b h2]
 have := Nat.xor_lt_two_pow ha hb
 exact wr64 (by omega) (by omega)
def unlike (x y : List UInt8) : Nat → Nat
 | 0 => x.length ^^^ y.length
 | k + 1 => unlike x y k ||| (x.getD k 0 ^^^ y.getD k 0).toNat
theorem unlike_lt {x y : List UInt8} (hx : x.length < 2 ^ 63) (hy : y.length < 2 ^ 63) : ∀ k, unlike x y k < 2 ^ 63
 | 0 => Nat.xor_lt_two_pow hx hy
 | k + 1 => Nat.or_lt_two_pow (unlike_lt hx hy k) (Nat.lt_of_lt_of_le (UInt8.toNat_lt _) (by decide))
theorem orz0 {a b : Nat} : a ||| b = 0 ↔ a = 0 ∧ b = 0 := by
 constructor
 ·intro h
  have h1 : a ≤ a ||| b := Nat.left_le_or
  have h2 : b ≤ a ||| b := Nat.right_le_or
  omega
 ·rintro ⟨rfl, rfl⟩; rfl
theorem xorz08 {a b : UInt8} : (a ^^^ b).toNat = 0 ↔ a = b := by
 rw [UInt8.toNat_xor]
 constructor
 ·intro h
  apply UInt8.toNat_inj.1
  have := congrArg (· ^^^ b.toNat) h
  simpa [Nat.xor_assoc] using this
 ·rintro rfl; simp
theorem unlike_zero {x y : List UInt8} : ∀ k, unlike x y k = 0 ↔ x.length = y.length ∧ ∀ j, j < k → x.getD j 0 = y.getD j 0
 | 0 => by
  simp only [unlike, Nat.not_lt_zero, false_imp_iff, implies_true, and_true]
  constructor
  ·intro h
   have := congrArg (· ^^^ y.length) h
   simpa [Nat.xor_assoc] using this
  ·intro h; rw [h]; simp
 | k + 1 => by
  rw [unlike, orz0, unlike_zero k, xorz08]
  constructor
  ·rintro ⟨⟨h1, h2⟩, h3⟩
   exact ⟨h1, fun j hj => by
    rcases (by omega : j < k ∨ j = k) with h | rfl
    ·exact h2 j h
    ·exact h3⟩
  ·rintro ⟨h1, h2⟩
   exact ⟨⟨h1, fun j hj => h2 j (by omega)⟩, h2 k (by omega)⟩
theorem hsame_ok {x y : List UInt8} (hx : x.length ≤ 68719476736) (hy : y.length ≤ 68719476736) : hash_Same_p x y = some (x == y) := by
 have hx2 : x.length < 2 ^ 63 := by omega
 have hy2 : y.length < 2 ^ 63 := by omega
 have key : iter (hash_Same_b0 x y) ((((x.length ^^^ y.length : Nat)) : Int), 0) = some ((unlike x y x.length : Nat) : Int) := by
  refine iter_run (fun k => (((unlike x y k : Nat) : Int), (k : Int))) x.length (by omega) _ (fun k hk => ?_) ?_
  ·unfold hash_Same_b0
   rw [dec_t (by omega)]
   simp only []
   have e : (bif decide ((k : Int) < ((y).length : Int)) then (Option.bind (idx y (k : Int)) fun y1 => some (y1)) else (some ((0 : UInt8)))) = some (y.getD k 0) := by
    by_cases h : k < y.length
    ·rw [dec_t (by omega), idxD h]; rfl
    ·rw [dec_f (by omega), List.getD_eq_getElem?_getD, List.getElem?_eq_none (by omega)]; rfl
   rw [e, some_bind, idxD hk, some_bind, or63 (unlike_lt hx2 hy2 k) (Nat.lt_of_lt_of_le (UInt8.toNat_lt _) (by decide)), w64s k (by omega)]
   rfl
  ·unfold hash_Same_b0
   rw [dec_f (by omega)]
 unfold hash_Same_p
 rw [xor63 hx2 hy2, key, some_bind, some_bind]
 congr 1
 have hz := unlike_zero (x := x) (y := y) x.length
 by_cases h : x = y
 ·subst h
  rw [hz.2 ⟨rfl, fun _ _ => rfl⟩]; simp
 ·rw [beq_false_of_ne h]
  have : ¬ unlike x y x.length = 0 := fun e => h (by
   obtain ⟨h1, h2⟩ := hz.1 e
   apply List.ext_getElem h1
   intro i hi hi'
   have := h2 i hi
   simpa [List.getD_eq_getElem?_getD, List.getElem?_eq_getElem hi, List.getElem?_eq_getElem hi'] using this)
  rw [beq_eq_false_iff_ne]; omega
section
attribute [local irreducible] wpList wpT Code.wp Calls Code.rounds
variable {S : Mem} {w : World}
theorem bu1 : Tryz.prog.underlying 121 = some (.pointer 123) := by kernel_rfl
theorem bu2 : Tryz.prog.underlying 187 = some .unsafePointer := by kernel_rfl
theorem bi1 : (Tryz.prog.info? 123).map (·.size) = some 2 := by kernel_rfl
theorem bl1 : liesAt Tryz.prog Tryz.prog.depth 123 (2 / Tryz.prog.cellsOf 123) 0 123 1 = true := by kernel_rfl
theorem bf0 : TField Tryz.prog 123 0 0 := fun _ _ _ => by kernel_rfl
theorem bf1 : TField Tryz.prog 123 1 1 := fun _ _ _ => by kernel_rfl
theorem bto : TOne Tryz.prog 121 := ⟨fun _ => by kernel_rfl, fun _ => by kernel_rfl⟩
theorem bto2 : TOne Tryz.prog 100 := ⟨fun _ => by kernel_rfl, fun _ => by kernel_rfl⟩
theorem btz : TSz Tryz.prog 121 1 := fun _ => by kernel_rfl
theorem bnoEsc (x : Value) (w : World) : (callFunc 155 [x].toArray).run Tryz.prog w = .ok (.value x) w := by
 have h := run_callFunc_extern (P := Tryz.prog) (w := w) (args := #[x]) Tryz.func155 (by kernel_rfl) (by kernel_rfl) (by kernel_rfl) (e := Extern.AbiNoEscape.same) (by kernel_rfl)
 show (callFunc 155 #[x]).run Tryz.prog w = _
 rw [h, Lib.run_noEscape]; rfl
def Builder_copyCheck_p (x0 : List UInt8) : Option (List UInt8) := some x0
section
variable {P : Program} {w : World} {B : Bas} {S : Mem} {L : List Res} {e : Operand → Value} {dst : Option Tmp} {g : Option (Nat × Bool)} {ty : TypeId} {pos : String} {aft : Array Edge} {x y : Operand} {T T1 T2 T' : TypeId} {a : Addr}
theorem r_eqPN (hu : P.underlying T = some (.pointer T1)) (hx : e x = .pointer none) (hy : e y = .pointer none) : (execOp e ⟨dst, .binOp .eql T x y T', ty, pos, aft, g⟩).run P w = .ok (.value (.bool true)) w := by
 have h : (Op.equal T (.pointer none) (.pointer none)).run P w = .ok true w := by
  have h : ∀ d, (Op.equalIn (d + 1) T (.pointer none) (.pointer none)).run P w = .ok true w := fun d => by simp [Op.equalIn, Go.underlying, hu]
  exact h 9999
 simp [execOp, eqGuard, binOp, hx, hy, h]
theorem r_eqPS (hu : P.underlying T = some (.pointer T1)) (hx : e x = .pointer (some a)) (hy : e y = .pointer none) : (execOp e ⟨dst, .binOp .eql T x y T', ty, pos, aft, g⟩).run P w = .ok (.value (.bool false)) w := by
 have h : (Op.equal T (.pointer (some a)) (.pointer none)).run P w = .ok false w := by
  have h : ∀ d, (Op.equalIn (d + 1) T (.pointer (some a)) (.pointer none)).run P w = .ok false w := fun d => by simp [Op.equalIn, Go.underlying, hu]
  exact h 9999
 simp [execOp, eqGuard, binOp, hx, hy, h]
theorem r_nePP {j : TypeInfo} (hu : P.underlying T = some (.pointer T1)) (hj : P.info? T1 = some j) (hx : e x = .pointer (some a)) (hy : e y = .pointer (some a)) : (execOp e ⟨dst, .binOp .neq T x y T', ty, pos, aft, g⟩).run P w = .ok (.value (.bool false)) w := by
 have h := Lib.run_neq_ptr_same (P := P) w a hu hj
 simp [execOp, eqGuard, hx, hy, h]
end
theorem Builder_copyCheck_c {b0_ : Nat} {x0 : List UInt8} {pv1 : Value} {pcs1 prs1 : List Value} {pa1 : Value} (H : HS ⟨S, keysR [.blk b0_ ([pa1] ++ ([pv1])) 123, .osl (pv1) (x0).length 1 pcs1 prs1 5], w⟩ S w [.blk b0_ ([pa1] ++ ([pv1])) 123, .osl (pv1) (x0).length 1 pcs1 prs1 5])
  (pg1 : RL S pcs1 x0) (pg2 : BA b0_ pa1) {r : List UInt8} (hF : Builder_copyCheck_p x0 = some r) :
  Calls Tryz.prog 117 #[.pointer (some ⟨b0_, 0, none⟩)] w fun e w' => ∃ (S2 : Mem) (pv2 : Value) (pcs2 prs2 : List Value) (pa2 : Value), e = .returned (.tuple #[]) ∧ HS ⟨S, keysR [.blk b0_ ([pa1] ++ ([pv1])) 123, .osl (pv1) (x0).length 1 pcs1 prs1 5], w⟩ S2 w' [.blk b0_ ([pa2] ++ ([pv2])) 123, .osl (pv2) (r).length 1 pcs2 prs2 5] ∧ RL S2 pcs2 r ∧ BA b0_ pa2 := by
 obtain rfl := osi hF
 obtain ⟨j, hj, hjs⟩ := Option.map_eq_some_iff.1 bi1
 have hblk : w.heap[b0_]? = some (.cells ([pa1] ++ ([pv1])).toArray 123 (0, 0)) := H.own 0 _ rfl
 have hsh : w.shape? (⟨b0_, 0, none⟩ : Addr).block = some (123, 2) := by simp [World.shape?, hblk]
 refine enter (n := 20) Tryz.func117 rfl rfl rfl ?_
 rcases pg2 with rfl | rfl
 ·refine wp_seq_k ?_; intro K1 hK1
  refine wp_region_lit ?_
  refine p_val (r_move (v := .pointer (some ⟨b0_, 0, none⟩)) rfl) ?_
  refine p_val (r_nilck rfl) ?_
  refine p_val (r_field bf0 rfl) ?_
  refine p_val (h_load1 (v := .pointer none) bto H rfl (k := 0) rfl rfl) ?_
  refine p_val (r_eqPN bu1 rfl rfl) ?_
  refine wpList_nil ?_
  refine x_norm ?_; refine hK1 _ _ ?_
  refine c_true rfl rfl ?_
  refine wp_region_lit ?_
  refine p_val (r_move (v := .pointer (some ⟨b0_, 0, none⟩)) rfl) ?_
  refine p_val (r_move (v := .pointer (some ⟨b0_, 0, none⟩)) rfl) ?_
  refine p_val (c := .pointer (some ⟨b0_, 0, none⟩)) (by
   have h := Lib.run_to_unsafe (P := Tryz.prog) w ⟨b0_, 0, none⟩ bu1 bu2 hj (by rw [hjs]; decide) hsh (Nat.zero_lt_succ 1)
   simp only [execOp]
   exact (by rw [Sem.run_bind]; erw [h]; rfl)) ?_
  refine p_callv (l := [.pointer (some ⟨b0_, 0, none⟩)]) rfl (bnoEsc _ _) ?_
  refine p_val (c := .pointer (some ⟨b0_, 0, none⟩)) (by
   have h := Lib.run_from_unsafe (P := Tryz.prog) w ⟨b0_, 0, none⟩ bu2 bu1 hj hsh bl1
   simp only [execOp]
   exact (by rw [Sem.run_bind]; erw [h]; rfl)) ?_
  refine p_val (r_nilck rfl) ?_
  refine p_val (r_field bf0 rfl) ?_
  refine p_ofs (a_store (k := 0) (v := .pointer (some ⟨b0_, 0, none⟩)) (l := [.pointer (some ⟨b0_, 0, none⟩)]) btz H rfl rfl rfl (cells_one rfl) rfl (fun u hu => List.all_eq_true.1 (rfl : ([Value.pointer (some ⟨b0_, 0, none⟩)]).all (·.oneCell') = true) u hu) rfl) ?_; clear H; intro w2 H
  refine wpList_nil ?_
  refine e_00 rfl ?_
  exact ⟨S, pv1, pcs1, prs1, .pointer (some ⟨b0_, 0, none⟩), rfl, H, pg1, .inr rfl⟩
 ·refine wp_seq_k ?_; intro K1 hK1
  refine wp_region_lit ?_
  refine p_val (r_move (v := .pointer (some ⟨b0_, 0, none⟩)) rfl) ?_
  refine p_val (r_nilck rfl) ?_
  refine p_val (r_field bf0 rfl) ?_
  refine p_val (h_load1 (v := .pointer (some ⟨b0_, 0, none⟩)) bto H rfl (k := 0) rfl rfl) ?_
  refine p_val (r_eqPS bu1 rfl rfl) ?_
  refine wpList_nil ?_
  refine x_norm ?_; refine hK1 _ _ ?_
  refine c_false rfl rfl ?_
  refine wp_seq_k ?_; intro K2 hK2
  refine wp_region_lit ?_
  refine p_val (r_move (v := .pointer (some ⟨b0_, 0, none⟩)) rfl) ?_
  refine p_val (r_nilck rfl) ?_
  refine p_val (r_field bf0 rfl) ?_
  refine p_val (h_load1 (v := .pointer (some ⟨b0_, 0, none⟩)) bto H rfl (k := 0) rfl rfl) ?_
  refine p_val (r_move (v := .pointer (some ⟨b0_, 0, none⟩)) rfl) ?_
  refine p_val (r_nePP bu1 hj rfl rfl) ?_
  refine wpList_nil ?_
  refine x_norm ?_; refine hK2 _ _ ?_
  refine c_false rfl rfl ?_
  refine wp_skip ?_
  refine e_00 rfl ?_
  exact ⟨S, pv1, pcs1, prs1, .pointer (some ⟨b0_, 0, none⟩), rfl, H, pg1, .inr rfl⟩
theorem bus : Tryz.prog.underlying 100 = some (.slice 5) := by kernel_rfl
theorem bup : Tryz.prog.underlying 151 = some (.pointer 5) := by kernel_rfl
theorem buc : Tryz.prog.cellsOf 5 = 1 := by kernel_rfl
section
variable {P : Program} {w : World} {e : Operand → Value} {dst : Option Tmp} {g : Option (Nat × Bool)} {ty : TypeId} {pos : String} {aft : Array Edge} {x y : Operand} {T T1 : TypeId}
theorem r_usd {r : Value} {v : Value} {w' : World} (hx : e x = v) (h : (Builtin.unsafeSliceData_ #[T] ty #[v]).run P w = .ok r w') : (execOp e ⟨dst, .call ⟨.builtin .unsafeSliceData, #[x], #[T]⟩, ty, pos, aft, g⟩).run P w = .ok (.value r) w' := by
 simp [execOp, resolve, invoke, builtin, hx, h]
theorem r_ust {r : Value} {v u : Value} {w' : World} (hx : e x = v) (hy : e y = u) (h : (Builtin.unsafeString_ #[T, T1] ty #[v, u]).run P w = .ok r w') : (execOp e ⟨dst, .call ⟨.builtin .unsafeString, #[x, y], #[T, T1]⟩, ty, pos, aft, g⟩).run P w = .ok (.value r) w' := by
 simp [execOp, resolve, invoke, builtin, hx, hy, h]
theorem stR_rm : ∀ {L : List Res} {k : Nat} {x : Res}, rmR (stR L k x) k = rmR L k
 | [], _, _ => rfl
 | _ :: _, 0, _ => rfl
 | y :: l, k + 1, x => by simp only [stR, rmR, stR_rm (L := l) (k := k)]
end
theorem Builder_String_c {B : Bas} {S : Mem} {w : World} {L : List Res} {k1 k2 b : Nat} {a v : Value} {cs rs : List Value} {xs : List UInt8} (H : HS B S w L) (h1 : lkR L k1 = some (.blk b ([a] ++ ([v])) 123)) (h2 : lkR L k2 = some (.osl v xs.length 1 cs rs 5)) (h0 : RL S cs xs) (hl : xs.length ≤ 9223372036854775807) :
  Calls Tryz.prog 90 #[.pointer (some ⟨b, 0, none⟩)] w fun e w' => e = .returned (str xs) ∧ HS B S w' (rmR L k2) := by
 have hown := H.own k2 _ h2
 refine enter (n := 14) Tryz.func90 rfl rfl rfl ?_
 rcases hown with ⟨rfl, hn, hcs, hrs⟩ | ⟨gb, c, fz, rfl, hnc, hlen, hcap, hblk, hfz⟩
 ·obtain rfl : xs = [] := List.eq_nil_of_length_eq_zero hn
  refine wp_seq_k ?_; intro K1 hK1
  refine wp_region_lit ?_
  refine p_val (r_assign (v := str ([] : List UInt8)) rfl) ?_
  refine wpList_nil ?_
  refine x_norm ?_; refine hK1 _ _ ?_
  refine wp_seq_k ?_; intro K2 hK2
  apply wp_region_ext 10 (kinds []) rfl rfl (by kernel_rfl); intro vs
  simp only [tkS, tkZ, drS, drZ]
  replace H := H.drew
  refine t_val (fun w hx => r_move (v := .pointer (some ⟨b, 0, none⟩)) rfl) rfl rfl ?_
  refine t_val (fun w hx => r_nilck rfl) rfl rfl ?_
  refine t_val (fun w hx => r_field bf1 rfl) rfl rfl ?_
  refine t_val (fun w hx => h_load1 (v := .slice none 0 0) bto2 (H.ext hx) rfl h1 rfl) rfl rfl ?_
  refine t_val (fun w hx => r_usd (r := .pointer none) rfl (Lib.run_unsafeSliceData_nil _ _ _ _ _)) rfl rfl ?_
  refine t_val (fun w hx => r_move (v := .pointer (some ⟨b, 0, none⟩)) rfl) rfl rfl ?_
  refine t_val (fun w hx => r_nilck rfl) rfl rfl ?_
  refine t_val (fun w hx => r_field bf1 rfl) rfl rfl ?_
  refine t_val (fun w hx => h_load1 (v := .slice none 0 0) bto2 (H.ext hx) rfl h1 rfl) rfl rfl ?_
  refine t_val (fun w hx => r_lenO bus rfl (H.ext hx) h2 rfl) rfl rfl ?_
  refine t_nil (fun w2 hx hF hA => ?_)
  replace H := H.ext hx; clear hx hF hA
  refine p_val (c := str ([] : List UInt8)) (r_ust rfl rfl (Lib.run_unsafeString_none _ _ _ _ _)) ?_
  replace H := H.rm k2
  refine p_val (r_assign (v := str ([] : List UInt8)) rfl) ?_
  refine wpList_nil ?_; refine on_norm ?_
  refine x_norm ?_; refine hK2 _ _ ?_
  refine wp_ret ?_
  refine e_1 rfl (q_tmp (v := str ([] : List UInt8)) rfl) ?_
  exact ⟨rfl, H⟩
 ·by_cases hc : c = 0
  ·subst hc
   obtain rfl : xs = [] := List.eq_nil_of_length_eq_zero (by omega)
   refine wp_seq_k ?_; intro K1 hK1
   refine wp_region_lit ?_
   refine p_val (r_assign (v := str ([] : List UInt8)) rfl) ?_
   refine wpList_nil ?_
   refine x_norm ?_; refine hK1 _ _ ?_
   refine wp_seq_k ?_; intro K2 hK2
   apply wp_region_ext 10 (kinds [(4, .inr (fun v _ => ∃ a, v = .pointer (some a)))]) rfl rfl (by kernel_rfl); intro vs
   simp only [tkS, tkZ, drS, drZ]
   replace H := H.drew
   refine t_val (fun w hx => r_move (v := .pointer (some ⟨b, 0, none⟩)) rfl) rfl rfl ?_
   refine t_val (fun w hx => r_nilck rfl) rfl rfl ?_
   refine t_val (fun w hx => r_field bf1 rfl) rfl rfl ?_
   refine t_val (fun w hx => h_load1 (v := sl gb 0 0 0) bto2 (H.ext hx) rfl h1 rfl) rfl rfl ?_
   refine wpT_low (φ := fun v _ => ∃ a, v = .pointer (some a)) rfl rfl (fun _ _ _ h _ => h) rfl (fun h => by cases h) (fun w hx hF R hR => by
    have hsh : w.shape? (⟨gb, 0, none⟩ : Addr).block = some (5, (cs ++ rs).toArray.size) := by
     have hb2 : w.heap[gb]? = some (.cells (cs ++ rs).toArray 5 fz) := by rw [hx.block gb (lt_of_heap hblk)]; exact hblk
     simp [World.shape?, hb2]
    have hrun := Lib.run_unsafeSliceData_zero (P := Tryz.prog) w #[100] 151 5 bup ⟨gb, 0, none⟩ 0 _ hsh
    rw [eval_fr, r_usd rfl hrun, outcome_value]
    exact hR (.pointer (some ⟨w.heap.size, 0, none⟩)) (w.alloc (.view ⟨gb, 0, none⟩ 5)) (Ext.alloc w _) ⟨_, rfl⟩ (fun h => by cases h)) ?_
   rw [put_fr]
   refine t_val (fun w hx => r_move (v := .pointer (some ⟨b, 0, none⟩)) rfl) rfl rfl ?_
   refine t_val (fun w hx => r_nilck rfl) rfl rfl ?_
   refine t_val (fun w hx => r_field bf1 rfl) rfl rfl ?_
   refine t_val (fun w hx => h_load1 (v := sl gb 0 0 0) bto2 (H.ext hx) rfl h1 rfl) rfl rfl ?_
   refine t_val (fun w hx => r_lenO bus rfl (H.ext hx) h2 rfl) rfl rfl ?_
   refine t_nil (fun w2 hx hF hA => ?_)
   obtain ⟨ad, had⟩ := fact_rel hF 4 rfl rfl
   replace H := H.ext hx; clear hx hF hA
   refine p_val (c := str ([] : List UInt8)) (r_ust (by exact had) rfl (Lib.run_unsafeString_none _ _ _ _ _)) ?_
   replace H := H.rm k2
   refine p_val (r_assign (v := str ([] : List UInt8)) rfl) ?_
   refine wpList_nil ?_; refine on_norm ?_
   refine x_norm ?_; refine hK2 _ _ ?_
   refine wp_ret ?_
   refine e_1 rfl (q_tmp (v := str ([] : List UInt8)) rfl) ?_
   exact ⟨rfl, H⟩
  ·skip
   refine wp_seq_k ?_; intro K1 hK1
   refine wp_region_lit ?_
   refine p_val (r_assign (v := str ([] : List UInt8)) rfl) ?_
   refine wpList_nil ?_
   refine x_norm ?_; refine hK1 _ _ ?_
   refine wp_seq_k ?_; intro K2 hK2
   apply wp_region_ext 10 (kinds []) rfl rfl (by kernel_rfl); intro vs
   simp only [tkS, tkZ, drS, drZ]
   replace H := H.drew
   refine t_val (fun w hx => r_move (v := .pointer (some ⟨b, 0, none⟩)) rfl) rfl rfl ?_
   refine t_val (fun w hx => r_nilck rfl) rfl rfl ?_
   refine t_val (fun w hx => r_field bf1 rfl) rfl rfl ?_
   refine t_val (fun w hx => h_load1 (v := sl gb 0 xs.length c) bto2 (H.ext hx) rfl h1 rfl) rfl rfl ?_
   refine t_val (fun w hx => r_usd (r := .pointer (some ⟨gb, 0, none⟩)) rfl (Lib.run_unsafeSliceData_row _ _ _ _ _ _ hc)) rfl rfl ?_
   refine t_val (fun w hx => r_move (v := .pointer (some ⟨b, 0, none⟩)) rfl) rfl rfl ?_
   refine t_val (fun w hx => r_nilck rfl) rfl rfl ?_
   refine t_val (fun w hx => r_field bf1 rfl) rfl rfl ?_
   refine t_val (fun w hx => h_load1 (v := sl gb 0 xs.length c) bto2 (H.ext hx) rfl h1 rfl) rfl rfl ?_
   refine t_val (fun w hx => r_lenO bus rfl (H.ext hx) h2 rfl) rfl rfl ?_
   refine t_nil (fun w2 hx hF hA => ?_)
   have hb2 : w2.heap[gb]? = some (.cells (cs ++ rs).toArray 5 fz) := by rw [hx.block gb (lt_of_heap hblk)]; exact hblk
   replace H := H.ext hx; clear hx hF hA
   refine p_ofc (c := str xs) (φ := fun w' => HS B S w' (rmR L k2)) ?_ ?_
   ·by_cases hx0 : xs = []
    ·subst hx0
     exact ⟨w2, r_ust rfl rfl (Lib.run_unsafeString_none _ _ _ _ _), H.rm k2⟩
    ·have hsh : w2.shape? gb = some (5, (cs ++ rs).toArray.size) := by simp [World.shape?, hb2]
     have hcs := RL.is_u8s h0
     have hxl : xs.length ≤ (cs ++ rs).length := by rw [List.length_append, hlen]; omega
     have hrun := Lib.run_unsafeString_row (P := Tryz.prog) w2 151 3 9 5 bup buc gb _ hsh xs hx0 (by simpa using hxl) hl (fun j x hj => by
      rw [add_addr, cell_of_F hb2, Nat.zero_add, List.getElem?_append_left (by have := (List.getElem?_eq_some_iff.1 hj).1; omega), hcs]
      exact u8s_get hj)
     refine ⟨_, r_ust rfl rfl hrun, ?_⟩
     have H2 := H.upd (w' := w2.freeze ⟨gb, 0, none⟩ xs.length) (r' := .osl (.slice none 0 0) 0 1 [] [] 5) h2 (by unfold World.freeze; split <;> simp) (by unfold World.freeze; split <;> rfl) (by unfold World.freeze; split <;> rfl) (by unfold World.freeze; split <;> rfl) (fun i hi hne => by
      have hig : gb ≠ i := fun e => hne (by rw [e]; rfl)
      unfold World.freeze; split
      ·rfl
      ·simp [Array.getElem?_modify, hig]) (.inl ⟨rfl, rfl, rfl, rfl⟩) (fun b hb => by cases hb)
     have H3 := H2.rm k2
     rw [stR_rm] at H3
     exact H3
   clear H; intro w3 H
   refine p_val (r_assign (v := str xs) rfl) ?_
   refine wpList_nil ?_; refine on_norm ?_
   refine x_norm ?_; refine hK2 _ _ ?_
   refine wp_ret ?_
   refine e_1 rfl (q_tmp (v := str xs) rfl) ?_
   exact ⟨rfl, H⟩
end
end Go.Proofs.YtmkomlbiaebddaaGreatDoor
namespace Go.Proofs
open Go.Shelf
def Tryz.lays160_ren : Go.Shelf.Ren := ⟨fun | 160 => 109 | 232 => 132 | 231 => 131 | 227 => 133 | 234 => 135 | 233 => 134 | 236 => 137 | 235 => 136 | 228 => 166 | 271 => 169 | 151 => 168 | 197 => 167 | 120 => 191 | 152 => 190 | 260 => 189 | 137 => 200 | 119 => 201 | 224 => 187 | 225 => 186 | 217 => 185 | 266 => 198 | n => n, fun | 9 => 9 | 4 => 4 | 3 => 3 | 5 => 5 | 117 => 169 | 116 => 168 | 0 => 0 | 124 => 172 | 21 => 21 | 105 => 197 | 46 => 139 | 119 => 227 | 139 => 230 | 138 => 229 | n => n, fun | 3 => 4 | 4 => 5 | n => n⟩
theorem Tryz.lays160 : Go.Proofs.Lays.n160 Tryz.prog Tryz.lays160_ren := {
  mixed := by kernel_rfl
  f119 := Tryz.func201.trans (congrArg some (by kernel_rfl))
  f120 := Tryz.func191.trans (congrArg some (by kernel_rfl))
  f137 := Tryz.func200.trans (congrArg some (by kernel_rfl))
  f151 := Tryz.func168.trans (congrArg some (by kernel_rfl))
  f152 := Tryz.func190.trans (congrArg some (by kernel_rfl))
  f160 := Tryz.func109.trans (congrArg some (by kernel_rfl))
  f197 := Tryz.func167.trans (congrArg some (by kernel_rfl))
  f217 := Tryz.func185.trans (congrArg some (by kernel_rfl))
  f224 := Tryz.func187.trans (congrArg some (by kernel_rfl))
  f225 := Tryz.func186.trans (congrArg some (by kernel_rfl))
  f227 := Tryz.func133.trans (congrArg some (by kernel_rfl))
  f228 := Tryz.func166.trans (congrArg some (by kernel_rfl))
  f231 := Tryz.func131.trans (congrArg some (by kernel_rfl))
  f232 := Tryz.func132.trans (congrArg some (by kernel_rfl))
  f233 := Tryz.func134.trans (congrArg some (by kernel_rfl))
  f234 := Tryz.func135.trans (congrArg some (by kernel_rfl))
  f235 := Tryz.func136.trans (congrArg some (by kernel_rfl))
  f236 := Tryz.func137.trans (congrArg some (by kernel_rfl))
  f260 := Tryz.func189.trans (congrArg some (by kernel_rfl))
  f266 := Tryz.func198.trans (congrArg some (by kernel_rfl))
  f271 := Tryz.func169.trans (congrArg some (by kernel_rfl))
  t0 := Tryz.underlying0
  a0 := Tryz.isAgg0
  z0 := Tryz.sizeOf0
  v0 := Tryz.zeroValue0
  t3 := Tryz.underlying3
  a3 := Tryz.isAgg3
  z3 := Tryz.sizeOf3
  v3 := Tryz.zeroValue3
  t4 := Tryz.underlying4
  a4 := Tryz.isAgg4
  z4 := Tryz.sizeOf4
  v4 := Tryz.zeroValue4
  t5 := Tryz.underlying5
  a5 := Tryz.isAgg5
  z5 := Tryz.sizeOf5
  v5 := Tryz.zeroValue5
  t9 := Tryz.underlying9
  a9 := Tryz.isAgg9
  z9 := Tryz.sizeOf9
  v9 := Tryz.zeroValue9
  t21 := Tryz.underlying21
  a21 := Tryz.isAgg21
  z21 := Tryz.sizeOf21
  v21 := Tryz.zeroValue21
  t46 := Tryz.underlying139
  a46 := Tryz.isAgg139
  z46 := Tryz.sizeOf139
  v46 := Tryz.zeroValue139
  t105 := Tryz.underlying197
  a105 := Tryz.isAgg197
  z105 := Tryz.sizeOf197
  v105 := Tryz.zeroValue197
  t116 := Tryz.underlying168
  a116 := Tryz.isAgg168
  z116 := Tryz.sizeOf168
  t117 := Tryz.underlying169
  a117 := Tryz.isAgg169
  z117 := Tryz.sizeOf169
  v117 := Tryz.zeroValue169
  t119 := Tryz.underlying227
  a119 := Tryz.isAgg227
  z119 := Tryz.sizeOf227
  t124 := Tryz.underlying172
  a124 := Tryz.isAgg172
  z124 := Tryz.sizeOf172
  v124 := Tryz.zeroValue172
  t138 := Tryz.underlying229
  a138 := Tryz.isAgg229
  z138 := Tryz.sizeOf229
  v138 := Tryz.zeroValue229
  t139 := Tryz.underlying230
  a139 := Tryz.isAgg230
  z139 := Tryz.sizeOf230
  v139 := Tryz.zeroValue230
  g3 := by kernel_rfl
  g4 := by kernel_rfl }
def Tryz.laysM171_ren : Go.Shelf.Ren := ⟨fun | 171 => 39 | 243 => 88 | 246 => 116 | 283 => 151 | 284 => 152 | 285 => 153 | 286 => 154 | 129 => 150 | 317 => 181 | 318 => 182 | 319 => 183 | 320 => 184 | 337 => 196 | 338 => 197 | n => n, fun | 3 => 3 | 9 => 9 | 2 => 2 | 4 => 4 | 171 => 183 | 0 => 0 | 53 => 102 | 37 => 100 | 5 => 5 | 173 => 185 | 212 => 214 | 51 => 133 | 20 => 20 | 213 => 215 | 46 => 139 | 232 => 236 | 233 => 237 | n => n, fun | 17 => 1 | 18 => 6 | 19 => 7 | n => n⟩
theorem Tryz.laysM171 : Go.Proofs.LaysM.n171 Tryz.prog Tryz.laysM171_ren := {
  mixed := by kernel_rfl
  f129 := Tryz.func150.trans (congrArg some (by kernel_rfl))
  f171 := Tryz.func39.trans (congrArg some (by kernel_rfl))
  f243 := Tryz.func88.trans (congrArg some (by kernel_rfl))
  f246 := Tryz.func116.trans (congrArg some (by kernel_rfl))
  f283 := Tryz.func151.trans (congrArg some (by kernel_rfl))
  f284 := Tryz.func152.trans (congrArg some (by kernel_rfl))
  f285 := Tryz.func153.trans (congrArg some (by kernel_rfl))
  f286 := Tryz.func154.trans (congrArg some (by kernel_rfl))
  f317 := Tryz.func181.trans (congrArg some (by kernel_rfl))
  f318 := Tryz.func182.trans (congrArg some (by kernel_rfl))
  f319 := Tryz.func183.trans (congrArg some (by kernel_rfl))
  f320 := Tryz.func184.trans (congrArg some (by kernel_rfl))
  f337 := Tryz.func196.trans (congrArg some (by kernel_rfl))
  f338 := Tryz.func197.trans (congrArg some (by kernel_rfl))
  t0 := Tryz.underlying0
  a0 := Tryz.isAgg0
  z0 := Tryz.sizeOf0
  v0 := Tryz.zeroValue0
  t2 := Tryz.underlying2
  a2 := Tryz.isAgg2
  z2 := Tryz.sizeOf2
  v2 := Tryz.zeroValue2
  t3 := Tryz.underlying3
  a3 := Tryz.isAgg3
  z3 := Tryz.sizeOf3
  v3 := Tryz.zeroValue3
  t4 := Tryz.underlying4
  a4 := Tryz.isAgg4
  z4 := Tryz.sizeOf4
  v4 := Tryz.zeroValue4
  t5 := Tryz.underlying5
  a5 := Tryz.isAgg5
  z5 := Tryz.sizeOf5
  v5 := Tryz.zeroValue5
  t9 := Tryz.underlying9
  a9 := Tryz.isAgg9
  z9 := Tryz.sizeOf9
  v9 := Tryz.zeroValue9
  t20 := Tryz.underlying20
  a20 := Tryz.isAgg20
  z20 := Tryz.sizeOf20
  v20 := Tryz.zeroValue20
  t37 := Tryz.underlying100
  a37 := Tryz.isAgg100
  z37 := Tryz.sizeOf100
  v37 := Tryz.zeroValue100
  t46 := Tryz.underlying139
  a46 := Tryz.isAgg139
  z46 := Tryz.sizeOf139
  v46 := Tryz.zeroValue139
  t51 := Tryz.underlying133
  a51 := Tryz.isAgg133
  z51 := Tryz.sizeOf133
  v51 := Tryz.zeroValue133
  t53 := Tryz.underlying102
  a53 := Tryz.isAgg102
  z53 := Tryz.sizeOf102
  v53 := Tryz.zeroValue102
  t171 := Tryz.underlying183
  a171 := Tryz.isAgg183
  z171 := Tryz.sizeOf183
  v171 := Tryz.zeroValue183
  t173 := Tryz.underlying185
  a173 := Tryz.isAgg185
  z173 := Tryz.sizeOf185
  v173 := Tryz.zeroValue185
  t212 := Tryz.underlying214
  a212 := Tryz.isAgg214
  z212 := Tryz.sizeOf214
  v212 := Tryz.zeroValue214
  t213 := Tryz.underlying215
  a213 := Tryz.isAgg215
  z213 := Tryz.sizeOf215
  t232 := Tryz.underlying236
  a232 := Tryz.isAgg236
  z232 := Tryz.sizeOf236
  v232 := Tryz.zeroValue236
  t233 := Tryz.underlying237
  a233 := Tryz.isAgg237
  z233 := Tryz.sizeOf237
  v233 := Tryz.zeroValue237
  g17 := by kernel_rfl
  g18 := by kernel_rfl
  g19 := by kernel_rfl
  i0 := by kernel_rfl
  i2 := by kernel_rfl
  i3 := by kernel_rfl
  i4 := by kernel_rfl
  i5 := by kernel_rfl
  i9 := by kernel_rfl
  i20 := by kernel_rfl
  i37 := by kernel_rfl
  i46 := by kernel_rfl
  i51 := by kernel_rfl
  i53 := by kernel_rfl
  i171 := by kernel_rfl
  i173 := by kernel_rfl
  i212 := by kernel_rfl
  i232 := by kernel_rfl
  i233 := by kernel_rfl
  m17 := by kernel_rfl
  m18 := by kernel_rfl
  m19 := by kernel_rfl }
open Go.RowKit Go.Sort Go.Lib in
theorem Tryz.strconv_Itoa (n : Int) (h0 : -9223372036854775808 ≤ n) (h1 : n ≤ 9223372036854775807) (w : World) (htab : Lib.TabIs Tryz.prog w "internal/strconv.uint64pow10" .u64 Lib.pow10Tab) :
  Calls Tryz.prog 39 #[.int .i64 n] w fun e w' => e = .returned (.string ⟨(Lib.itoa n).toArray⟩) ∧ ∃ k os, w' = grow (w.drewN k) os := Any.strconv_Itoa Tryz.laysM171 n h0 h1 w htab
def Tryz.laysC172_ren : Go.Shelf.Ren := ⟨fun | 172 => 110 | 244 => 138 | 245 => 139 | 247 => 170 | 279 => 171 | 280 => 172 | 281 => 173 | 282 => 174 | 287 => 192 | 316 => 193 | 171 => 39 | 205 => 194 | 321 => 202 | 322 => 203 | 243 => 88 | 246 => 116 | 283 => 151 | 284 => 152 | 285 => 153 | 286 => 154 | 129 => 150 | 317 => 181 | 318 => 182 | 319 => 183 | 320 => 184 | 337 => 196 | 338 => 197 | n => n, fun | 9 => 9 | 3 => 3 | 75 => 125 | 76 => 126 | 4 => 4 | 5 => 5 | 167 => 200 | 37 => 100 | 0 => 0 | 85 => 201 | 2 => 2 | 168 => 203 | 53 => 102 | 175 => 218 | 46 => 139 | 210 => 221 | 127 => 151 | 145 => 235 | 143 => 233 | 21 => 21 | 171 => 183 | 173 => 185 | 212 => 214 | 51 => 133 | 20 => 20 | 213 => 215 | 232 => 236 | 233 => 237 | 80 => 119 | n => n, fun | 15 => 2 | 16 => 3 | 17 => 1 | 18 => 6 | 19 => 7 | n => n⟩
theorem Tryz.laysC172 : Go.Proofs.LaysC.n172 Tryz.prog Tryz.laysC172_ren := {
  mixed := by kernel_rfl
  f129 := Tryz.func150.trans (congrArg some (by kernel_rfl))
  f171 := Tryz.func39.trans (congrArg some (by kernel_rfl))
  f172 := Tryz.func110.trans (congrArg some (by kernel_rfl))
  f205 := Tryz.func194.trans (congrArg some (by kernel_rfl))
  f243 := Tryz.func88.trans (congrArg some (by kernel_rfl))
  f244 := Tryz.func138.trans (congrArg some (by kernel_rfl))
  f245 := Tryz.func139.trans (congrArg some (by kernel_rfl))
  f246 := Tryz.func116.trans (congrArg some (by kernel_rfl))
  f247 := Tryz.func170.trans (congrArg some (by kernel_rfl))
  f279 := Tryz.func171.trans (congrArg some (by kernel_rfl))
  f280 := Tryz.func172.trans (congrArg some (by kernel_rfl))
  f281 := Tryz.func173.trans (congrArg some (by kernel_rfl))
  f282 := Tryz.func174.trans (congrArg some (by kernel_rfl))
  f283 := Tryz.func151.trans (congrArg some (by kernel_rfl))
  f284 := Tryz.func152.trans (congrArg some (by kernel_rfl))
  f285 := Tryz.func153.trans (congrArg some (by kernel_rfl))
  f286 := Tryz.func154.trans (congrArg some (by kernel_rfl))
  f287 := Tryz.func192.trans (congrArg some (by kernel_rfl))
  f316 := Tryz.func193.trans (congrArg some (by kernel_rfl))
  f317 := Tryz.func181.trans (congrArg some (by kernel_rfl))
  f318 := Tryz.func182.trans (congrArg some (by kernel_rfl))
  f319 := Tryz.func183.trans (congrArg some (by kernel_rfl))
  f320 := Tryz.func184.trans (congrArg some (by kernel_rfl))
  f321 := Tryz.func202.trans (congrArg some (by kernel_rfl))
  f322 := Tryz.func203.trans (congrArg some (by kernel_rfl))
  f337 := Tryz.func196.trans (congrArg some (by kernel_rfl))
  f338 := Tryz.func197.trans (congrArg some (by kernel_rfl))
  t0 := Tryz.underlying0
  a0 := Tryz.isAgg0
  z0 := Tryz.sizeOf0
  v0 := Tryz.zeroValue0
  t2 := Tryz.underlying2
  a2 := Tryz.isAgg2
  z2 := Tryz.sizeOf2
  v2 := Tryz.zeroValue2
  t3 := Tryz.underlying3
  a3 := Tryz.isAgg3
  z3 := Tryz.sizeOf3
  v3 := Tryz.zeroValue3
  t4 := Tryz.underlying4
  a4 := Tryz.isAgg4
  z4 := Tryz.sizeOf4
  v4 := Tryz.zeroValue4
  t5 := Tryz.underlying5
  a5 := Tryz.isAgg5
  z5 := Tryz.sizeOf5
  v5 := Tryz.zeroValue5
  t9 := Tryz.underlying9
  a9 := Tryz.isAgg9
  z9 := Tryz.sizeOf9
  v9 := Tryz.zeroValue9
  t20 := Tryz.underlying20
  a20 := Tryz.isAgg20
  z20 := Tryz.sizeOf20
  v20 := Tryz.zeroValue20
  t21 := Tryz.underlying21
  a21 := Tryz.isAgg21
  z21 := Tryz.sizeOf21
  v21 := Tryz.zeroValue21
  t37 := Tryz.underlying100
  a37 := Tryz.isAgg100
  z37 := Tryz.sizeOf100
  v37 := Tryz.zeroValue100
  t46 := Tryz.underlying139
  a46 := Tryz.isAgg139
  z46 := Tryz.sizeOf139
  v46 := Tryz.zeroValue139
  t51 := Tryz.underlying133
  a51 := Tryz.isAgg133
  z51 := Tryz.sizeOf133
  v51 := Tryz.zeroValue133
  t53 := Tryz.underlying102
  a53 := Tryz.isAgg102
  z53 := Tryz.sizeOf102
  v53 := Tryz.zeroValue102
  t75 := Tryz.underlying125
  a75 := Tryz.isAgg125
  z75 := Tryz.sizeOf125
  v75 := Tryz.zeroValue125
  t76 := Tryz.underlying126
  a76 := Tryz.isAgg126
  z76 := Tryz.sizeOf126
  v76 := Tryz.zeroValue126
  t85 := Tryz.underlying201
  a85 := Tryz.isAgg201
  z85 := Tryz.sizeOf201
  v85 := Tryz.zeroValue201
  t127 := Tryz.underlying151
  a127 := Tryz.isAgg151
  z127 := Tryz.sizeOf151
  v127 := Tryz.zeroValue151
  t143 := Tryz.underlying233
  a143 := Tryz.isAgg233
  z143 := Tryz.sizeOf233
  v143 := Tryz.zeroValue233
  t145 := Tryz.underlying235
  a145 := Tryz.isAgg235
  z145 := Tryz.sizeOf235
  v145 := Tryz.zeroValue235
  t167 := Tryz.underlying200
  a167 := Tryz.isAgg200
  z167 := Tryz.sizeOf200
  v167 := Tryz.zeroValue200
  t168 := Tryz.underlying203
  a168 := Tryz.isAgg203
  z168 := Tryz.sizeOf203
  v168 := Tryz.zeroValue203
  t171 := Tryz.underlying183
  a171 := Tryz.isAgg183
  z171 := Tryz.sizeOf183
  v171 := Tryz.zeroValue183
  t173 := Tryz.underlying185
  a173 := Tryz.isAgg185
  z173 := Tryz.sizeOf185
  v173 := Tryz.zeroValue185
  t175 := Tryz.underlying218
  a175 := Tryz.isAgg218
  z175 := Tryz.sizeOf218
  v175 := Tryz.zeroValue218
  t210 := Tryz.underlying221
  a210 := Tryz.isAgg221
  z210 := Tryz.sizeOf221
  v210 := Tryz.zeroValue221
  t212 := Tryz.underlying214
  a212 := Tryz.isAgg214
  z212 := Tryz.sizeOf214
  v212 := Tryz.zeroValue214
  t213 := Tryz.underlying215
  a213 := Tryz.isAgg215
  z213 := Tryz.sizeOf215
  t232 := Tryz.underlying236
  a232 := Tryz.isAgg236
  z232 := Tryz.sizeOf236
  v232 := Tryz.zeroValue236
  t233 := Tryz.underlying237
  a233 := Tryz.isAgg237
  z233 := Tryz.sizeOf237
  v233 := Tryz.zeroValue237
  g15 := by kernel_rfl
  g16 := by kernel_rfl
  g17 := by kernel_rfl
  g18 := by kernel_rfl
  g19 := by kernel_rfl
  t80 := Tryz.underlying119
  a80 := Tryz.isAgg119
  z80 := Tryz.sizeOf119
  v80 := Tryz.zeroValue119
  i0 := by kernel_rfl
  i2 := by kernel_rfl
  i3 := by kernel_rfl
  i4 := by kernel_rfl
  i5 := by kernel_rfl
  i9 := by kernel_rfl
  i20 := by kernel_rfl
  i21 := by kernel_rfl
  i37 := by kernel_rfl
  i46 := by kernel_rfl
  i51 := by kernel_rfl
  i53 := by kernel_rfl
  i75 := by kernel_rfl
  i76 := by kernel_rfl
  i80 := by kernel_rfl
  i85 := by kernel_rfl
  i127 := by kernel_rfl
  i143 := by kernel_rfl
  i145 := by kernel_rfl
  i167 := by kernel_rfl
  i168 := by kernel_rfl
  i171 := by kernel_rfl
  i173 := by kernel_rfl
  i175 := by kernel_rfl
  i210 := by kernel_rfl
  i212 := by kernel_rfl
  i232 := by kernel_rfl
  i233 := by kernel_rfl
  m15 := by kernel_rfl
  m16 := by kernel_rfl
  m17 := by kernel_rfl
  m18 := by kernel_rfl
  m19 := by kernel_rfl
  c0 := by kernel_rfl
  c2 := by kernel_rfl
  c3 := by kernel_rfl
  c4 := by kernel_rfl
  c5 := by kernel_rfl
  c9 := by kernel_rfl
  c20 := by kernel_rfl
  c21 := by kernel_rfl
  c37 := by kernel_rfl
  c46 := by kernel_rfl
  c51 := by kernel_rfl
  c53 := by kernel_rfl
  c75 := by kernel_rfl
  c76 := by kernel_rfl
  c80 := by kernel_rfl
  c85 := by kernel_rfl
  c127 := by kernel_rfl
  c143 := by kernel_rfl
  c145 := by kernel_rfl
  c167 := by kernel_rfl
  c168 := by kernel_rfl
  c171 := by kernel_rfl
  c173 := by kernel_rfl
  c175 := by kernel_rfl
  c210 := by kernel_rfl
  c212 := by kernel_rfl
  c213 := by kernel_rfl
  c232 := by kernel_rfl
  c233 := by kernel_rfl }
open Go.RowKit in
theorem Tryz.strconv_Atoi_ok (s : ByteArray) (hmax : s.size ≤ 9223372036854775806) (v : Int) (h : Lib.atoiAll s.data.toList = .ok v) (w : World) :
  Calls Tryz.prog 110 #[.string s] w fun e w' => e = .returned (.tuple #[.int .i64 v, .nilIface]) ∧ (w' = w ∨ ∃ t, w' = Lib.bytesWorld w 5 t) := Any.strconv_Atoi_ok Tryz.laysC172 s hmax v h w
def Tryz.lays145_ren : Go.Shelf.Ren := ⟨fun | 145 => 106 | 220 => 130 | 219 => 165 | 217 => 185 | 225 => 186 | 224 => 187 | 267 => 188 | 266 => 198 | 314 => 199 | n => n, fun | 9 => 9 | 4 => 4 | 59 => 143 | 3 => 3 | 5 => 5 | 46 => 139 | 146 => 192 | 51 => 133 | n => n, fun | 1 => 0 | n => n⟩
theorem Tryz.lays145 : Go.Proofs.Lays.n145 Tryz.prog Tryz.lays145_ren := {
  mixed := by kernel_rfl
  f145 := Tryz.func106.trans (congrArg some (by kernel_rfl))
  f217 := Tryz.func185.trans (congrArg some (by kernel_rfl))
  f219 := Tryz.func165.trans (congrArg some (by kernel_rfl))
  f220 := Tryz.func130.trans (congrArg some (by kernel_rfl))
  f224 := Tryz.func187.trans (congrArg some (by kernel_rfl))
  f225 := Tryz.func186.trans (congrArg some (by kernel_rfl))
  f266 := Tryz.func198.trans (congrArg some (by kernel_rfl))
  f267 := Tryz.func188.trans (congrArg some (by kernel_rfl))
  f314 := Tryz.func199.trans (congrArg some (by kernel_rfl))
  t3 := Tryz.underlying3
  a3 := Tryz.isAgg3
  z3 := Tryz.sizeOf3
  v3 := Tryz.zeroValue3
  t4 := Tryz.underlying4
  a4 := Tryz.isAgg4
  z4 := Tryz.sizeOf4
  v4 := Tryz.zeroValue4
  t5 := Tryz.underlying5
  a5 := Tryz.isAgg5
  z5 := Tryz.sizeOf5
  v5 := Tryz.zeroValue5
  t9 := Tryz.underlying9
  a9 := Tryz.isAgg9
  z9 := Tryz.sizeOf9
  v9 := Tryz.zeroValue9
  t46 := Tryz.underlying139
  a46 := Tryz.isAgg139
  z46 := Tryz.sizeOf139
  v46 := Tryz.zeroValue139
  t51 := Tryz.underlying133
  a51 := Tryz.isAgg133
  z51 := Tryz.sizeOf133
  v51 := Tryz.zeroValue133
  t59 := Tryz.underlying143
  a59 := Tryz.isAgg143
  z59 := Tryz.sizeOf143
  v59 := Tryz.zeroValue143
  t146 := Tryz.underlying192
  a146 := Tryz.isAgg192
  z146 := Tryz.sizeOf192
  v146 := Tryz.zeroValue192
  g1 := by kernel_rfl }
open Go.RowKit Go.Lib in
theorem Tryz.strings_Cut (s sep : ByteArray) (m : Int) (w : World) (hs : s.size < 4294967281) (hm : w.cell? ⟨0, 0, none⟩ = some (.int .i64 m)) :
  Calls Tryz.prog 106 #[.string s, .string sep] w fun e w' => e = .returned (.tuple #[.string ⟨(Lib.cut s.data.toList sep.data.toList).1.toArray⟩, .string ⟨(Lib.cut s.data.toList sep.data.toList).2.1.toArray⟩, .bool (Lib.cut s.data.toList sep.data.toList).2.2]) ∧ ∃ n, w' = w.drewN n := Any.strings_Cut Tryz.lays145 s sep m w hs hm
def Tryz.laysM219_ren : Go.Shelf.Ren := ⟨fun | 219 => 165 | 217 => 185 | 225 => 186 | 224 => 187 | 267 => 188 | 266 => 198 | 314 => 199 | n => n, fun | 9 => 9 | 3 => 3 | 4 => 4 | 5 => 5 | 46 => 139 | 146 => 192 | 51 => 133 | n => n, fun | 1 => 0 | n => n⟩
theorem Tryz.laysM219 : Go.Proofs.LaysM.n219 Tryz.prog Tryz.laysM219_ren := {
  mixed := by kernel_rfl
  f217 := Tryz.func185.trans (congrArg some (by kernel_rfl))
  f219 := Tryz.func165.trans (congrArg some (by kernel_rfl))
  f224 := Tryz.func187.trans (congrArg some (by kernel_rfl))
  f225 := Tryz.func186.trans (congrArg some (by kernel_rfl))
  f266 := Tryz.func198.trans (congrArg some (by kernel_rfl))
  f267 := Tryz.func188.trans (congrArg some (by kernel_rfl))
  f314 := Tryz.func199.trans (congrArg some (by kernel_rfl))
  t3 := Tryz.underlying3
  a3 := Tryz.isAgg3
  z3 := Tryz.sizeOf3
  v3 := Tryz.zeroValue3
  t4 := Tryz.underlying4
  a4 := Tryz.isAgg4
  z4 := Tryz.sizeOf4
  v4 := Tryz.zeroValue4
  t5 := Tryz.underlying5
  a5 := Tryz.isAgg5
  z5 := Tryz.sizeOf5
  v5 := Tryz.zeroValue5
  t9 := Tryz.underlying9
  a9 := Tryz.isAgg9
  z9 := Tryz.sizeOf9
  v9 := Tryz.zeroValue9
  t46 := Tryz.underlying139
  a46 := Tryz.isAgg139
  z46 := Tryz.sizeOf139
  v46 := Tryz.zeroValue139
  t51 := Tryz.underlying133
  a51 := Tryz.isAgg133
  z51 := Tryz.sizeOf133
  v51 := Tryz.zeroValue133
  t146 := Tryz.underlying192
  a146 := Tryz.isAgg192
  z146 := Tryz.sizeOf192
  v146 := Tryz.zeroValue192
  g1 := by kernel_rfl
  i3 := by kernel_rfl
  i4 := by kernel_rfl
  i5 := by kernel_rfl
  i9 := by kernel_rfl
  i46 := by kernel_rfl
  i51 := by kernel_rfl
  i146 := by kernel_rfl
  m1 := by kernel_rfl
  s1_3 := fun w h => Go.Proofs.cell_of_shapedOpen_int (zero := #[.int .i64 0]) (t := 3) h (of_decide_eq_true (by kernel_rfl)) (by kernel_rfl) rfl (by kernel_rfl) (by kernel_rfl) Tryz.underlying3 }
def Tryz.laysSlM6_f86_ren : Go.Shelf.Ren := ⟨fun | 6 => 86 | 8 => 115 | 9 => 114 | 19 => 149 | 20 => 150 | 21 => 140 | 22 => 141 | 23 => 142 | 24 => 143 | 25 => 144 | 26 => 145 | 27 => 146 | 28 => 147 | 29 => 148 | 36 => 175 | 31 => 176 | 32 => 177 | 37 => 178 | 38 => 179 | 39 => 180 | 41 => 195 | n => n, fun | 27 => 41 | 29 => 9 | 3 => 3 | 32 => 139 | 26 => 41 | 0 => 0 | 44 => 133 | 46 => 102 | 4 => 4 | 36 => 176 | 35 => 175 | 41 => 98 | 5 => 5 | 9 => 9 | 53 => 206 | 57 => 210 | 63 => 223 | 64 => 224 | n => n, fun | n => n⟩
theorem Tryz.laysSlM6_f86 : Go.Proofs.SlLaysM.n6 Tryz.prog Tryz.laysSlM6_f86_ren := {
  mixed := by kernel_rfl
  f6 := ⟨Tryz.f86.name, by decide, Tryz.func86.trans (congrArg some (by kernel_rfl))⟩
  f8 := Tryz.func115.trans (congrArg some (by kernel_rfl))
  f9 := ⟨Tryz.f114.name, by decide, Tryz.func114.trans (congrArg some (by kernel_rfl))⟩
  f19 := Tryz.func149.trans (congrArg some (by kernel_rfl))
  f20 := Tryz.func150.trans (congrArg some (by kernel_rfl))
  f21 := ⟨Tryz.f140.name, by decide, Tryz.func140.trans (congrArg some (by kernel_rfl))⟩
  f22 := ⟨Tryz.f141.name, by decide, Tryz.func141.trans (congrArg some (by kernel_rfl))⟩
  f23 := ⟨Tryz.f142.name, by decide, Tryz.func142.trans (congrArg some (by kernel_rfl))⟩
  f24 := ⟨Tryz.f143.name, by decide, Tryz.func143.trans (congrArg some (by kernel_rfl))⟩
  f25 := ⟨Tryz.f144.name, by decide, Tryz.func144.trans (congrArg some (by kernel_rfl))⟩
  f26 := ⟨Tryz.f145.name, by decide, Tryz.func145.trans (congrArg some (by kernel_rfl))⟩
  f27 := ⟨Tryz.f146.name, by decide, Tryz.func146.trans (congrArg some (by kernel_rfl))⟩
  f28 := ⟨Tryz.f147.name, by decide, Tryz.func147.trans (congrArg some (by kernel_rfl))⟩
  f29 := ⟨Tryz.f148.name, by decide, Tryz.func148.trans (congrArg some (by kernel_rfl))⟩
  f31 := Tryz.func176.trans (congrArg some (by kernel_rfl))
  f32 := Tryz.func177.trans (congrArg some (by kernel_rfl))
  f36 := ⟨Tryz.f175.name, by decide, Tryz.func175.trans (congrArg some (by kernel_rfl))⟩
  f37 := ⟨Tryz.f178.name, by decide, Tryz.func178.trans (congrArg some (by kernel_rfl))⟩
  f38 := ⟨Tryz.f179.name, by decide, Tryz.func179.trans (congrArg some (by kernel_rfl))⟩
  f39 := ⟨Tryz.f180.name, by decide, Tryz.func180.trans (congrArg some (by kernel_rfl))⟩
  f41 := ⟨Tryz.f195.name, by decide, Tryz.func195.trans (congrArg some (by kernel_rfl))⟩
  t0 := Tryz.underlying0
  a0 := Tryz.isAgg0
  z0 := Tryz.sizeOf0
  v0 := Tryz.zeroValue0
  t3 := Tryz.underlying3
  a3 := Tryz.isAgg3
  z3 := Tryz.sizeOf3
  v3 := Tryz.zeroValue3
  t4 := Tryz.underlying4
  a4 := Tryz.isAgg4
  z4 := Tryz.sizeOf4
  v4 := Tryz.zeroValue4
  t5 := Tryz.underlying5
  a5 := Tryz.isAgg5
  z5 := Tryz.sizeOf5
  v5 := Tryz.zeroValue5
  t9 := Tryz.underlying9
  a9 := Tryz.isAgg9
  z9 := Tryz.sizeOf9
  v9 := Tryz.zeroValue9
  t26 := Tryz.underlying41
  a26 := Tryz.isAgg41
  z26 := Tryz.sizeOf41
  v26 := Tryz.zeroValue41
  t27 := Tryz.underlying41
  a27 := Tryz.isAgg41
  z27 := Tryz.sizeOf41
  v27 := Tryz.zeroValue41
  t29 := Tryz.underlying9
  a29 := Tryz.isAgg9
  z29 := Tryz.sizeOf9
  v29 := Tryz.zeroValue9
  t32 := Tryz.underlying139
  a32 := Tryz.isAgg139
  z32 := Tryz.sizeOf139
  v32 := Tryz.zeroValue139
  t35 := Tryz.underlying175
  a35 := Tryz.isAgg175
  z35 := Tryz.sizeOf175
  v35 := Tryz.zeroValue175
  t36 := Tryz.underlying176
  a36 := Tryz.isAgg176
  z36 := Tryz.sizeOf176
  v36 := Tryz.zeroValue176
  t41 := Tryz.underlying98
  a41 := Tryz.isAgg98
  z41 := Tryz.sizeOf98
  v41 := Tryz.zeroValue98
  t44 := Tryz.underlying133
  a44 := Tryz.isAgg133
  z44 := Tryz.sizeOf133
  v44 := Tryz.zeroValue133
  t46 := Tryz.underlying102
  a46 := Tryz.isAgg102
  z46 := Tryz.sizeOf102
  v46 := Tryz.zeroValue102
  t53 := Tryz.underlying206
  a53 := Tryz.isAgg206
  z53 := Tryz.sizeOf206
  v53 := Tryz.zeroValue206
  t57 := Tryz.underlying210
  a57 := Tryz.isAgg210
  z57 := Tryz.sizeOf210
  v57 := Tryz.zeroValue210
  t63 := Tryz.underlying223
  a63 := Tryz.isAgg223
  z63 := Tryz.sizeOf223
  v63 := Tryz.zeroValue223
  t64 := Tryz.underlying224
  a64 := Tryz.isAgg224
  z64 := Tryz.sizeOf224
  v64 := Tryz.zeroValue224 }
open Go.Sort Go.RowKit in
theorem Tryz.slices_Sort_string (blk off cap : Nat) (ss : List (List UInt8)) (w : World) (hH : Holds encStr w blk off ss.toArray) (hblk : blk < w.heap.size) (hsz : ss.length < 4611686018427387904) :
  Calls Tryz.prog 86 #[.slice (some ⟨blk, off, none⟩) ss.length cap] w fun e w' =>
   e = .returned (.tuple #[]) ∧ ∃ n os, w' = grow (putRow encStr (Sort.ahead w n) blk off (ss.mergeSort fun x y => decide (x ≤ y)).toArray) os := AnyM.slices_Sort_string Tryz.laysSlM6_f86 blk off cap ss w hH hblk hsz
open Go.RowKit Go.Sort in
theorem Tryz.slices_Sort_string_none (p : Option Addr) (cap : Nat) (w : World) :
  Calls Tryz.prog 86 #[.slice p 0 cap] w fun e w' => e = .returned (.tuple #[]) ∧ w' = w := AnyM.slices_Sort_string_none Tryz.laysSlM6_f86 p cap w
end Go.Proofs
namespace Go.Proofs.YtmkomlbiaebddaaGreatDoor
open Go Go.RowKit
section
variable {P : Program} {ops : Array Oper} {n : Nat} {Φ : Kinds} {w0 : World}
theorem region_mainJ {Q : Exit → Act → World → Prop} {a0 : Act} (S : ExtS ops n) (hall : ∀ vs, ∃ C T, TRun P ops n Φ w0 a0 vs C T)
  (hend : ∀ listed a w vs C T, Mid P ops n Φ w0 a0 listed a w vs C T → (∀ k, k < n → listed.getD k false = false → floats ops n k = true) → wpAny P .any ops (OnlyNormal Q) (unlisted n listed + (ops.size - n)) listed a w) :
  ∀ (m : Nat) (listed : Array Bool) (a : Act) (w : World) (vs : Nat → Gv) (C : Nat → Value) (T : Nat → Act), unlisted n listed = m → Mid P ops n Φ w0 a0 listed a w vs C T →
   wpAny P .any ops (OnlyNormal Q) (m + (ops.size - n)) listed a w
 | 0, listed, a, w, vs, C, T, hm, M => by
  have := hend _ _ _ _ _ _ M fun k hk hkl => by rw [all_listed hm k hk] at hkl; cases hkl
  rwa [hm] at this
 | m + 1, listed, a, w, vs, C, T, hm, M => by
  have hsz : ∀ i, i < n → i < listed.size := fun i hi => by rw [M.size]; exact Nat.lt_of_lt_of_le hi S.le
  have hex : ∃ i, i < n ∧ listed.getD i false = false := by
   have : ¬ unlisted n listed = 0 := by omega
   unfold unlisted at this
   rw [List.countP_eq_zero] at this
   have h2 : ∃ i, ¬ (i ∈ List.range n → ¬ ((!listed.getD i false) = true)) := Classical.not_forall.1 this
   obtain ⟨i, h⟩ := h2
   by_cases hi : i < n
   ·refine ⟨i, hi, ?_⟩
    cases hp : listed.getD i false with
    | false => rfl
    | true => exact absurd (fun _ => by rw [hp]; simp) h
   ·exact absurd (fun hmem => absurd (List.mem_range.1 hmem) hi) h
  obtain ⟨i, hi, hu, hleast⟩ := least_unlisted n hex
  have hirdy : ∀ oi, ops[i]? = some oi → i ∈ Region.ready .any ops listed := fun oi hoi =>
   mem_ready.2 ⟨by rw [getD_true_of (hsz i hi)]; exact hu, oi, hoi, fun e he hb => hleast _ (S.deps i oi hi hoi _ (mem_depsOf.2 ⟨e, he, hb, rfl⟩))⟩
  obtain ⟨oi, hoi, _, _⟩ := M.run.step i hi
  have hri := hirdy oi hoi
  rw [show m + 1 + (ops.size - n) = (m + (ops.size - n)) + 1 by omega]
  -- is there one that does not float, and is not listed?
  by_cases hnf : ∃ k, k < n ∧ listed.getD k false = false ∧ floats ops n k = false
  ·refine ⟨fun h0 => (by rw [h0] at hri; cases hri), fun j hj => ?_⟩
   have hjn : j < n := by
    rcases Nat.lt_or_ge j n with h | h
    ·exact h
    ·exfalso
     obtain ⟨_, oj, hoj, hdone⟩ := mem_ready.1 hj
     obtain ⟨k, hk, hku, hkf⟩ := hnf
     rcases Nat.eq_or_lt_of_le h with h | h
     ·subst h
      unfold floats at hkf
      simp only [hoj, Bool.not_eq_false', List.contains_eq_mem, decide_eq_true_eq] at hkf
      have hall : ∀ q ∈ anc ops n (depsOf oj), listed.getD q false = true :=
       anc_all (p := fun q => listed.getD q false = true) (N := n) (fun q oq hqj hq hoq r hr => M.closed q oq hqj hq hoq r hr) n _ (Nat.le_refl _) (fun q hq => by
        obtain ⟨e, he, hb, hon⟩ := mem_depsOf.1 hq
        rw [← hon]; exact hdone e he hb)
      have := hall k hkf
      rw [hku] at this; cases this
     ·have hj1 := S.chain j oj h hoj
      obtain ⟨e, he, hb, hon⟩ := mem_depsOf.1 hj1
      have := hdone e he hb
      rw [hon, M.tail (j - 1) (by omega) (by have := (Array.getElem?_eq_some_iff.1 hoj).1; omega)] at this; cases this
   refine M.comes S hall hjn hj fun a' w' vs' C' T' M' => ?_
   have hju : listed.getD j false = false := by rw [← getD_true_of (hsz j hjn)]; exact (mem_ready.1 hj).1
   have := unlisted_set hjn (hsz j hjn) hju
   exact region_mainJ S hall hend m _ _ _ _ _ _ (by omega) M'
  ·have := hend _ _ _ _ _ _ M fun k hk hkl => by
    cases h : floats ops n k with
    | true => rfl
    | false => exact absurd ⟨k, hk, hkl, h⟩ hnf
   rw [hm] at this
   rwa [show m + 1 + (ops.size - n) = (m + (ops.size - n)) + 1 by omega] at this
def wpJ (P : Program) (ops : Array Oper) (Q : Exit → Act → World → Prop) (J : World → Prop) : Nat → List Oper → Act → World → Prop
 | 0, l, a, w => wpList P ops Q l a w
 | _ + 1, [], a, w => Q .normal a w
 | p + 1, o :: rest, a, w => Region.wanted o (yielded ops a.tmps) = true ∧ outcome P (fun v w' => J w' ∧ wpJ P ops Q J p rest (a.put o.dst v) w') ((execOp a.eval o).run P w)
def allDone (ops : Array Oper) (n t : Nat) : Bool := match ops[t]? with
 | some o => (List.range n).all fun i => (anc ops t (depsOf o)).contains i
 | none => true
structure LeftJ (P : Program) (ops : Array Oper) (n : Nat) (J : World → Prop) (t : Nat) (listed : Array Bool) (a b : Act) (C : Nat → Value) : Prop where
 size : listed.size = ops.size
 fl : ∀ i, i < n → listed.getD i false = false → floats ops n i = true
 tu : ∀ j, t ≤ j → j < ops.size → listed.getD j false = false
 nt : n ≤ t ∧ t ≤ ops.size
 seq : Region.seqB .any ops (ops.size - t) t ((Array.range ops.size).map fun j => decide (j < t)) = true
 tl : ∀ j, n ≤ j → j < t → listed.getD j false = true
 ye : ∀ i oi, i < n → listed.getD i false = false → ops[i]? = some oi → (Region.wanted oi (yielded ops b.tmps) = true ∧ ∀ w, J w → (execOp b.eval oi).run P w = .ok (.value (C i)) w) ∨ (Region.wanted oi (yielded ops b.tmps) = false ∧ C i = undef)
 defers : a.defers = b.defers
 other : ∀ s, (∀ i oi, i < n → listed.getD i false = false → ops[i]? = some oi → oi.dst ≠ some s) → a.tmps[s]? = b.tmps[s]?
 at_ : ∀ i oi s, i < n → listed.getD i false = false → ops[i]? = some oi → oi.dst = some s → b.tmps[s]? = (a.tmps[s]?).map fun _ => C i
 cl : ∀ i oi, listed.getD i false = true → ops[i]? = some oi → ∀ j ∈ depsOf oi, listed.getD j false = true
theorem left_mainJ {Q : Exit → Act → World → Prop} {J : World → Prop} {C : Nat → Value} {l : List Oper} (hl : ∀ j : Nat, l[j]? = ops[j]?) (hll : l.length = ops.size) (S : ExtS ops n) (hops : ∀ i, i < n → ∃ o, ops[i]? = some o) :
  ∀ (m p t : Nat) (listed : Array Bool) (a b : Act) (w : World), m = unlisted n listed + (ops.size - t) → LeftJ P ops n J t listed a b C → (unlisted n listed = 0 ∨ J w) → allDone ops n (t + p) = true → wpJ P ops (OnlyNormal Q) J p (l.drop t) b w → wpAny P .any ops (OnlyNormal Q) m listed a w := by
 intro m
 induction m with
 | zero =>
  intro p t listed a b w hm H hx hdn hw
  have h0 : unlisted n listed = 0 := by omega
  have ht : t = ops.size := by have := H.nt; omega
  subst ht
  have hall := all_listed h0
  have hab : a = b := by
   have h1 : a.tmps = b.tmps := Array.ext_getElem? fun s => H.other s fun i oi hi hu => by rw [hall i hi] at hu; cases hu
   cases a; cases b
   have h2 := H.defers
   simp only at h1 h2
   rw [h1, h2]
  rw [hab]
  rw [List.drop_eq_nil_of_le (by omega)] at hw
  have hw : OnlyNormal Q .normal b w := by cases p <;> exact hw
  refine ⟨?_, hw⟩
  rw [List.eq_nil_iff_forall_not_mem]
  intro j hj
  obtain ⟨hu, oj, hoj, _⟩ := mem_ready.1 hj
  have hjs := (Array.getElem?_eq_some_iff.1 hoj).1
  rw [getD_true_of (by rw [H.size]; exact hjs)] at hu
  by_cases hjn : j < n
  ·rw [hall j hjn] at hu; cases hu
  ·rw [H.tl j (by omega) hjs] at hu; cases hu
 | succ m ih =>
  intro p t listed a b w hm H hx hdn hw
  have hsz : ∀ i, i < ops.size → i < listed.size := fun i hi => by rw [H.size]; exact hi
  by_cases hz : unlisted n listed = 0 ∧ p = 0
  ·obtain ⟨h0, rfl⟩ := hz
   have hall := all_listed h0
   have hab : a = b := by
    have h1 : a.tmps = b.tmps := Array.ext_getElem? fun s => H.other s fun i oi hi hu => by rw [hall i hi] at hu; cases hu
    cases a; cases b
    have h2 := H.defers
    simp only at h1 h2
    rw [h1, h2]
   have hlist : listed = (Array.range ops.size).map fun j => decide (j < t) := by
    apply Array.ext (by simp [H.size])
    intro i h1 h2
    have hi : i < ops.size := by rw [← H.size]; exact h1
    have e1 : listed.getD i false = listed[i] := by simp [h1]
    simp only [Array.getElem_map, Array.getElem_range]
    rw [← e1]
    by_cases hin : i < n
    ·rw [hall i hin]; have := H.nt.1; simp; omega
    ·by_cases hit : i < t
     ·rw [H.tl i (by omega) hit]; simp [hit]
     ·rw [H.tu i (by omega) hi]; simp [hit]
   have hseq := H.seq
   rw [← hlist] at hseq
   have hdl : (l.drop t).length = ops.size - t := by simp [hll]
   have hm2 : m + 1 = (l.drop t).length := by rw [hdl, hm, h0]; omega
   rw [hab, hm2]
   rw [← hdl] at hseq
   exact wpAny_of_seq (l.drop t) t listed b w (fun j => by rw [List.getElem?_drop, hl]) hseq hw
  have hns : ∀ i, i < n → i < ops.size := fun i hi => Nat.lt_of_lt_of_le hi S.le
  -- what a float's neighbours look at
  have agree : ∀ i oi, i < n → ops[i]? = some oi → (∀ j ∈ depsOf oi, listed.getD j false = true) → ∀ s ∈ oi.looksAt ops, a.tmps[s]? = b.tmps[s]? := fun i oi hi hoi hd s hs =>
   H.other s fun j oj hj hju hoj hjd => by
    have := hd j (S.look i j oi oj s hi hj hoi hoj hjd hs)
    rw [hju] at this; cases this
  have apartT : ∀ i oi j oj, i < n → listed.getD i false = false → ops[i]? = some oi → n ≤ j → ops[j]? = some oj → (∀ e ∈ oj.after, Region.binds .any e = true → listed.getD e.on false = true) → oi.apart ops oj = true := fun i oi j oj hi hiu hoi hj hoj hd =>
   Region.free_spec hoi (S.free i hi (H.fl i hi hiu)) j oj hoj (by omega) (by
    have hjs : j < ops.size := (Array.getElem?_eq_some_iff.1 hoj).1
    have : ¬ j < n := by omega
    simp [hjs, this]) (fun e he hb heq => by
    have := hd e he hb
    rw [heq, hiu] at this; cases this)
  have hne : Region.ready .any ops listed ≠ [] := by
   intro h0
   by_cases hex : ∃ i, i < n ∧ listed.getD i false = false
   ·obtain ⟨i, hi, hu, hleast⟩ := least_unlisted n hex
    obtain ⟨oi, hoi⟩ := hops i hi
    have : i ∈ Region.ready .any ops listed := mem_ready.2 ⟨by rw [getD_true_of (hsz i (hns i hi))]; exact hu, oi, hoi, fun e he hb => hleast _ (S.deps i oi hi hoi _ (mem_depsOf.2 ⟨e, he, hb, rfl⟩))⟩
    rw [h0] at this; cases this
   ·have hall : ∀ i, i < n → listed.getD i false = true := fun i hi => by
     cases h : listed.getD i false with
     | true => rfl
     | false => exact absurd ⟨i, hi, h⟩ hex
    have hz : unlisted n listed = 0 := by
     unfold unlisted
     rw [List.countP_eq_zero]
     intro i hi
     simp [hall i (List.mem_range.1 hi)]
    have hlist : listed = (Array.range ops.size).map fun j => decide (j < t) := by
     apply Array.ext (by simp [H.size])
     intro i h1 h2
     have hi : i < ops.size := by rw [← H.size]; exact h1
     have e1 : listed.getD i false = listed[i] := by simp [h1]
     simp only [Array.getElem_map, Array.getElem_range]
     rw [← e1]
     by_cases hin : i < n
     ·rw [hall i hin]; have := H.nt.1; simp; omega
     ·by_cases hit : i < t
      ·rw [H.tl i (by omega) hit]; simp [hit]
      ·rw [H.tu i (by omega) hi]; simp [hit]
    have hseq := H.seq
    rw [← hlist, show ops.size - t = (ops.size - t - 1) + 1 by omega] at hseq
    unfold Region.seqB at hseq
    rw [h0] at hseq
    simp at hseq
  refine ⟨fun h0 => absurd h0 hne, fun j hj => ?_⟩
  obtain ⟨hu, oj, hoj, hdone⟩ := mem_ready.1 hj
  have hjs := (Array.getElem?_eq_some_iff.1 hoj).1
  have hju : listed.getD j false = false := by rw [← getD_true_of (hsz j hjs)]; exact hu
  have hset : ∀ k, (listed.setIfInBounds j true).getD k false = true ↔ listed.getD k false = true ∨ k = j := fun k => by
   by_cases hkj : k = j
   ·subst hkj; simp [hsz k hjs]
   ·rw [getD_set_ne false (Ne.symm hkj)]; simp [hkj]
  have hsetf : ∀ k, (listed.setIfInBounds j true).getD k false = false → listed.getD k false = false ∧ k ≠ j := fun k hk => by
   have := mt (hset k).2 (by rw [hk]; simp)
   simp only [not_or] at this
   exact ⟨by simpa using this.1, this.2⟩
  have hdepj : ∀ k ∈ depsOf oj, listed.getD k false = true := fun k hk => by
   obtain ⟨e, he, hb, hon⟩ := mem_depsOf.1 hk
   rw [← hon]; exact hdone e he hb
  unfold wpOp
  simp only [hoj]
  by_cases hjn : j < n
  ·-- a float
   have hlook := agree j oj hjn hoj hdepj
   obtain ⟨he, hwt⟩ := same_exec (fun cs b => Region.noSelect_spec S.sel j oj cs b hoj) hlook
   have hcount := unlisted_set hjn (hsz j hjs) hju
   have next : wpAny P .any ops (OnlyNormal Q) m (listed.setIfInBounds j true) (a.put oj.dst (C j)) w := by
    refine ih p t _ _ b w (by omega) ⟨by simp [H.size], fun i hi hiu => H.fl i hi (hsetf i hiu).1, fun k h1 h2 => by rw [getD_set_ne false (by have := H.nt.1; omega)]; exact H.tu k h1 h2, H.nt, H.seq,
     fun k h1 h2 => getD_set_true (H.tl k h1 h2), fun i oi hi hiu hoi => H.ye i oi hi (hsetf i hiu).1 hoi, by rw [← H.defers]; cases oj.dst <;> rfl, fun s hs => ?_, fun i oi s hi hiu hoi hds => ?_, fun i oi hiu hoi k hk => ?_⟩ (.inr (hx.resolve_left (by omega))) hdn hw
    ·rw [put_look]
     by_cases hds : oj.dst = some s
     ·rw [if_pos hds, H.at_ j oj s hjn hju hoj hds]
     ·rw [if_neg hds]
      refine H.other s fun i oi hi hiu hoi hd => ?_
      by_cases hij : i = j
      ·subst hij
       have : oi = oj := osi (hoi.symm.trans hoj)
       subst this
       exact hds hd
      ·exact hs i oi hi (by rw [getD_set_ne false (Ne.symm hij)]; exact hiu) hoi hd
    ·have hij := (hsetf i hiu).2
     rw [put_look, if_neg (S.dst j i oj oi s hjn hi hoj hoi hds hij)]
     exact H.at_ i oi s hi (hsetf i hiu).1 hoi hds
    ·rcases (hset i).1 hiu with h | h
     ·exact getD_set_true (H.cl i oi h hoi k hk)
     ·subst h
      have : oi = oj := osi (hoi.symm.trans hoj)
      subst this
      exact getD_set_true (hdepj k hk)
   have hJ : J w := hx.resolve_left (by omega)
   rcases H.ye j oj hjn hju hoj with ⟨h1, h2⟩ | ⟨h1, h2⟩
   ·rw [if_pos (by rw [hwt]; exact h1)]
    refine .inl ?_
    unfold Oper.wp
    rw [he, h2 w hJ]
    exact next
   ·rw [if_neg (by rw [hwt, h1]; simp), ← h2]
    exact next
  ·-- the tail's next
   have hjt : j = t := by
    rcases Nat.lt_or_ge j t with h | h
    ·rw [H.tl j (by omega) h] at hju; cases hju
    ·rcases Nat.eq_or_lt_of_le h with h | h
     ·exact h.symm
     ·exfalso
      have hj1 := S.chain j oj (by have := H.nt.1; omega) hoj
      have := hdepj _ hj1
      rw [H.tu (j - 1) (by omega) (by omega)] at this; cases this
   subst hjt
   have hget : (l.drop j) = oj :: l.drop (j + 1) := by
    have hjl : j < l.length := by omega
    rw [List.drop_eq_getElem_cons hjl]
    congr 1
    have h1 := hl j
    rw [List.getElem?_eq_getElem hjl, hoj] at h1
    exact osi h1
   rw [hget] at hw
   cases p with
   | zero =>
    exfalso
    refine hz ⟨?_, rfl⟩
    unfold unlisted
    rw [List.countP_eq_zero]
    intro i hi
    have hin := List.mem_range.1 hi
    unfold allDone at hdn
    rw [Nat.add_zero, hoj] at hdn
    simp only [List.all_eq_true, List.mem_range, List.contains_eq_mem, decide_eq_true_eq] at hdn
    have := anc_all (p := fun q => listed.getD q false = true) (N := j) (fun q oq _ hq hoq r hr => H.cl q oq hq hoq r hr) j _ (Nat.le_refl _) (fun q hq => hdepj q hq) i (hdn i hin)
    simp only [this]; simp
   | succ p =>
   obtain ⟨hwd, hout⟩ := hw
   have hap : ∀ i oi, i < n → listed.getD i false = false → ops[i]? = some oi → oi.apart ops oj = true := fun i oi hi hiu hoi => apartT i oi j oj hi hiu hoi (by omega) hoj hdone
   have hlook : ∀ s ∈ oj.looksAt ops, a.tmps[s]? = b.tmps[s]? := fun s hs => H.other s fun i oi hi hiu hoi hd => (Oper.apart_spec (hap i oi hi hiu hoi)).1 s hd hs
   obtain ⟨he, hwt⟩ := same_exec (fun cs b => Region.noSelect_spec S.sel j oj cs b hoj) hlook
   rw [if_pos (by rw [hwt]; exact hwd)]
   have hseq' : Region.seqB .any ops (ops.size - (j + 1)) (j + 1) ((Array.range ops.size).map fun k => decide (k < j + 1)) = true := by
    have hs := H.seq
    rw [show ops.size - j = (ops.size - (j + 1)) + 1 by omega] at hs
    unfold Region.seqB at hs
    simp only [Bool.and_eq_true] at hs
    have e : (((Array.range ops.size).map fun k => decide (k < j)).setIfInBounds j true) = (Array.range ops.size).map fun k => decide (k < j + 1) := by
     apply Array.ext_getElem?
     intro k
     by_cases hkj : j = k
     ·subst hkj; simp [hjs]
     ·rw [Array.getElem?_setIfInBounds_ne hkj, Array.getElem?_map, Array.getElem?_map]
      by_cases hks : k < ops.size
      ·simp only [Array.getElem?_range, hks, if_true, Option.map_some, Option.some.injEq, decide_eq_decide]
       omega
      ·simp [Array.getElem?_range, hks]
    rw [← e]
    exact hs.2
   have keep : ∀ v, LeftJ P ops n J (j + 1) (listed.setIfInBounds j true) (a.put oj.dst v) (b.put oj.dst v) C := fun v => by
    refine ⟨by simp [H.size], fun i hi hiu => H.fl i hi (hsetf i hiu).1, fun k h1 h2 => by rw [getD_set_ne false (by omega)]; exact H.tu k (by omega) h2, ⟨by omega, by omega⟩, hseq',
     fun k h1 h2 => (hset k).2 (by rcases Nat.lt_or_ge k j with h | h; exact .inl (H.tl k h1 h); exact .inr (by omega)), fun i oi hi hiu hoi => ?_, ?_, fun s hs => ?_, fun i oi s hi hiu hoi hds => ?_, fun i oi hiu hoi k hk => ?_⟩
    ·have h3 := (Oper.apart_spec (hap i oi hi (hsetf i hiu).1 hoi)).2.2
     have hse := execOp_put oi (fun cs b => Region.noSelect_spec S.sel i oi cs b hoi) b oj.dst v (fun d hd => h3 d hd)
     have hsw := wanted_put (ops := ops) oi b oj.dst v (fun d hd => h3 d hd)
     rw [hse, hsw]
     exact H.ye i oi hi (hsetf i hiu).1 hoi
    ·have := H.defers
     cases oj.dst <;> exact this
    ·rw [put_look, put_look, H.other s fun i oi hi hiu hoi hd => hs i oi hi (by rw [getD_set_ne false (by omega)]; exact hiu) hoi hd]
    ·have h2 := (Oper.apart_spec (hap i oi hi (hsetf i hiu).1 hoi)).2.1 s hds
     rw [put_look, put_look, if_neg h2, if_neg h2]
     exact H.at_ i oi s hi (hsetf i hiu).1 hoi hds
    ·rcases (hset i).1 hiu with h | h
     ·exact getD_set_true (H.cl i oi h hoi k hk)
     ·subst h
      have : oi = oj := osi (hoi.symm.trans hoj)
      subst this
      exact getD_set_true (hdepj k hk)
   have hun : unlisted n (listed.setIfInBounds j true) = unlisted n listed := by
    unfold unlisted
    refine List.countP_congr fun i hi => ?_
    rw [getD_set_ne false (by have := List.mem_range.1 hi; omega)]
   refine .inl ?_
   rw [← he] at hout
   exact outcome_wp hout fun v w' ⟨hJ, hrest⟩ => ih p (j + 1) _ _ _ w' (by rw [hun]; omega) (keep v) (.inr hJ) (by rw [show j + 1 + p = j + (p + 1) by omega]; exact hdn) hrest
end
theorem wp_region_extJ {P : Program} {id : Nat} {l : List Oper} {Q : Exit → Act → World → Prop} {a : Act} {w : World} (n p : Nat) (Φ : Kinds) (J : World → Prop) (hX : Φ xm = some (.inr fun _ w => J w)) (hJ : ∀ w', Ext w.drew w' → J w') (hdn : allDone l.toArray n (n + p) = true) (hm : P.follows .mixedOrders = true) (hB : extB l.toArray n = true)
  (h : ∀ vs, wpT P l.toArray n Φ w.drew vs (fun a' => ∀ w', Ext w.drew w' → factsL Φ vs w' (List.range n) → Apart l.toArray n Φ vs → wpJ P l.toArray (OnlyNormal Q) J p (l.drop n) a' w') 0 (l.take n) a) :
  (Code.region id l.toArray true).wp P Q a w := by
 have S := extS_of hB
 refine Code.wp_mono OnlyNormal.imp ?_
 refine wp_region_any hm ?_
 have hle : n ≤ l.length := by simpa using S.le
 have hlen : (l.take n).length = n := by simp [hle]
 have hget : ∀ j o, (l.take n)[j]? = some o → l.toArray[0 + j]? = some o := fun j o hj => by
  rw [Nat.zero_add, List.getElem?_toArray]
  rw [List.getElem?_take] at hj
  split at hj
  ·exact hj
  ·cases hj
 have hall : ∀ vs, ∃ C T, TRun P l.toArray n Φ w.drew a vs C T ∧ ∀ w', Ext w.drew w' → factsL Φ vs w' (List.range n) → Apart l.toArray n Φ vs → wpJ P l.toArray (OnlyNormal Q) J p (l.drop n) (T n) w' := fun vs => by
  obtain ⟨C, T, hT, hst, hF⟩ := wpT_run (l.take n) 0 a hget (h vs)
  rw [hlen, Nat.zero_add] at hF
  exact ⟨C, T, ⟨hT, fun i hi => hst i (Nat.zero_le _) (by rw [hlen]; omega)⟩, hF⟩
 have hall' : ∀ vs, ∃ C T, TRun P l.toArray n Φ w.drew a vs C T := fun vs => let ⟨C, T, R, _⟩ := hall vs; ⟨C, T, R⟩
 have hfalse : ∀ j, (Array.replicate l.toArray.size false).getD j false = false := fun j => getD_replicate_false _ _
 obtain ⟨C, T, R⟩ := hall' (fun _ => ⟨undef, fun _ => false⟩)
 have M0 : Mid P l.toArray n Φ w.drew a (Array.replicate l.toArray.size false) a w.drew (fun _ => ⟨undef, fun _ => false⟩) C T :=
  ⟨by simp, fun i oi _ hl => (by rw [hfalse] at hl; cases hl), fun t _ _ => hfalse t, R,
   ⟨rfl, fun _ _ => rfl, fun j oj t _ hl => (by rw [hfalse] at hl; cases hl)⟩, Ext.refl _, fun j _ hl => (by rw [hfalse] at hl; cases hl), fun j _ hl => (by rw [hfalse] at hl; cases hl), fun j _ _ _ _ hl => (by rw [hfalse] at hl; cases hl)⟩
 have hcount : unlisted n (Array.replicate l.toArray.size false) = n := by
  unfold unlisted
  rw [List.countP_eq_length.2 (fun j _ => by rw [hfalse]; rfl)]
  simp
 have := region_mainJ (Q := Q) S hall' (fun listed a' w' vs C T M hfl => ?_) n _ a w.drew _ C T hcount M0
 ·have e : n + (l.toArray.size - n) = l.toArray.size := by have := S.le; omega
  rw [e] at this
  exact this
 ·obtain ⟨C', T', R', hF⟩ := hall vs
  have hops : ∀ i, i < n → ∃ o, l.toArray[i]? = some o := fun i hi => let ⟨o, ho, _⟩ := R'.step i hi; ⟨o, ho⟩
  -- of a float nothing is known ahead
  have kind : ∀ j, j < n → floats l.toArray n j = true → Φ j = none := fun j hj hf => by
   obtain ⟨o, _, _, hok⟩ := R'.step j hj
   unfold okAt at hok
   cases hk : Φ j with
   | none => rfl
   | some x => cases x with
    | inl x => simp only [hk] at hok; rw [hok.2.1] at hf; cases hf
    | inr φ => simp only [hk] at hok; rw [hok.2.1] at hf; cases hf
  have facts : ∀ j, j < n → factAt Φ vs w' j := fun j hj => by
   cases hl : listed.getD j false with
   | true => exact M.facts j hj hl
   | false => unfold factAt; rw [kind j hj (hfl j hj hl)]; trivial
  have hag : ∀ j, j < n → C j = C' j := fun j hj => TRun.agree S M.run R' (L := fun _ => True) M.world (fun _ _ _ _ _ _ _ => trivial) (fun _ _ _ => rfl) (fun j hj _ => facts j hj) (fun j hj _ => facts j hj) j hj trivial
  have hx := hF w' M.world (factsL_iff.2 fun j hj => facts j (List.mem_range.1 hj)) (fun j k hj hk hjk => by
   have nr : ∀ j, j < n → listed.getD j false = false → relK Φ j = false := fun j hj hl => relK_none (fun φ e => by rw [kind j hj (hfl j hj hl)] at e; cases e)
   cases hl : listed.getD j false with
   | false => exact .no_l (nr j hj hl)
   | true =>
    cases hl2 : listed.getD k false with
    | false => exact .no_r (nr k hk hl2)
    | true => exact M.apart j k hj hk hjk hl hl2)
  have hN := R'.holds S n (Nat.le_refl _)
  refine left_mainJ (J := J) (C := C') (l := l) (fun j => by rw [List.getElem?_toArray]) (by simp) S hops _ p n listed a' (T' n) w' rfl ?_ (.inr (hJ w' M.world)) hdn hx
  refine ⟨M.size, hfl, M.tail, ⟨Nat.le_refl _, S.le⟩, S.seq, fun j h1 h2 => absurd h1 (by omega), fun i oi hi hiu hoi => ?_, M.frame.defers.trans hN.defers.symm, fun s hs => ?_, fun i oi s hi hiu hoi hds => ?_, fun i oi hiu hoi k hk => ?_⟩
  ·obtain ⟨o2, ho2, _, hok⟩ := R'.step i hi
   have : o2 = oi := osi (ho2.symm.trans hoi)
   subst this
   have hlook := (R'.holds S i (by omega)).same S hN hi hoi (S.deps i o2 hi hoi) (fun j hj => by have := S.deps i o2 hi hoi j hj; omega)
   obtain ⟨he, hwt⟩ := same_exec (fun cs b => Region.noSelect_spec S.sel i o2 cs b hoi) hlook
   unfold okAt at hok
   rw [kind i hi (hfl i hi hiu)] at hok
   simp only at hok
   unfold pureOK at hok
   rw [if_pos (hfl i hi hiu)] at hok
   rw [← he, ← hwt]
   exact hok.imp (fun ⟨h1, h2⟩ => ⟨h1, fun w hw => h2 w fun _ => .inr (by unfold jx; rw [hX]; exact hw)⟩) fun h => h
  ·by_cases hex : ∃ j oj, j < n ∧ l.toArray[j]? = some oj ∧ oj.dst = some s
   ·obtain ⟨j, oj, hj, hoj, hd⟩ := hex
    have hl : listed.getD j false = true := by
     cases hl : listed.getD j false with
     | true => rfl
     | false => exact absurd hd (hs j oj hj hl hoj)
    rw [M.frame.at_ j oj s hj hl hoj hd, hN.at_ j oj s hj hj hoj hd, hag j hj]
   ·rw [M.frame.other s fun j oj hj _ hoj hd => hex ⟨j, oj, hj, hoj, hd⟩, hN.other s fun j oj hj _ hoj hd => hex ⟨j, oj, hj, hoj, hd⟩]
  ·rw [hN.at_ i oi s hi hi hoi hds, M.frame.other s fun j oj hj hl hoj hd => ?_]
   by_cases hij : j = i
   ·subst hij; rw [hiu] at hl; cases hl
   ·exact S.dst j i oj oi s hj hi hoj hoi hds (Ne.symm hij) hd
  ·by_cases hin : i < n
   ·exact M.closed i oi hin hiu hoi k hk
   ·rw [M.tail i (by omega) (Array.getElem?_eq_some_iff.1 hoi).1] at hiu; cases hiu
end Go.Proofs.YtmkomlbiaebddaaGreatDoor
namespace Go.Proofs.YtmkomlbiaebddaaGreatDoor.Am
open Go Go.RowKit
inductive Ty where
 | i (k : IntKind) | b | s | er | sl (e : Ty) | pr (a c : Ty) | un | mp (a c : Ty)
def den : Ty → Type
 | .i k => match k with
  | .u8 => UInt8 | .u16 => UInt16 | .u32 => UInt32 | .u64 => UInt64
  | .i8 => Int | .i16 => Int | .i32 => Int | .i64 => Int
 | .b => Bool
 | .s => List UInt8
 | .er => Bool
 | .sl e => List (den e)
 | .pr a c => den a × den c
 | .un => Unit
 | .mp a c => List (den a × den c)
def ikEq (a c : IntKind) : Option (PLift (a = c)) := match a, c with
 | .i8, .i8 => some ⟨rfl⟩ | .i16, .i16 => some ⟨rfl⟩ | .i32, .i32 => some ⟨rfl⟩ | .i64, .i64 => some ⟨rfl⟩
 | .u8, .u8 => some ⟨rfl⟩ | .u16, .u16 => some ⟨rfl⟩ | .u32, .u32 => some ⟨rfl⟩ | .u64, .u64 => some ⟨rfl⟩
 | _, _ => none
def tyEq : (a c : Ty) → Option (PLift (a = c))
 | .i k, .i k' => match ikEq k k' with
  | some ⟨h⟩ => some ⟨by rw [h]⟩
  | none => none
 | .b, .b => some ⟨rfl⟩
 | .s, .s => some ⟨rfl⟩
 | .un, .un => some ⟨rfl⟩
 | .er, .er => some ⟨rfl⟩
 | .sl a, .sl c => match tyEq a c with
  | some ⟨h⟩ => some ⟨by rw [h]⟩
  | none => none
 | .pr a x, .pr c y => match tyEq a c, tyEq x y with
  | some ⟨h⟩, some ⟨k⟩ => some ⟨by rw [h, k]⟩
  | _, _ => none
 | .mp a x, .mp c y => match tyEq a c, tyEq x y with
  | some ⟨h⟩, some ⟨k⟩ => some ⟨by rw [h, k]⟩
  | _, _ => none
 | _, _ => none
def castD {a c : Ty} (h : a = c) (x : den a) : den c := h ▸ x
def tsz : Ty → Nat
 | .pr a c => tsz a + tsz c
 | .un => 0
 | _ => 1
def one : Ty → Bool
 | .pr _ _ => false
 | .un => false
 | _ => true
def toI : (k : IntKind) → den (.i k) → Int
 | .u8, x => ((x : UInt8).toNat : Int)
 | .u16, x => ((x : UInt16).toNat : Int)
 | .u32, x => ((x : UInt32).toNat : Int)
 | .u64, x => ((x : UInt64).toNat : Int)
 | .i8, x => x
 | .i16, x => x
 | .i32, x => x
 | .i64, x => x
def ofI : (k : IntKind) → Int → den (.i k)
 | .u8, x => i8 x
 | .u16, x => i16 x
 | .u32, x => i32 x
 | .u64, x => i64 x
 | .i8, x => IntKind.i8.wrap x
 | .i16, x => IntKind.i16.wrap x
 | .i32, x => IntKind.i32.wrap x
 | .i64, x => w64 x
def exI : (k : IntKind) → Int → den (.i k)
 | .u8, x => i8 x
 | .u16, x => i16 x
 | .u32, x => i32 x
 | .u64, x => i64 x
 | .i8, x => x
 | .i16, x => x
 | .i32, x => x
 | .i64, x => x
def bitD (op : BinOp) : (k : IntKind) → den (.i k) → den (.i k) → Option (den (.i k))
 | .u8, x, y => match op with
  | .and => some (@HAnd.hAnd UInt8 UInt8 UInt8 _ x y)
  | .or => some (@HOr.hOr UInt8 UInt8 UInt8 _ x y)
  | .xor => some (@HXor.hXor UInt8 UInt8 UInt8 _ x y)
  | _ => none
 | .u16, _, _ => none
 | .u32, x, y => match op with
  | .and => some (@HAnd.hAnd UInt32 UInt32 UInt32 _ x y)
  | .or => some (@HOr.hOr UInt32 UInt32 UInt32 _ x y)
  | .xor => some (@HXor.hXor UInt32 UInt32 UInt32 _ x y)
  | _ => none
 | .u64, x, y => match op with
  | .and => some (@HAnd.hAnd UInt64 UInt64 UInt64 _ x y)
  | .or => some (@HOr.hOr UInt64 UInt64 UInt64 _ x y)
  | .xor => some (@HXor.hXor UInt64 UInt64 UInt64 _ x y)
  | _ => none
 | .i8, x, y => bits? op .i8 x y
 | .i16, x, y => bits? op .i16 x y
 | .i32, x, y => bits? op .i32 x y
 | .i64, x, y => bits? op .i64 x y
where bits? (op : BinOp) (k : IntKind) (x y : Int) : Option Int := match op with
 | .and => some (bits .and k x y)
 | .or => some (bits .or k x y)
 | .xor => some (bits .xor k x y)
 | .andNot => some (bits .andNot k x y)
 | _ => none
inductive SV where
 | v (t : Ty) (x : den t)
 | nils | nilp | nilm | nilf | undef
 /-- what was not done -/
 | skp
 /-- a slice of no elements and no room -/
 | emp
 /-- a slice that has no room behind its end -/
 | cl (e : Ty) (xs : List (den e))
 /-- a slice that is not nil -/
 | nn (e : Ty) (xs : List (den e))
 | mpr (id : Nat)
 | ptr (id off : Nat)
 | rp (t : Ty) (x : den t) (off : Nat)
 | own (id ver : Nat)
 | ep (id ver : Nat) (i : Int) (off : Nat)
 | fn (f : Nat) (a c : List SV)
 | ag (l : List SV)
 | tup (l : List SV)
inductive AO where
 | blk (T : TypeId) (cs : List SV)
 | osl (ver : Nat) (e : Ty) (T : TypeId) (xs : List (den e))
 | mp (gen : Nat) (K V : Ty) (es : List (den K × den V))
 | dead
structure St where
 sl : List (Nat × SV)
 hp : List AO
def lkS : List (Nat × SV) → Nat → SV
 | [], _ => .undef
 | (d, x) :: m, t => bif Nat.beq d t then x else lkS m t
def atN {α : Type} : List α → Nat → Option α
 | [], _ => none
 | x :: _, 0 => some x
 | _ :: l, n + 1 => atN l n
def setN {α : Type} : List α → Nat → α → List α
 | [], _, _ => []
 | _ :: l, 0, y => y :: l
 | x :: l, n + 1, y => x :: setN l n y
def St.put (σ : St) (d : Nat) (x : SV) : St := ⟨(d, x) :: σ.sl, σ.hp⟩
def cellsOf : (t : Ty) → den t → List SV
 | .pr a c, x => cellsOf a x.1 ++ cellsOf c x.2
 | .un, _ => []
 | .i k, x => [.v (.i k) x]
 | .b, x => [.v .b x]
 | .s, x => [.v .s x]
 | .er, x => [.v .er x]
 | .sl e, x => [.v (.sl e) x]
 | .mp a c, x => [.v (.mp a c) x]
def svOf (t : Ty) (x : den t) : SV := bif one t then .v t x else .ag (cellsOf t x)
def pc (l : List SV) (o n : Nat) : List SV := (l.drop o).take n
def layS : List SV → Nat → List SV → List SV
 | l, _, [] => l
 | [], _, _ => []
 | _ :: l, 0, x :: xs => x :: layS l 0 xs
 | y :: l, o + 1, xs => y :: layS l o xs
inductive TD where
 | int (k : IntKind) | b | s | sl (E : TypeId) | st (fs : List (TypeId × Nat)) | pt (E : TypeId) | ar (n : Nat) (E : TypeId) | map (K V : TypeId) | fn | ifc | ot
structure TI where
 td : TD
 sz : Nat
 z : List SV
 ty : Ty
 nb : Nat
def TI.agg (t : TI) : Bool := match t.td with
 | .st _ => true
 | .ar _ _ => true
 | _ => false
def svAt (f : TI) (l : List SV) : Option SV := bif Nat.beq l.length f.sz && Nat.blt 0 f.sz then (bif f.agg then some (.ag l) else match l with
 | [x] => some x
 | _ => none) else none
abbrev TE := List (Nat × TI)
def tyAt : TE → Nat → Option TI
 | [], _ => none
 | (d, x) :: m, t => bif Nat.beq d t then some x else tyAt m t
def ofCell (hp : List AO) : (t : Ty) → SV → Option (den t)
 | t, .v t' x => match tyEq t' t with
  | some ⟨h⟩ => some (castD h x)
  | none => none
 | .sl e, .nils => some ([] : List (den e))
 | .sl e, .emp => some ([] : List (den e))
 | .sl e, .cl e' xs => match tyEq e' e with
  | some ⟨h⟩ => some (castD (by rw [h] : Ty.sl e' = Ty.sl e) xs)
  | none => none
 | .sl e, .nn e' xs => match tyEq e' e with
  | some ⟨h⟩ => some (castD (by rw [h] : Ty.sl e' = Ty.sl e) xs)
  | none => none
 | .sl e, .own id ver => match atN hp id with
  | some (.osl ver' e' _ xs) => bif Nat.beq ver ver' then (match tyEq e' e with
   | some ⟨h⟩ => some (castD (by rw [h] : Ty.sl e' = Ty.sl e) xs)
   | none => none) else none
  | _ => none
 | _, _ => none
def ofCells (hp : List AO) : (t : Ty) → List SV → Option (den t)
 | .pr a c, l => match ofCells hp a (l.take (tsz a)), ofCells hp c (l.drop (tsz a)) with
  | some x, some y => some (x, y)
  | _, _ => none
 | .un, l => match l with
  | [] => some ()
  | _ => none
 | t, l => match l with
  | [x] => ofCell hp t x
  | _ => none
def ofSV (hp : List AO) (t : Ty) : SV → Option (den t)
 | .ag l => bif one t then none else ofCells hp t l
 | x => bif one t then ofCell hp t x else none
def cellL : SV → List SV
 | .ag l => l
 | x => [x]
def ofConst : Value → Option SV
 | .bool x => some (.v .b x)
 | .int k n => bif decide (toI k (ofI k n) = n) then some (.v (.i k) (ofI k n)) else none
 | .string x => some (.v .s x.data.toList)
 | .slice none 0 0 => some .nils
 | .pointer none => some .nilp
 | .map none => some .nilm
 | .nilFunc => some .nilf
 | .nilIface => some (.v .er false)
 | _ => none
def ev (σ : St) : Operand → Option SV
 | .tmp t => some (lkS σ.sl t)
 | .const c => ofConst c
 | .func f => some (.fn f [] [])
 | .global _ => none
end Go.Proofs.YtmkomlbiaebddaaGreatDoor.Am
namespace Go.Proofs.YtmkomlbiaebddaaGreatDoor
open Go Go.RowKit
end Go.Proofs.YtmkomlbiaebddaaGreatDoor
