/- Package hash: what its sums and macs are: plain laws. Conditions: as each theorem says. -/
import Derived.Test.YtmbcolbbekbccaaHsB
import Derived.Test.YtmbcolbbekbccaaPlb
namespace Go.Proofs.Ytmbcolbbekbccaa
open Go Go.RowKit
section
variable {α : Type} {n : Nat}
def vset (x : Vec α n) (i : Nat) (u : α) : Vec α n := ⟨x.l.set i u, by simp [x.h]⟩
def gv (x : Vec UInt32 64) (i : Nat) : UInt32 := x.l.getD i 0
theorem setV_ok {x : Vec α n} {i : Nat} {j : Int} {u : α} (hj : j = (i : Int)) (h : i < n) : setV x j u = some (vset x i u) := by
  subst hj
  unfold setV
  rw [show (decide (0 ≤ (i : Int)) && decide ((i : Int) < (n : Int))) = true by simp; exact h]
  exact congrArg some (Vec.eq (by rw [vset]; simp))
theorem idxV_ok {x : Vec UInt32 64} {i : Nat} {j : Int} (hj : j = (i : Int)) (h : i < 64) : idx x.l j = some (gv x i) := by
  have h' : i < x.l.length := by rw [x.h]; exact h
  rw [idx_ok hj h', gv, List.getD_eq_getElem?_getD, List.getElem?_eq_getElem h']; rfl
theorem w64n {n : Nat} (h : n < 9223372036854775808) : w64 (n : Int) = (n : Int) := w64_of (by omega) (by omega)
theorem w64s (n : Nat) (h : n < 9223372036854775807) : w64 ((n : Int) + 1) = ((n + 1 : Nat) : Int) := w64_of (by omega) (by omega)
/-- Turned to the right. -/
def rr (x : UInt32) (n : Nat) : UInt32 := i32 (shlI .u32 (x.toNat : Int) ((32 - n : Nat) : Int)) ||| i32 (shrI .u32 (x.toNat : Int) (n : Int))
theorem ror_ok (x : UInt32) (n : Nat) {m : Int} (h1 : ((((i64 (w64 (0 - m))) &&& (31 : UInt64))).toNat : Int) = ((32 - n : Nat) : Int)) (h2 : (((i64 ((32 : Int) - ((32 - n : Nat) : Int)))).toNat : Int) = (n : Int)) : hash_state_next_1_p x m = some (rr x n) := by
  unfold hash_state_next_1_p math_bits_RotateLeft32_p
  simp only [some_bind]
  rw [h1, h2]; rfl
/-- The number that bytes are, the highest first. -/
def valF (l : List UInt8) : UInt64 := l.foldl (fun s b => (i64 (shlI .u64 (s.toNat : Int) 8)) ||| (i64 (b.toNat : Int))) 0
theorem value_ok {l : List UInt8} (h : l.length < 1000000) : hash_value_p l = some (valF l) := by
  have key : iter (hash_value_b0 l) ((0 : UInt64), 0) = some (valF l) := by
    refine iter_run (fun k => (valF (l.take k), (k : Int))) l.length (by omega) _ (fun k hk => ?_) ?_
    · unfold hash_value_b0
      rw [dec_t (by omega), idx_ok rfl hk]
      simp only [some_bind]
      rw [w64s k (by omega), take_succ hk]
      simp only [valF, List.foldl_append, List.foldl_cons, List.foldl_nil]
    · unfold hash_value_b0
      rw [dec_f (by omega), List.take_length]
  unfold hash_value_p
  rw [key]; rfl
end
/-! ### A block -/
abbrev St8 : Type := UInt32 × UInt32 × UInt32 × UInt32 × UInt32 × UInt32 × UInt32 × UInt32
def W1 (blk : List UInt8) : Nat → Vec UInt32 64
  | 0 => vrep 64 0
  | k + 1 => vset (W1 blk k) k (i32 (((valF ((blk.take (4 * k + 4)).drop (4 * k))).toNat : Int)))
def extW (a b c d : UInt32) : UInt32 := i32 ((((i32 ((((i32 (((c).toNat : Int) + ((((rr a 7 ^^^ rr a 18) ^^^ (i32 (shrI .u32 ((a).toNat : Int) 3)))).toNat : Int)))).toNat : Int) + ((d).toNat : Int)))).toNat : Int) + ((((rr b 17 ^^^ rr b 19) ^^^ (i32 (shrI .u32 ((b).toNat : Int) 10)))).toNat : Int))
def W2 (w : Vec UInt32 64) : Nat → Vec UInt32 64
  | 0 => w
  | k + 1 => vset (W2 w k) (16 + k) (extW (gv (W2 w k) (k + 1)) (gv (W2 w k) (k + 14)) (gv (W2 w k) k) (gv (W2 w k) (k + 9)))
def t1F (s : St8) (K w : UInt32) : UInt32 := i32 ((((i32 ((((i32 ((((i32 (((s.2.2.2.2.2.2.2).toNat : Int) + ((((rr s.2.2.2.2.1 6 ^^^ rr s.2.2.2.2.1 11) ^^^ rr s.2.2.2.2.1 25)).toNat : Int)))).toNat : Int) + ((((s.2.2.2.2.1 &&& s.2.2.2.2.2.1) ^^^ (((4294967295 : UInt32) ^^^ s.2.2.2.2.1) &&& s.2.2.2.2.2.2.1))).toNat : Int)))).toNat : Int) + ((K).toNat : Int)))).toNat : Int) + ((w).toNat : Int))
def t2F (s : St8) : UInt32 := i32 (((((rr s.1 2 ^^^ rr s.1 13) ^^^ rr s.1 22)).toNat : Int) + (((((s.1 &&& s.2.1) ^^^ (s.1 &&& s.2.2.1)) ^^^ (s.2.1 &&& s.2.2.1))).toNat : Int))
def rnd (K w : UInt32) (s : St8) : St8 := (i32 (((t1F s K w).toNat : Int) + ((t2F s).toNat : Int)), s.1, s.2.1, s.2.2.1, i32 (((s.2.2.2.1).toNat : Int) + ((t1F s K w).toNat : Int)), s.2.2.2.2.1, s.2.2.2.2.2.1, s.2.2.2.2.2.2.1)
def R3 (K w : Vec UInt32 64) (s : St8) : Nat → St8
  | 0 => s
  | k + 1 => rnd (gv K k) (gv w k) (R3 K w s k)
def ad8 (a b : UInt32) : UInt32 := i32 (((a).toNat : Int) + ((b).toNat : Int))
def add8 (v s : St8) : St8 := (ad8 v.1 s.1, ad8 v.2.1 s.2.1, ad8 v.2.2.1 s.2.2.1, ad8 v.2.2.2.1 s.2.2.2.1, ad8 v.2.2.2.2.1 s.2.2.2.2.1, ad8 v.2.2.2.2.2.1 s.2.2.2.2.2.1, ad8 v.2.2.2.2.2.2.1 s.2.2.2.2.2.2.1, ad8 v.2.2.2.2.2.2.2 s.2.2.2.2.2.2.2)
def nextF (s : St8) (blk : List UInt8) (K : Vec UInt32 64) : St8 := add8 (R3 K (W2 (W1 blk 16) 48) s 64) s
theorem l0_ok {blk : List UInt8} (h : blk.length = 64) : iter (hash_state_next_b0 blk) (0, vrep 64 (0 : UInt32)) = some (W1 blk 16) := by
  refine iter_run (fun k => ((k : Int), W1 blk k)) 16 (by decide) _ (fun k hk => ?_) ?_
  · unfold hash_state_next_b0
    have e1 : w64 ((4 : Int) * (k : Int)) = ((4 * k : Nat) : Int) := w64_of (by omega) (by omega)
    have e2 : w64 (((4 * k : Nat) : Int) + 4) = ((4 * k + 4 : Nat) : Int) := w64_of (by omega) (by omega)
    rw [dec_t (by omega)]
    simp only [e1, e2]
    rw [sub3_ok (by omega) (by omega), some_bind, value_ok (by simp; omega), some_bind, idxV_ok rfl (by omega), some_bind, setV_ok rfl (by omega), some_bind, w64s k (by omega)]
    rfl
  · unfold hash_state_next_b0
    rw [dec_f (by omega)]
theorem l1_ok (w : Vec UInt32 64) : iter hash_state_next_b1 (16, w) = some (W2 w 48) := by
  refine iter_run (fun k => (((16 + k : Nat) : Int), W2 w k)) 48 (by decide) _ (fun k hk => ?_) ?_
  · unfold hash_state_next_b1
    have e : ∀ (a : Int) (b : Nat), a = (b : Int) → b < 64 → w64 a = (b : Int) := fun a b e h => by rw [e]; exact w64n (by omega)
    rw [dec_t (by omega)]
    simp only [e (((16 + k : Nat) : Int) - 15) (k + 1) (by omega) (by omega), e (((16 + k : Nat) : Int) - 2) (k + 14) (by omega) (by omega), e (((16 + k : Nat) : Int) - 16) k (by omega) (by omega), e (((16 + k : Nat) : Int) - 7) (k + 9) (by omega) (by omega)]
    simp only [idxV_ok (x := W2 w k) (i := k + 1) rfl (by omega), idxV_ok (x := W2 w k) (i := k + 14) rfl (by omega), idxV_ok (x := W2 w k) (i := k) rfl (by omega), idxV_ok (x := W2 w k) (i := k + 9) rfl (by omega), idxV_ok (x := W2 w k) (i := 16 + k) rfl (by omega), some_bind, ror_ok _ 7 (m := 7) (by decide) (by decide), ror_ok _ 18 (m := 18) (by decide) (by decide), ror_ok _ 17 (m := 17) (by decide) (by decide), ror_ok _ 19 (m := 19) (by decide) (by decide), setV_ok (x := W2 w k) (i := 16 + k) rfl (by omega)]
    rw [w64s (16 + k) (by omega)]
    rfl
  · unfold hash_state_next_b1
    rw [dec_f (by omega)]
theorem l2_ok (K w : Vec UInt32 64) (s : St8) : iter (hash_state_next_b2 K w) (0, s) = some (R3 K w s 64) := by
  refine iter_run (fun k => ((k : Int), R3 K w s k)) 64 (by decide) _ (fun k hk => ?_) ?_
  · unfold hash_state_next_b2
    rw [dec_t (by omega)]
    simp only [idxV_ok (x := K) (i := k) rfl hk, idxV_ok (x := w) (i := k) rfl hk, some_bind, ror_ok _ 6 (m := 6) (by decide) (by decide), ror_ok _ 11 (m := 11) (by decide) (by decide), ror_ok _ 25 (m := 25) (by decide) (by decide), ror_ok _ 2 (m := 2) (by decide) (by decide), ror_ok _ 13 (m := 13) (by decide) (by decide), ror_ok _ 22 (m := 22) (by decide) (by decide)]
    rw [w64s k (by omega)]
    rfl
  · unfold hash_state_next_b2
    rw [dec_f (by omega)]
def pt8 (v s : St8) (k : Nat) : St8 := (if 0 < k then ad8 v.1 s.1 else v.1, if 1 < k then ad8 v.2.1 s.2.1 else v.2.1, if 2 < k then ad8 v.2.2.1 s.2.2.1 else v.2.2.1, if 3 < k then ad8 v.2.2.2.1 s.2.2.2.1 else v.2.2.2.1, if 4 < k then ad8 v.2.2.2.2.1 s.2.2.2.2.1 else v.2.2.2.2.1, if 5 < k then ad8 v.2.2.2.2.2.1 s.2.2.2.2.2.1 else v.2.2.2.2.2.1, if 6 < k then ad8 v.2.2.2.2.2.2.1 s.2.2.2.2.2.2.1 else v.2.2.2.2.2.2.1, if 7 < k then ad8 v.2.2.2.2.2.2.2 s.2.2.2.2.2.2.2 else v.2.2.2.2.2.2.2)
theorem l3_ok (s v : St8) : iter (hash_state_next_b3 s) (0, v) = some (add8 v s) := by
  refine iter_run (fun k => ((k : Int), pt8 v s k)) 8 (by decide) _ (fun k hk => ?_) ?_
  · rcases (by omega : k = 0 ∨ k = 1 ∨ k = 2 ∨ k = 3 ∨ k = 4 ∨ k = 5 ∨ k = 6 ∨ k = 7) with rfl | rfl | rfl | rfl | rfl | rfl | rfl | rfl <;> rfl
  · rfl
theorem next_ok (s : St8) {blk : List UInt8} (K : Vec UInt32 64) (h : blk.length = 64) : hash_state_next_p s blk K = some (nextF s blk K, K) := by
  unfold hash_state_next_p
  rw [l0_ok h, some_bind, some_bind, l1_ok, some_bind, some_bind]
  rw [show (0, s.1, s.2.1, s.2.2.1, s.2.2.2.1, s.2.2.2.2.1, s.2.2.2.2.2.1, s.2.2.2.2.2.2.1, s.2.2.2.2.2.2.2) = ((0 : Int), s) from rfl, l2_ok, some_bind, some_bind]
  rw [show ∀ t : St8, (0, t.1, t.2.1, t.2.2.1, t.2.2.2.1, t.2.2.2.2.1, t.2.2.2.2.2.1, t.2.2.2.2.2.2.1, t.2.2.2.2.2.2.2) = ((0 : Int), t) from fun _ => rfl, l3_ok, some_bind, some_bind]
  rfl
/-! ### Bytes of numbers; sums -/
def byF (x : UInt64) (i : Nat) : UInt8 := i8 (((i64 (shrI .u64 ((x).toNat : Int) ((8 * i : Nat) : Int)))).toNat : Int)
def beF (x : UInt64) : Nat → List UInt8
  | 0 => []
  | i + 1 => byF x i :: beF x i
theorem beF_len (x : UInt64) : ∀ n, (beF x n).length = n
  | 0 => rfl
  | n + 1 => by rw [beF, List.length_cons, beF_len x n]
/-- The first k of the bytes of n. -/
theorem beF_take (x : UInt64) (n : Nat) : ∀ k, k < n → (beF x n).take (k + 1) = (beF x n).take k ++ [byF x (n - 1 - k)] := by
  have get : ∀ n k (h : k < (beF x n).length), (beF x n)[k] = byF x (n - 1 - k) := by
    intro n
    induction n with
    | zero => intro k h; simp [beF] at h
    | succ n ih =>
      intro k h
      cases k with
      | zero => simp [beF]
      | succ k =>
        simp only [beF, List.getElem_cons_succ]
        rw [ih k (by simpa [beF] using h)]
        congr 1; omega
  intro k hk
  have h : k < (beF x n).length := by rw [beF_len]; exact hk
  rw [take_succ h, get n k h]
theorem big_ok {l : List UInt8} {x : UInt64} {n : Nat} (hn : n ≤ 8) (h : l.length ≤ 68719476000) : hash_big_p l x (n : Int) = some (l ++ beF x n) := by
  have e0 : w64 ((n : Int) - 1) = (n : Int) - 1 := w64_of (by omega) (by omega)
  have key : iter (hash_big_b0 x) ((n : Int) - 1, l) = some (l ++ beF x n) := by
    have := iter_run (body := hash_big_b0 x) (fun k => ((n : Int) - 1 - (k : Int), l ++ (beF x n).take k)) n (by omega) (l ++ beF x n) (fun k hk => by
      unfold hash_big_b0
      have e1 : (n : Int) - 1 - (k : Int) = ((n - 1 - k : Nat) : Int) := by omega
      rw [dec_t (by omega)]
      simp only [e1]
      have e2 : w64 ((8 : Int) * ((n - 1 - k : Nat) : Int)) = ((8 * (n - 1 - k) : Nat) : Int) := w64_of (by omega) (by omega)
      have e3 : w64 (((n - 1 - k : Nat) : Int) - 1) = (n : Int) - 1 - ((k + 1 : Nat) : Int) := by rw [w64_of (by omega) (by omega)]; omega
      rw [e2, chk_ok (decide_eq_true (by omega)), some_bind, app_ok (by simp [List.length_take, beF_len]; omega), some_bind, e3, beF_take x n k hk]
      simp only [List.append_assoc]
      rfl) (by
      unfold hash_big_b0
      rw [dec_f (by omega), List.take_of_length_le (by rw [beF_len]; exact Nat.le_refl _)])
    simpa using this
  unfold hash_big_p
  rw [e0, key]; rfl
def padN (n : Nat) : Nat := (120 - (n + 1) % 64 - 1 + 1) % 64
theorem padN_at (n k : Nat) : (n + 1 + k) % 64 = 56 ∨ ¬ (n + 1 + k) % 64 = 56 := by omega
def bodyF (l : List UInt8) : List UInt8 := (l ++ [128]) ++ List.replicate ((119 - l.length % 64) % 64) 0
def msgF (l : List UInt8) : List UInt8 := bodyF l ++ beF (i64 ((8 : Int) * (((i64 ((l.length : Int)))).toNat : Int))) 8
theorem bodyF_len (l : List UInt8) : (bodyF l).length % 64 = 56 := by simp only [bodyF, List.length_append, List.length_replicate, List.length_cons, List.length_nil]; omega
theorem bodyF_le (l : List UInt8) : (bodyF l).length ≤ l.length + 64 := by simp only [bodyF, List.length_append, List.length_replicate, List.length_cons, List.length_nil]; omega
theorem msgF_len (l : List UInt8) : (msgF l).length % 64 = 0 := by have := bodyF_len l; simp only [msgF, List.length_append, beF_len]; omega
theorem msgF_le (l : List UInt8) : (msgF l).length ≤ l.length + 72 := by have := bodyF_le l; simp only [msgF, List.length_append, beF_len]; omega
theorem tmod64 (n : Nat) : Int.tmod (n : Int) 64 = ((n % 64 : Nat) : Int) := (Int.ofNat_tmod n 64).symm
theorem pad_ok {l : List UInt8} (h : l.length ≤ 68719470000) : iter hash_Sum_b0 (l ++ [128]) = some (bodyF l) := by
  have := iter_run (body := hash_Sum_b0) (fun k => (l ++ [128]) ++ List.replicate k (0 : UInt8)) ((119 - l.length % 64) % 64) (by omega) (bodyF l) (fun k hk => by
    unfold hash_Sum_b0
    have hl : ((l ++ [128]) ++ List.replicate k (0 : UInt8)).length = l.length + 1 + k := by simp; omega
    rw [hl, cond_t (by rw [tmod64]; simp only [bne_iff_ne, ne_eq]; omega), app_ok (by rw [hl, List.length_cons, List.length_nil]; omega), some_bind, List.append_assoc, ← List.replicate_succ']) (by
    unfold hash_Sum_b0
    rw [show (l ++ [128]) ++ List.replicate ((119 - l.length % 64) % 64) (0 : UInt8) = bodyF l from rfl]
    have := bodyF_len l
    rw [cond_f (by rw [tmod64, this]; rfl)])
  simpa using this
def ini8 : St8 := (1779033703, 3144134277, 1013904242, 2773480762, 1359893119, 2600822924, 528734635, 1541459225)
def chainF (K : Vec UInt32 64) (b : List UInt8) : Nat → St8
  | 0 => ini8
  | k + 1 => nextF (chainF K b k) ((b.drop (64 * k)).take 64) K
def outF (s : St8) : List UInt8 := beF (i64 (s.1.toNat : Int)) 4 ++ (beF (i64 (s.2.1.toNat : Int)) 4 ++ (beF (i64 (s.2.2.1.toNat : Int)) 4 ++ (beF (i64 (s.2.2.2.1.toNat : Int)) 4 ++ (beF (i64 (s.2.2.2.2.1.toNat : Int)) 4 ++ (beF (i64 (s.2.2.2.2.2.1.toNat : Int)) 4 ++ (beF (i64 (s.2.2.2.2.2.2.1.toNat : Int)) 4 ++ beF (i64 (s.2.2.2.2.2.2.2.toNat : Int)) 4))))))
def at8 (s : St8) (k : Nat) : UInt32 := ([s.1, s.2.1, s.2.2.1, s.2.2.2.1, s.2.2.2.2.1, s.2.2.2.2.2.1, s.2.2.2.2.2.2.1, s.2.2.2.2.2.2.2] : List UInt32).getD k 0
def outN (s : St8) : Nat → List UInt8
  | 0 => []
  | k + 1 => outN s k ++ beF (i64 ((at8 s k).toNat : Int)) 4
theorem outN_len (s : St8) : ∀ k, (outN s k).length = 4 * k
  | 0 => rfl
  | k + 1 => by rw [outN, List.length_append, outN_len s k, beF_len]; omega
theorem outF_eq (s : St8) : outN s 8 = outF s := by simp only [outN, outF, at8, List.nil_append, List.append_assoc]; rfl
theorem outF_len (s : St8) : (outF s).length = 32 := by rw [← outF_eq, outN_len]
def keysF : Vec UInt32 64 := (hash_keys_p).getD (vrep 64 0)
theorem keys_ok : hash_keys_p = some keysF := rfl
def shaF (l : List UInt8) : List UInt8 := outF (chainF keysF (msgF l) ((msgF l).length / 64))
theorem shaF_len (l : List UInt8) : (shaF l).length = 32 := outF_len _
theorem chain_ok (K : Vec UInt32 64) {b : List UInt8} (h : b.length % 64 = 0) (hl : b.length ≤ 68719476736) : iter hash_Sum_b1 (b, 1779033703, 3144134277, 1013904242, 2773480762, 1359893119, 2600822924, 528734635, 1541459225, K) =
    some ((chainF K b (b.length / 64)).1, (chainF K b (b.length / 64)).2.1, (chainF K b (b.length / 64)).2.2.1, (chainF K b (b.length / 64)).2.2.2.1, (chainF K b (b.length / 64)).2.2.2.2.1, (chainF K b (b.length / 64)).2.2.2.2.2.1, (chainF K b (b.length / 64)).2.2.2.2.2.2.1, (chainF K b (b.length / 64)).2.2.2.2.2.2.2, K) := by
  refine iter_run (fun k => (b.drop (64 * k), (chainF K b k).1, (chainF K b k).2.1, (chainF K b k).2.2.1, (chainF K b k).2.2.2.1, (chainF K b k).2.2.2.2.1, (chainF K b k).2.2.2.2.2.1, (chainF K b k).2.2.2.2.2.2.1, (chainF K b k).2.2.2.2.2.2.2, K)) (b.length / 64) (by omega) _ (fun k hk => ?_) ?_
  · unfold hash_Sum_b1
    have hd : (b.drop (64 * k)).length = b.length - 64 * k := by simp
    rw [dec_t (by simp only [hd]; omega)]
    simp only []
    rw [show (64 : Int) = ((64 : Nat) : Int) from rfl, subH_ok (by rw [hd]; omega), some_bind, next_ok _ _ (by simp only [List.length_take, hd]; omega), some_bind, subL_ok (by rw [hd]; omega), some_bind, List.drop_drop]
    rfl
  · unfold hash_Sum_b1
    rw [dec_f (by simp only [List.length_drop]; omega)]
theorem out_ok2 (s : St8) (K : Vec UInt32 64) : iter (hash_Sum_b2 (s.1, s.2.1, s.2.2.1, s.2.2.2.1, s.2.2.2.2.1, s.2.2.2.2.2.1, s.2.2.2.2.2.2.1, s.2.2.2.2.2.2.2, K)) (([] : List UInt8), 0) = some (outF s) := by
  rw [← outF_eq]
  refine iter_run (fun k => (outN s k, (k : Int))) 8 (by decide) _ (fun k hk => ?_) ?_
  · unfold hash_Sum_b2
    have e : idx ([s.1, s.2.1, s.2.2.1, s.2.2.2.1, s.2.2.2.2.1, s.2.2.2.2.2.1, s.2.2.2.2.2.2.1, s.2.2.2.2.2.2.2] : List UInt32) (k : Int) = some (at8 s k) := by
      rcases (by omega : k = 0 ∨ k = 1 ∨ k = 2 ∨ k = 3 ∨ k = 4 ∨ k = 5 ∨ k = 6 ∨ k = 7) with rfl | rfl | rfl | rfl | rfl | rfl | rfl | rfl <;> rfl
    rw [dec_t (by omega)]
    simp only []
    rw [e, some_bind, show (4 : Int) = ((4 : Nat) : Int) from rfl, big_ok (by decide) (by rw [outN_len]; omega), some_bind, w64s k (by omega)]
    rfl
  · unfold hash_Sum_b2
    rw [dec_f (by omega)]
theorem sum_ok4 {l : List UInt8} (h : l.length ≤ 68719470000) : hash_Sum_p l = some (shaF l) := by
  unfold hash_Sum_p
  rw [app_ok (by rw [List.length_cons, List.length_nil]; omega), some_bind, pad_ok h, some_bind, some_bind, show (8 : Int) = ((8 : Nat) : Int) from rfl, big_ok (by decide) (by have := bodyF_le l; omega), some_bind, keys_ok, some_bind]
  rw [show bodyF l ++ beF (i64 (((8 : Nat) : Int) * (((i64 ((l.length : Int)))).toNat : Int))) 8 = msgF l from rfl, chain_ok keysF (msgF_len l) (by have := msgF_le l; omega), some_bind, some_bind, out_ok2]
  rfl
/-! ### Macs -/
theorem mul1 (c : UInt8) : math_bits_Mul_p (i64 ((([c] : List UInt8)).length : Int)) (i64 64) = some ((0 : UInt64), (64 : UInt64)) := by
  rw [show ((([c] : List UInt8)).length : Int) = 1 from rfl]; decide +kernel
theorem rep_step (c : UInt8) {n : Nat} (h0 : 0 < n) (h : n ≤ 32) {r : List UInt8} (hr : r.length = 64 - n) : bytes_Repeat_b0 ((0 : UInt64), (64 : UInt64)) 64 ((n : Int), List.replicate n c ++ r) = some (.inl (((2 * n : Nat) : Int), List.replicate (2 * n) c ++ r.drop n)) := by
  unfold bytes_Repeat_b0
  have e64 : w64 (((64 : UInt64)).toNat : Int) = 64 := by decide
  have hl : (List.replicate n c ++ r).length = 64 := by simp [hr]; omega
  simp only [e64]
  rw [dec_t (by omega), subL_ok (by omega), some_bind, dec_t (by omega), subH_ok (by omega), some_bind]
  have h1 : (List.replicate n c ++ r).drop n = r := by rw [List.drop_left' (by simp)]
  have h2 : (List.replicate n c ++ r).take n = List.replicate n c := by rw [List.take_left' (by simp)]
  rw [h2, hl, show (((n : Int)).toNat) = n from rfl, List.length_replicate]
  have h4 : min n (64 - n) = n := by omega
  rw [h4, w64_of (by omega) (by omega)]
  have h5 : putB (List.replicate n c ++ r) n (List.replicate n c) = List.replicate (2 * n) c ++ r.drop n := by
    unfold putB
    rw [h2, hl, List.length_replicate, h4, List.take_of_length_le (by simp; omega), List.drop_append, List.length_replicate, List.drop_eq_nil_of_le (by simp), List.nil_append, ← List.append_assoc, List.replicate_append_replicate]
    congr 2 <;> omega
  rw [h5]
  congr 4
  omega
theorem rep_ok (c : UInt8) : bytes_Repeat_p [c] 64 = some (List.replicate 64 c) := by
  unfold bytes_Repeat_p
  have e64 : w64 (((64 : UInt64)).toNat : Int) = 64 := by decide
  rw [cond_f (by rfl), dec_f (by decide), mul1, some_bind]
  simp only [e64]
  rw [cond_f (by decide), cond_f (by rfl), dec_f (by decide), some_bind, chk_ok (by decide), some_bind]
  refine anyJ_intro fun jk hj => ?_
  have hj' : jk.length = 64 := hj
  have h0 : putB jk 0 [c] = List.replicate 1 c ++ jk.drop 1 := by
    unfold putB
    rw [hj']; rfl
  have key : iter (bytes_Repeat_b0 ((0 : UInt64), (64 : UInt64)) 64) (((1 : Nat) : Int), List.replicate 1 c ++ jk.drop 1) = some (List.replicate 64 c) := by
    refine iter_run (fun k => (((2 ^ k : Nat) : Int), List.replicate (2 ^ k) c ++ jk.drop (2 ^ k))) 6 (by decide) _ (fun k hk => ?_) ?_
    · have hp : 2 ^ k ≤ 32 := by rcases (by omega : k = 0 ∨ k = 1 ∨ k = 2 ∨ k = 3 ∨ k = 4 ∨ k = 5) with rfl | rfl | rfl | rfl | rfl | rfl <;> decide
      rw [rep_step c (Nat.pos_of_ne_zero (by simp)) hp (by rw [List.length_drop, hj']), List.drop_drop, ← Nat.two_mul, Nat.pow_succ, Nat.mul_comm]
    · unfold bytes_Repeat_b0
      simp only [e64]
      rw [dec_f (by decide), List.drop_eq_nil_of_le (by rw [hj']; decide), List.append_nil]
  rw [show (((min (([c] : List UInt8)).length (jk.length - 0) : Nat)) : Int) = ((1 : Nat) : Int) by rw [hj']; rfl, h0, key]; rfl
/-- A key's bytes laid over 64 of one kind. -/
def overF (c : UInt8) (key : List UInt8) : Nat → List UInt8
  | 0 => List.replicate 64 c
  | k + 1 => (overF c key k).set k ((overF c key k).getD k 0 ^^^ key.getD k 0)
theorem overF_len (c : UInt8) (key : List UInt8) : ∀ k, (overF c key k).length = 64
  | 0 => by simp [overF]
  | k + 1 => by rw [overF, List.length_set, overF_len c key k]
theorem idxD {l : List UInt8} {k : Nat} (h : k < l.length) : idx l (k : Int) = some (l.getD k 0) := by
  rw [idx_ok rfl h, List.getD_eq_getElem?_getD, List.getElem?_eq_getElem h]; rfl
theorem setL_ok {l : List UInt8} {k : Nat} {u : UInt8} (h : k < l.length) : setL l (k : Int) u = some (l.set k u) := by
  unfold setL
  rw [show (decide (0 ≤ (k : Int)) && decide ((k : Int) < (l.length : Int))) = true by simp; exact h]; rfl
theorem over_ok {key : List UInt8} (h : key.length ≤ 64) : iter (hash_Mac_b0 key) (0, List.replicate 64 (92 : UInt8), List.replicate 64 (54 : UInt8)) = some (overF 92 key key.length, overF 54 key key.length) := by
  refine iter_run (fun k => ((k : Int), overF 92 key k, overF 54 key k)) key.length (by omega) _ (fun k hk => ?_) ?_
  · unfold hash_Mac_b0
    rw [dec_t (by omega)]
    simp only []
    have hi : k < (overF 54 key k).length := by rw [overF_len]; omega
    have ho : k < (overF 92 key k).length := by rw [overF_len]; omega
    rw [idxD hi, some_bind, idxD hk, some_bind, some_bind, setL_ok hi, some_bind, idxD ho, some_bind, some_bind, some_bind, setL_ok ho, some_bind, w64s k (by omega)]
    rfl
  · unfold hash_Mac_b0
    rw [dec_f (by omega)]
def keyF (key : List UInt8) : List UInt8 := bif decide (64 < key.length) then shaF key else key
def macF (key s : List UInt8) : List UInt8 := shaF (overF 92 (keyF key) (keyF key).length ++ shaF (overF 54 (keyF key) (keyF key).length ++ s))
theorem keyF_len (key : List UInt8) : (keyF key).length ≤ 64 := by
  unfold keyF
  by_cases h : 64 < key.length
  · rw [dec_t h, shaF_len]; decide
  · rw [dec_f h]; omega
theorem macF_len (key s : List UInt8) : (macF key s).length = 32 := shaF_len _
theorem mac_ok4 {key s : List UInt8} (hk : key.length ≤ 68719470000) (hs : s.length ≤ 68719460000) : hash_Mac_p key s = some (macF key s) := by
  unfold hash_Mac_p
  have e : (bif decide ((64 : Int) < ((key).length : Int)) then (Option.bind (hash_Sum_p key) fun y1 => some (y1)) else (some (key))) = some (keyF key) := by
    unfold keyF
    by_cases h : 64 < key.length
    · rw [dec_t (by omega), dec_t h, sum_ok4 hk]; rfl
    · rw [dec_f (by omega), dec_f h]
  have l2 := overF_len 92 (keyF key) (keyF key).length
  have l1 := overF_len 54 (keyF key) (keyF key).length
  have hi : (overF 54 (keyF key) (keyF key).length ++ s).length ≤ 68719470000 := by rw [List.length_append, l1]; omega
  have ho : (overF 92 (keyF key) (keyF key).length ++ shaF (overF 54 (keyF key) (keyF key).length ++ s)).length ≤ 68719470000 := by rw [List.length_append, l2, shaF_len]; omega
  rw [e, some_bind, rep_ok, some_bind, rep_ok, some_bind, over_ok (keyF_len key), some_bind, some_bind, app_ok (by rw [← List.length_append]; show (overF 54 (keyF key) (keyF key).length ++ s).length ≤ _; omega), some_bind, sum_ok4 hi, some_bind, app_ok (by rw [← List.length_append]; show (overF 92 (keyF key) (keyF key).length ++ shaF (overF 54 (keyF key) (keyF key).length ++ s)).length ≤ _; omega), some_bind, sum_ok4 ho]
  rfl
end Go.Proofs.Ytmbcolbbekbccaa
