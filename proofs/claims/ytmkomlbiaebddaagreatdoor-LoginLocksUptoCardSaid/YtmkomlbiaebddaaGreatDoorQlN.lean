/- The law 'seneschallaw15.LoginLocks' holds of every input whose arguments hold together at most 1048576 values and letters, and its card. Conditions: the row's listed tables hold what the program's text lays; the arguments' bulk is at most 1048576. -/
import Derived.KernelRfl
import Derived.Test.YtmkomlbiaebddaaGreatDoorRows
import Derived.Test.YtmkomlbiaebddaaGreatDoorTie
import Derived.Test.YtmkomlbiaebddaaGreatDoorCards
import Derived.ProofKit
import Derived.OpenShut
import Derived.Carry
import Derived.JoinedCond
import Derived.ChangeMaps5
import Derived.Deep.SlicePairs
import Derived.Deep.DeepHandedRow
import Derived.Lib.LaidTab
import Derived.SevenTiedAt
import Derived.Stop.LaidErr
import Derived.Test.YtmkomlbiaebddaaGreatDoorQlM
namespace Go.Proofs.YtmkomlbiaebddaaGreatDoor
open Go Go.RowKit
theorem i8n {n : Nat} {x : Int} (h : x = (n : Int)) : (i8 x).toNat = n % 256 := by subst h; simp [i8]; omega
theorem i32n {n : Nat} {x : Int} (h : x = (n : Int)) : (i32 x).toNat = n % 4294967296 := by subst h; simp [i32]; omega
theorem i64n {n : Nat} {x : Int} (h : x = (n : Int)) : (i64 x).toNat = n % 18446744073709551616 := by subst h; simp [i64]; omega
theorem shr64n (a : Nat) {k : Nat} (hk : k ≤ 64) : shrI .u64 (a : Int) (k : Int) = ((a / 2 ^ k : Nat) : Int) := by
 unfold shrI
 rw [show min ((k : Int)).toNat IntKind.u64.bits = k by show min k 64 = k; omega]; exact fdiv_pow k
theorem shr32n (a : Nat) {k : Nat} (hk : k ≤ 32) : shrI .u32 (a : Int) (k : Int) = ((a / 2 ^ k : Nat) : Int) := by
 unfold shrI
 rw [show min ((k : Int)).toNat IntKind.u32.bits = k by show min k 32 = k; omega]; exact fdiv_pow k
theorem byF_n (x : UInt64) {i : Nat} (hi : i ≤ 8) : (byF x i).toNat = x.toNat / 2 ^ (8 * i) % 256 := by
 unfold byF
 rw [i8n rfl, i64n (shr64n x.toNat (by omega))]
 have : x.toNat / 2 ^ (8 * i) ≤ x.toNat := Nat.div_le_self _ _
 have := x.toNat_lt
 rw [Nat.mod_eq_of_lt (a := x.toNat / 2 ^ (8 * i)) (by omega)]
theorem four_n (x : UInt32) : r4_four_p x = some (beF (i64 (x.toNat : Int)) 4) := by
 unfold r4_four_p
 have hx := x.toNat_lt
 have e64 : (i64 (x.toNat : Int)).toNat = x.toNat := by rw [i64n rfl]; omega
 have b : ∀ k : Nat, k ≤ 32 → (i8 (((i32 (shrI .u32 ((x).toNat : Int) (k : Int)))).toNat : Int)).toNat = x.toNat / 2 ^ k % 256 := fun k hk => by
  rw [i8n rfl, i32n (shr32n x.toNat hk)]
  have : x.toNat / 2 ^ k ≤ x.toNat := Nat.div_le_self _ _
  rw [Nat.mod_eq_of_lt (a := x.toNat / 2 ^ k) (by omega)]
 have e : ∀ (k i : Nat), k = 8 * i → k ≤ 24 → i8 (((i32 (shrI .u32 ((x).toNat : Int) (k : Int)))).toNat : Int) = byF (i64 (x.toNat : Int)) i := fun k i h hk => by
  apply UInt8.toNat_inj.1
  rw [b k (by omega), byF_n _ (by omega), e64, h]
 have e0 : i8 ((x).toNat : Int) = byF (i64 (x.toNat : Int)) 0 := by
  apply UInt8.toNat_inj.1
  rw [i8n rfl, byF_n _ (by omega), e64]; simp
 simp only [beF]
 rw [show (24 : Int) = ((24 : Nat) : Int) from rfl, show (16 : Int) = ((16 : Nat) : Int) from rfl, show (8 : Int) = ((8 : Nat) : Int) from rfl, e 24 3 rfl (by decide), e 16 2 rfl (by decide), e 8 1 rfl (by decide), e0]
theorem beF_two (n : UInt64) : beF (i64 (((i32 (((i64 (shrI .u64 ((n).toNat : Int) 32))).toNat : Int))).toNat : Int)) 4 ++ beF (i64 (((i32 (((n &&& (4294967295 : UInt64))).toNat : Int))).toNat : Int)) 4 = beF n 8 := by
 have hn := n.toNat_lt
 have h1 : (i64 (((i32 (((i64 (shrI .u64 ((n).toNat : Int) 32))).toNat : Int))).toNat : Int)).toNat = n.toNat / 4294967296 := by
  rw [i64n rfl, i32n rfl, show (32 : Int) = ((32 : Nat) : Int) from rfl, i64n (shr64n n.toNat (by decide))]; omega
 have h2 : (i64 (((i32 (((n &&& (4294967295 : UInt64))).toNat : Int))).toNat : Int)).toNat = n.toNat % 4294967296 := by
  rw [i64n rfl, i32n rfl, UInt64.toNat_and, show (4294967295 : UInt64).toNat = 2 ^ 32 - 1 from rfl, Nat.and_two_pow_sub_one_eq_mod]; omega
 have k1 : ∀ i, i ≤ 3 → byF (i64 (((i32 (((i64 (shrI .u64 ((n).toNat : Int) 32))).toNat : Int))).toNat : Int)) i = byF n (4 + i) := fun i hi => by
  apply UInt8.toNat_inj.1
  rw [byF_n _ (by omega), byF_n _ (by omega), h1]
  rcases (by omega : i = 0 ∨ i = 1 ∨ i = 2 ∨ i = 3) with rfl | rfl | rfl | rfl <;> simp only [Nat.reduceMul, Nat.reduceAdd, Nat.reducePow] <;> omega
 have k2 : ∀ i, i ≤ 3 → byF (i64 (((i32 (((n &&& (4294967295 : UInt64))).toNat : Int))).toNat : Int)) i = byF n i := fun i hi => by
  apply UInt8.toNat_inj.1
  rw [byF_n _ (by omega), byF_n _ (by omega), h2]
  rcases (by omega : i = 0 ∨ i = 1 ∨ i = 2 ∨ i = 3) with rfl | rfl | rfl | rfl <;> simp only [Nat.reduceMul, Nat.reduceAdd, Nat.reducePow] <;> omega
 simp only [beF]
 rw [k1 3 (by decide), k1 2 (by decide), k1 1 (by decide), k1 0 (by decide), k2 3 (by decide), k2 2 (by decide), k2 1 (by decide), k2 0 (by decide)]; rfl
theorem shl32n (a : Nat) {k : Nat} (hk : k ≤ 32) : (i32 (shlI .u32 (a : Int) (k : Int))).toNat = a * 2 ^ k % 4294967296 := by
 rw [i32n (n := a * 2 ^ k % 4294967296)]
 ·exact Nat.mod_mod _ _
 ·unfold shlI
  rw [show min ((k : Int)).toNat IntKind.u32.bits = k by show min k 32 = k; omega, i32_wrap, show (a : Int) * 2 ^ k = ((a * 2 ^ k : Nat) : Int) by simp, i32n rfl]
theorem shl64n (a : Nat) {k : Nat} (hk : k ≤ 64) : (i64 (shlI .u64 (a : Int) (k : Int))).toNat = a * 2 ^ k % 18446744073709551616 := by
 rw [i64n (n := a * 2 ^ k % 18446744073709551616)]
 ·exact Nat.mod_mod _ _
 ·unfold shlI
  rw [show min ((k : Int)).toNat IntKind.u64.bits = k by show min k 64 = k; omega, i64_wrap, show (a : Int) * 2 ^ k = ((a * 2 ^ k : Nat) : Int) by simp, i64n rfl]
theorem or_add (k : Nat) {a b : Nat} (h : b < 2 ^ k) : a * 2 ^ k ||| b = a * 2 ^ k + b := by rw [Nat.mul_comm]; exact (Nat.two_pow_add_eq_or_of_lt h a).symm
theorem val_step (s : UInt64) (b : UInt8) (h : s.toNat < 2 ^ 56) : ((i64 (shlI .u64 (s.toNat : Int) 8)) ||| (i64 (b.toNat : Int))).toNat = s.toNat * 256 + b.toNat := by
 have hb := b.toNat_lt
 rw [UInt64.toNat_or, show (8 : Int) = ((8 : Nat) : Int) from rfl, shl64n _ (by decide), i64n rfl, Nat.mod_eq_of_lt (a := s.toNat * 2 ^ 8) (by omega), Nat.mod_eq_of_lt (a := b.toNat) (by omega), or_add 8 (by omega)]
theorem word_ok (a b c d : UInt8) : ((((i32 (shlI .u32 (((i32 ((a).toNat : Int))).toNat : Int) 24)) ||| (i32 (shlI .u32 (((i32 ((b).toNat : Int))).toNat : Int) 16))) ||| (i32 (shlI .u32 (((i32 ((c).toNat : Int))).toNat : Int) 8))) ||| (i32 ((d).toNat : Int))) = i32 (((valF [a, b, c, d]).toNat : Int)) := by
 have ha := a.toNat_lt; have hb := b.toNat_lt; have hc := c.toNat_lt; have hd := d.toNat_lt
 apply UInt32.toNat_inj.1
 have h0 : ∀ x : UInt8, (i32 ((x).toNat : Int)).toNat = x.toNat := fun x => by have := x.toNat_lt; rw [i32n rfl]; omega
 rw [UInt32.toNat_or, UInt32.toNat_or, UInt32.toNat_or, show (24 : Int) = ((24 : Nat) : Int) from rfl, show (16 : Int) = ((16 : Nat) : Int) from rfl, show (8 : Int) = ((8 : Nat) : Int) from rfl, shl32n _ (by decide), shl32n _ (by decide), shl32n _ (by decide), h0, h0, h0, h0, i32n rfl]
 have e1 : (valF [a, b, c, d]).toNat = ((a.toNat * 256 + b.toNat) * 256 + c.toNat) * 256 + d.toNat := by
  unfold valF
  simp only [List.foldl_cons, List.foldl_nil]
  have z : (0 : UInt64).toNat = 0 := rfl
  rw [val_step _ d (by rw [val_step _ c (by rw [val_step _ b (by rw [val_step _ a (by rw [z]; decide), z]; omega), val_step _ a (by rw [z]; decide), z]; omega), val_step _ b (by rw [val_step _ a (by rw [z]; decide), z]; omega), val_step _ a (by rw [z]; decide), z]; omega), val_step _ c (by rw [val_step _ b (by rw [val_step _ a (by rw [z]; decide), z]; omega), val_step _ a (by rw [z]; decide), z]; omega), val_step _ b (by rw [val_step _ a (by rw [z]; decide), z]; omega), val_step _ a (by rw [z]; decide), z]; omega
 rw [e1, Nat.mod_eq_of_lt (a := a.toNat * 2 ^ 24) (by omega), Nat.mod_eq_of_lt (a := b.toNat * 2 ^ 16) (by omega), Nat.mod_eq_of_lt (a := c.toNat * 2 ^ 8) (by omega)]
 rw [or_add 24 (b := b.toNat * 2 ^ 16) (by omega), show a.toNat * 2 ^ 24 + b.toNat * 2 ^ 16 = (a.toNat * 2 ^ 8 + b.toNat) * 2 ^ 16 by omega, or_add 16 (b := c.toNat * 2 ^ 8) (by omega), show (a.toNat * 2 ^ 8 + b.toNat) * 2 ^ 16 + c.toNat * 2 ^ 8 = ((a.toNat * 2 ^ 8 + b.toNat) * 2 ^ 8 + c.toNat) * 2 ^ 8 by omega, or_add 8 (by omega)]
 omega
def l8 (s : St8) : List UInt32 := [s.1, s.2.1, s.2.2.1, s.2.2.2.1, s.2.2.2.2.1, s.2.2.2.2.2.1, s.2.2.2.2.2.2.1, s.2.2.2.2.2.2.2]
theorem setL32_ok {l : List UInt32} {k : Nat} {u : UInt32} (h : k < l.length) : setL l (k : Int) u = some (l.set k u) := by
 unfold setL
 rw [show (decide (0 ≤ (k : Int)) && decide ((k : Int) < (l.length : Int))) = true by simp; exact h]; rfl
theorem rorR (x : UInt32) (n : Nat) (hn : n ≤ 32) : r4_ror_p x (n : Int) = some (rr x n) := by
 unfold r4_ror_p
 have e : w64 ((32 : Int) - (n : Int)) = ((32 - n : Nat) : Int) := by rw [w64_of (by omega) (by omega)]; omega
 rw [chk_ok (decide_eq_true (by omega)), some_bind, e, chk_ok (decide_eq_true (by omega)), some_bind, rr, UInt32.or_comm]
theorem R_b3 {b : List UInt8} {j : Nat} (h : 64 * (j + 1) ≤ b.length) (hl : b.length ≤ 68719476736) (s : List UInt32) :
  iter (r4_sum_b3 b (((64 * j : Nat) : Int), s)) (0, List.replicate 64 (0 : UInt32)) = some (W1 ((b.drop (64 * j)).take 64) 16).l := by
 refine iter_run (fun k => ((k : Int), (W1 ((b.drop (64 * j)).take 64) k).l)) 16 (by decide) _ (fun k hk => ?_) ?_
 ·unfold r4_sum_b3
  have e1 : w64 ((4 : Int) * (k : Int)) = ((4 * k : Nat) : Int) := w64_of (by omega) (by omega)
  have e2 : w64 (((64 * j : Nat) : Int) + ((4 * k : Nat) : Int)) = ((64 * j + 4 * k : Nat) : Int) := by rw [w64_of (by omega) (by omega)]; omega
  have e3 : ∀ c : Nat, c ≤ 3 → w64 (((64 * j + 4 * k : Nat) : Int) + (c : Int)) = ((64 * j + 4 * k + c : Nat) : Int) := fun c hc => by rw [w64_of (by omega) (by omega)]; omega
  have hw := (W1 ((b.drop (64 * j)).take 64) k).h
  rw [dec_t (by omega)]
  simp only [e1, e2]
  rw [show (1 : Int) = ((1 : Nat) : Int) from rfl, show (2 : Int) = ((2 : Nat) : Int) from rfl, show (3 : Int) = ((3 : Nat) : Int) from rfl, e3 1 (by decide), e3 2 (by decide), e3 3 (by decide)]
  rw [idx_ok (l := b) rfl (by omega), some_bind, idx_ok (l := b) rfl (by omega), some_bind, idx_ok (l := b) rfl (by omega), some_bind, idx_ok (l := b) rfl (by omega), some_bind, idxV_ok rfl (by omega), some_bind, setL32_ok (by rw [hw]; omega), some_bind, word_ok, show ((1 : Nat) : Int) = 1 from rfl, w64s k (by omega)]
  have hd : (((b.drop (64 * j)).take 64).take (4 * k + 4)).drop (4 * k) = [b[64 * j + 4 * k]'(by omega), b[64 * j + 4 * k + 1]'(by omega), b[64 * j + 4 * k + 2]'(by omega), b[64 * j + 4 * k + 3]'(by omega)] := by
   apply List.ext_getElem
   ·simp only [List.length_drop, List.length_take, List.length_cons, List.length_nil]; omega
   ·intro i h1 h2
    simp only [List.length_cons, List.length_nil] at h2
    rcases (by omega : i = 0 ∨ i = 1 ∨ i = 2 ∨ i = 3) with rfl | rfl | rfl | rfl <;> simp [List.getElem_drop, List.getElem_take, Nat.add_assoc]
  simp only [W1, hd, vset]
 ·unfold r4_sum_b3
  rw [dec_f (by omega)]
theorem R_b4 (w : Vec UInt32 64) : iter r4_sum_b4 (16, w.l) = some (W2 w 48).l := by
 refine iter_run (fun k => (((16 + k : Nat) : Int), (W2 w k).l)) 48 (by decide) _ (fun k hk => ?_) ?_
 ·unfold r4_sum_b4
  have e : ∀ (a : Int) (b : Nat), a = (b : Int) → b < 64 → w64 a = (b : Int) := fun a b e h => by rw [e]; exact w64n (by omega)
  have hw := (W2 w k).h
  rw [dec_t (by omega)]
  simp only [e (((16 + k : Nat) : Int) - 15) (k + 1) (by omega) (by omega), e (((16 + k : Nat) : Int) - 2) (k + 14) (by omega) (by omega), e (((16 + k : Nat) : Int) - 16) k (by omega) (by omega), e (((16 + k : Nat) : Int) - 7) (k + 9) (by omega) (by omega)]
  simp only [idxV_ok (x := W2 w k) (i := k + 1) rfl (by omega), idxV_ok (x := W2 w k) (i := k + 14) rfl (by omega), idxV_ok (x := W2 w k) (i := k) rfl (by omega), idxV_ok (x := W2 w k) (i := k + 9) rfl (by omega), idxV_ok (x := W2 w k) (i := 16 + k) rfl (by omega), some_bind]
  rw [show (7 : Int) = ((7 : Nat) : Int) from rfl, show (18 : Int) = ((18 : Nat) : Int) from rfl, show (17 : Int) = ((17 : Nat) : Int) from rfl, show (19 : Int) = ((19 : Nat) : Int) from rfl, rorR _ 7 (by decide), some_bind, rorR _ 18 (by decide), some_bind, rorR _ 17 (by decide), some_bind, rorR _ 19 (by decide), some_bind, setL32_ok (by rw [hw]; omega), some_bind, w64s (16 + k) (by omega)]
  rfl
 ·unfold r4_sum_b4
  rw [dec_f (by omega)]
theorem R_b5 (K w : Vec UInt32 64) (s : St8) : iter (r4_sum_b5 K.l w.l) (l8 s, 0) = some (l8 (R3 K w s 64)) := by
 refine iter_run (fun k => (l8 (R3 K w s k), (k : Int))) 64 (by decide) _ (fun k hk => ?_) ?_
 ·unfold r4_sum_b5
  rw [dec_t (by omega)]
  have i0 : ∀ t : St8, idx (l8 t) 0 = some t.1 := fun _ => rfl
  have i1 : ∀ t : St8, idx (l8 t) 1 = some t.2.1 := fun _ => rfl
  have i2 : ∀ t : St8, idx (l8 t) 2 = some t.2.2.1 := fun _ => rfl
  have i3 : ∀ t : St8, idx (l8 t) 3 = some t.2.2.2.1 := fun _ => rfl
  have i4 : ∀ t : St8, idx (l8 t) 4 = some t.2.2.2.2.1 := fun _ => rfl
  have i5 : ∀ t : St8, idx (l8 t) 5 = some t.2.2.2.2.2.1 := fun _ => rfl
  have i6 : ∀ t : St8, idx (l8 t) 6 = some t.2.2.2.2.2.2.1 := fun _ => rfl
  have i7 : ∀ t : St8, idx (l8 t) 7 = some t.2.2.2.2.2.2.2 := fun _ => rfl
  have r6 : ∀ x, r4_ror_p x 6 = some (rr x 6) := fun x => rorR x 6 (by decide)
  have r11 : ∀ x, r4_ror_p x 11 = some (rr x 11) := fun x => rorR x 11 (by decide)
  have r25 : ∀ x, r4_ror_p x 25 = some (rr x 25) := fun x => rorR x 25 (by decide)
  have r2 : ∀ x, r4_ror_p x 2 = some (rr x 2) := fun x => rorR x 2 (by decide)
  have r13 : ∀ x, r4_ror_p x 13 = some (rr x 13) := fun x => rorR x 13 (by decide)
  have r22 : ∀ x, r4_ror_p x 22 = some (rr x 22) := fun x => rorR x 22 (by decide)
  simp only [i0, i1, i2, i3, i4, i5, i6, i7, r6, r11, r25, r2, r13, r22, some_bind, idxV_ok (x := K) (i := k) rfl hk, idxV_ok (x := w) (i := k) rfl hk]
  rw [w64s k (by omega)]
  rfl
 ·unfold r4_sum_b5
  rw [dec_f (by omega)]
theorem ad8_comm (a b : UInt32) : ad8 a b = ad8 b a := by unfold ad8; rw [Int.add_comm]
def pt8' (v s : St8) (k : Nat) : St8 := (if 0 < k then ad8 s.1 v.1 else s.1, if 1 < k then ad8 s.2.1 v.2.1 else s.2.1, if 2 < k then ad8 s.2.2.1 v.2.2.1 else s.2.2.1, if 3 < k then ad8 s.2.2.2.1 v.2.2.2.1 else s.2.2.2.1, if 4 < k then ad8 s.2.2.2.2.1 v.2.2.2.2.1 else s.2.2.2.2.1, if 5 < k then ad8 s.2.2.2.2.2.1 v.2.2.2.2.2.1 else s.2.2.2.2.2.1, if 6 < k then ad8 s.2.2.2.2.2.2.1 v.2.2.2.2.2.2.1 else s.2.2.2.2.2.2.1, if 7 < k then ad8 s.2.2.2.2.2.2.2 v.2.2.2.2.2.2.2 else s.2.2.2.2.2.2.2)
theorem R_b6 (v s : St8) : iter (r4_sum_b6 (l8 v)) (0, l8 s) = some (l8 (add8 v s)) := by
 have : l8 (add8 v s) = l8 (pt8' v s 8) := by simp only [add8, ad8_comm v.1, ad8_comm v.2.1, ad8_comm v.2.2.1, ad8_comm v.2.2.2.1, ad8_comm v.2.2.2.2.1, ad8_comm v.2.2.2.2.2.1, ad8_comm v.2.2.2.2.2.2.1, ad8_comm v.2.2.2.2.2.2.2]; rfl
 rw [this]
 refine iter_run (fun k => ((k : Int), l8 (pt8' v s k))) 8 (by decide) _ (fun k hk => ?_) ?_
 ·rcases (by omega : k = 0 ∨ k = 1 ∨ k = 2 ∨ k = 3 ∨ k = 4 ∨ k = 5 ∨ k = 6 ∨ k = 7) with rfl | rfl | rfl | rfl | rfl | rfl | rfl | rfl <;> rfl
 ·rfl
theorem R_b2 (K : Vec UInt32 64) {b : List UInt8} (h : b.length % 64 = 0) (hl : b.length ≤ 68719476736) :
  iter (r4_sum_b2 K.l b) (0, l8 ini8) = some (l8 (chainF K b (b.length / 64))) := by
 refine iter_run (fun k => (((64 * k : Nat) : Int), l8 (chainF K b k))) (b.length / 64) (by omega) _ (fun k hk => ?_) ?_
 ·unfold r4_sum_b2
  have hz : mkL 64 (0 : UInt32) = some (List.replicate 64 0) := mkL_ok (n := 64) (by decide)
  have ha : app ([] : List UInt32) (l8 (chainF K b k)) = some (l8 (chainF K b k)) := app_ok (a := []) (by simp [l8])
  rw [dec_t (by omega)]
  simp only []
  rw [hz, some_bind, R_b3 (by omega) hl, some_bind, some_bind, R_b4, some_bind, some_bind, ha, some_bind, R_b5, some_bind, some_bind, R_b6, some_bind, some_bind, w64_of (by omega) (by omega)]
  rw [show ((64 * k : Nat) : Int) + 64 = ((64 * (k + 1) : Nat) : Int) by omega]
  rfl
 ·unfold r4_sum_b2
  rw [dec_f (by omega)]
theorem R_b7 (s : St8) : iter (r4_sum_b7 (l8 s)) (0, ([] : List UInt8)) = some (outF s) := by
 rw [← outF_eq]
 refine iter_run (fun k => ((k : Int), outN s k)) 8 (by decide) _ (fun k hk => ?_) ?_
 ·unfold r4_sum_b7
  have e : idx (l8 s) (k : Int) = some (at8 s k) := by
   rcases (by omega : k = 0 ∨ k = 1 ∨ k = 2 ∨ k = 3 ∨ k = 4 ∨ k = 5 ∨ k = 6 ∨ k = 7) with rfl | rfl | rfl | rfl | rfl | rfl | rfl | rfl <;> rfl
  rw [dec_t (by omega), e, some_bind, four_n, some_bind, app_ok (by rw [outN_len, beF_len]; omega), some_bind, w64s k (by omega)]
  rfl
 ·unfold r4_sum_b7
  rw [dec_f (by omega)]
theorem R_ini : (Option.bind (r4_Primes_p 8) fun y8 => iter (r4_sum_b1 y8) ((0, List.replicate 8 (0 : UInt32)))) = some (l8 ini8) := of_decide_eq_true (by kernel_rfl)
def prL : List UInt64 := [2, 3, 5, 7, 11, 13, 17, 19, 23, 29, 31, 37, 41, 43, 47, 53, 59, 61, 67, 71, 73, 79, 83, 89, 97, 101, 103, 107, 109, 113, 127, 131, 137, 139, 149, 151, 157, 163, 167, 173, 179, 181, 191, 193, 197, 199, 211, 223, 227, 229, 233, 239, 241, 251, 257, 263, 269, 271, 277, 281, 283, 293, 307, 311]
theorem R_pr : r4_Primes_p 64 = some prL := of_decide_eq_true (by kernel_rfl)
def rkB (a : Nat) : Bool := (List.range 8).all fun i => r4_Root_p (prL.getD (a + i) 0) 3 == some (keysF.l.getD (a + i) 0)
theorem rk0 : rkB (8 * 0) = true := by kernel_rfl
theorem rk1 : rkB (8 * 1) = true := by kernel_rfl
theorem rk2 : rkB (8 * 2) = true := by kernel_rfl
theorem rk3 : rkB (8 * 3) = true := by kernel_rfl
theorem rk4 : rkB (8 * 4) = true := by kernel_rfl
theorem rk5 : rkB (8 * 5) = true := by kernel_rfl
theorem rk6 : rkB (8 * 6) = true := by kernel_rfl
theorem rk7 : rkB (8 * 7) = true := by kernel_rfl
theorem R_root {i : Nat} (h : i < 64) : r4_Root_p (prL.getD i 0) 3 = some (keysF.l.getD i 0) := by
 have key : ∀ a j, rkB a = true → j < 8 → r4_Root_p (prL.getD (a + j) 0) 3 = some (keysF.l.getD (a + j) 0) := fun a j ha hj =>
  eq_of_beq (List.all_eq_true.1 ha j (List.mem_range.2 hj))
 have e : i = 8 * (i / 8) + i % 8 := by omega
 rw [e]
 refine key _ _ ?_ (Nat.mod_lt _ (by decide))
 rcases (by omega : i / 8 = 0 ∨ i / 8 = 1 ∨ i / 8 = 2 ∨ i / 8 = 3 ∨ i / 8 = 4 ∨ i / 8 = 5 ∨ i / 8 = 6 ∨ i / 8 = 7) with h | h | h | h | h | h | h | h <;> rw [h]
 ·exact rk0
 ·exact rk1
 ·exact rk2
 ·exact rk3
 ·exact rk4
 ·exact rk5
 ·exact rk6
 ·exact rk7
theorem R_keys : r4_Keys_p = some keysF.l := by
 unfold r4_Keys_p
 have hl : keysF.l.length = 64 := keysF.h
 have hp : prL.length = 64 := rfl
 have key : iter (r4_Keys_b0 prL) (0, ([] : List UInt32)) = some keysF.l := by
  refine iter_run (fun k => ((k : Int), keysF.l.take k)) 64 (by decide) _ (fun k hk => ?_) ?_
  ·unfold r4_Keys_b0
   have h1 := R_root hk
   rw [List.getD_eq_getElem?_getD, List.getElem?_eq_getElem (by omega), List.getD_eq_getElem?_getD, List.getElem?_eq_getElem (by omega), Option.getD_some, Option.getD_some] at h1
   rw [dec_t (by omega), idx_ok rfl (by omega), some_bind, h1, some_bind, app_ok (by rw [List.length_take, List.length_cons, List.length_nil]; omega), some_bind, w64s k (by omega), take_succ (by omega)]
  ·unfold r4_Keys_b0
   rw [dec_f (by omega), List.take_of_length_le (by omega)]
 rw [R_pr, some_bind, key]; rfl
theorem sumR4 {l : List UInt8} (h : l.length ≤ 68719470000) : r4_sum_p l keysF.l = some (shaF l) := by
 unfold r4_sum_p
 have hp : iter r4_sum_b0 (l ++ [128]) = some (bodyF l) := pad_ok h
 have hb := bodyF_le l
 have hz : mkL 8 (0 : UInt32) = some (List.replicate 8 0) := mkL_ok (n := 8) (by decide)
 obtain ⟨pr, h8, hi⟩ := Option.bind_eq_some_iff.1 R_ini
 rw [app_ok (by rw [List.length_cons, List.length_nil]; omega), some_bind, hp, some_bind, some_bind, four_n, some_bind, app_ok (by rw [beF_len]; omega), some_bind, four_n, some_bind, app_ok (by rw [List.length_append, beF_len, beF_len]; omega), some_bind, List.append_assoc, beF_two, hz, some_bind, h8, some_bind, hi, some_bind, some_bind]
 rw [show bodyF l ++ beF (i64 ((8 : Int) * (((i64 ((l.length : Int)))).toNat : Int))) 8 = msgF l from rfl, R_b2 keysF (msgF_len l) (by have := msgF_le l; omega), some_bind, some_bind, R_b7]
 rfl
def padX (x : UInt8) (l : List UInt8) : Nat → List UInt8
 | 0 => l
 | k + 1 => (padX x l k).set k ((padX x l k).getD k 0 ^^^ x)
theorem padX_len (x : UInt8) (l : List UInt8) : ∀ k, (padX x l k).length = l.length
 | 0 => rfl
 | k + 1 => by rw [padX, List.length_set, padX_len x l k]
theorem padX_at (x : UInt8) (l : List UInt8) (i : Nat) (hi : i < l.length) : ∀ k, (padX x l k).getD i 0 = if i < k then l.getD i 0 ^^^ x else l.getD i 0
 | 0 => by simp [padX]
 | k + 1 => by
  have hl := padX_len x l k
  rw [padX, List.getD_eq_getElem?_getD, List.getElem?_set]
  by_cases h : k = i
  ·subst h
   have := padX_at x l k hi k
   rw [if_neg (by omega)] at this
   rw [if_pos rfl, if_pos (by omega), if_pos (by omega), Option.getD_some, this]
  ·rw [if_neg h, ← List.getD_eq_getElem?_getD, padX_at x l i hi k]
   by_cases h2 : i < k
   ·rw [if_pos h2, if_pos (by omega)]
   ·rw [if_neg h2, if_neg (by omega)]
theorem overF_at (c : UInt8) (key : List UInt8) (i : Nat) (hi : i < 64) : ∀ k, (overF c key k).getD i 0 = if i < k then c ^^^ key.getD i 0 else c
 | 0 => by
  rw [overF, List.getD_eq_getElem?_getD, List.getElem?_replicate, if_pos hi, if_neg (Nat.not_lt_zero i)]; rfl
 | k + 1 => by
  have hl := overF_len c key k
  rw [overF, List.getD_eq_getElem?_getD, List.getElem?_set]
  by_cases h : k = i
  ·subst h
   have := overF_at c key k hi k
   rw [if_neg (by omega)] at this
   rw [if_pos rfl, if_pos (by omega), if_pos (by omega), Option.getD_some, this]
  ·rw [if_neg h, ← List.getD_eq_getElem?_getD, overF_at c key i hi k]
   by_cases h2 : i < k
   ·rw [if_pos h2, if_pos (by omega)]
   ·rw [if_neg h2, if_neg (by omega)]
theorem pad_over (c : UInt8) (key : List UInt8) (hk : key.length ≤ 64) : padX c (key ++ List.replicate (64 - key.length) 0) 64 = overF c key key.length := by
 have hl : (key ++ List.replicate (64 - key.length) (0 : UInt8)).length = 64 := by simp; omega
 have h1 := padX_len c (key ++ List.replicate (64 - key.length) (0 : UInt8)) 64
 have h2 := overF_len c key key.length
 apply List.ext_getElem (by rw [h1, h2, hl])
 intro i hi hi2
 rw [h1, hl] at hi
 have e1 := padX_at c (key ++ List.replicate (64 - key.length) (0 : UInt8)) i (by omega) 64
 have e2 := overF_at c key i hi key.length
 rw [List.getD_eq_getElem?_getD, List.getElem?_eq_getElem (by omega), Option.getD_some, if_pos hi] at e1
 rw [List.getD_eq_getElem?_getD, List.getElem?_eq_getElem (by omega), Option.getD_some] at e2
 rw [e1, e2]
 by_cases h : i < key.length
 ·rw [if_pos h, List.getD_eq_getElem?_getD, List.getElem?_append_left h, ← List.getD_eq_getElem?_getD, UInt8.xor_comm]
 ·rw [if_neg h, List.getD_eq_getElem?_getD, List.getElem?_append_right (by omega), List.getElem?_replicate, if_pos (by omega), Option.getD_some]
  simp
theorem paddedR {key : List UInt8} {x : UInt8} (h : key.length ≤ 68719470000) : r4_padded_p key x keysF.l = some (overF x (keyF key) (keyF key).length) := by
 unfold r4_padded_p
 have hk := keyF_len key
 have e : (bif decide ((64 : Int) < ((key).length : Int)) then (Option.bind (r4_sum_p key keysF.l) fun y1 => some (y1)) else (some (key))) = some (keyF key) := by
  unfold keyF
  by_cases h2 : 64 < key.length
  ·rw [dec_t (by omega), dec_t h2, sumR4 h]; rfl
  ·rw [dec_f (by omega), dec_f h2]
 have h0 : iter r4_padded_b0 (keyF key) = some (keyF key ++ List.replicate (64 - (keyF key).length) 0) := by
  have := iter_run (body := r4_padded_b0) (fun k => keyF key ++ List.replicate k (0 : UInt8)) (64 - (keyF key).length) (by omega) (keyF key ++ List.replicate (64 - (keyF key).length) 0) (fun k hk2 => by
   unfold r4_padded_b0
   have hl : (keyF key ++ List.replicate k (0 : UInt8)).length = (keyF key).length + k := by simp
   rw [hl, dec_t (by omega), app_ok (by rw [hl, List.length_cons, List.length_nil]; omega), some_bind, List.append_assoc, ← List.replicate_succ']) (by
   unfold r4_padded_b0
   rw [dec_f (by simp; omega)])
  simpa using this
 rw [e, some_bind, h0, some_bind, some_bind]
 have hl : (keyF key ++ List.replicate (64 - (keyF key).length) (0 : UInt8)).length = 64 := by simp; omega
 rw [← pad_over x (keyF key) hk]
 generalize keyF key ++ List.replicate (64 - (keyF key).length) (0 : UInt8) = L at hl
 have h1 : iter (r4_padded_b1 x) (0, L) = some (padX x L 64) := by
  refine iter_run (fun k => ((k : Int), padX x L k)) 64 (by decide) _ (fun k hk2 => ?_) ?_
  ·unfold r4_padded_b1
   have hp : k < (padX x L k).length := by rw [padX_len]; omega
   rw [dec_t (by omega)]
   simp only []
   rw [idxD hp, some_bind, some_bind, setL8_ok hp, some_bind, w64s k (by omega)]
   rfl
  ·unfold r4_padded_b1
   rw [dec_f (by omega)]
 rw [h1]; rfl
theorem macR {key s : List UInt8} (hk : key.length ≤ 68719470000) (hs : s.length ≤ 68719460000) : r4_Mac_p key s = some (macF key s) := by
 unfold r4_Mac_p r4_mac_p
 have l2 := overF_len 92 (keyF key) (keyF key).length
 have l1 := overF_len 54 (keyF key) (keyF key).length
 have hi : (overF 54 (keyF key) (keyF key).length ++ s).length ≤ 68719470000 := by rw [List.length_append, l1]; omega
 have ho : (overF 92 (keyF key) (keyF key).length ++ shaF (overF 54 (keyF key) (keyF key).length ++ s)).length ≤ 68719470000 := by rw [List.length_append, l2, shaF_len]; omega
 rw [R_keys, some_bind, paddedR hk, some_bind, paddedR hk, some_bind, app_ok (by rw [← List.length_append]; omega), some_bind, sumR4 hi, some_bind, app_ok (by rw [← List.length_append]; omega), some_bind, sumR4 ho]
 rfl
end Go.Proofs.YtmkomlbiaebddaaGreatDoor
namespace Go.Proofs.YtmkomlbiaebddaaGreatDoor.Am
open Go Go.RowKit
section
variable {G : List (Nat × Obj)}
def ref04K : Option (List UInt32) := some keysF.l
def ref04_Keys_pc : PC := ⟨[], [.sl (.i .u32)], fun _ => ref04K, false⟩
theorem ref04_Keys_pk : PCok Tryz.prog G 93 ref04_Keys_pc := by
 refine ⟨isFn Tryz.func93 (by kernel_rfl) (by kernel_rfl), fun S0 w0 us x (y : List UInt32) hG hS ha hy => ?_⟩
 cases ha
 have hy : some keysF.l = some y := hy
 cases hy
 exact (r4_Keys_c hS R_keys).mono fun e w' ⟨hx, v, he, hr⟩ => ⟨hx, v, he, rpL hr, fun h => by cases h⟩
def ref04P (key s : List UInt8) (ks : List UInt32) : Option (List UInt8) := bif decide (ks = keysF.l) then macP key s else none
def ref04_mac_pc : PC := ⟨[.h .s, .h .s, .h (.sl (.i .u32))], [.s], fun x => ref04P x.1 x.2.1 x.2.2, false⟩
theorem macR' {key s : List UInt8} (hk : key.length ≤ 68719470000) (hs : s.length ≤ 68719460000) : r4_mac_p key s keysF.l = some (macF key s) := by
 have h := macR hk hs
 unfold r4_Mac_p at h
 rw [R_keys, some_bind] at h
 cases e : r4_mac_p key s keysF.l with
 | none => rw [e] at h; cases h
 | some v => rw [e] at h; exact h
theorem ref04_mac_pk : PCok Tryz.prog G 94 ref04_mac_pc := by
 refine ⟨isFn Tryz.func94 (by kernel_rfl) (by kernel_rfl), fun S0 w0 us (x : List UInt8 × List UInt8 × List UInt32) (y : List UInt8) hG hS ha hy => ?_⟩
 have ha : A2 (VR S0 []) [svOf .s x.1, svOf .s x.2.1, svOf (.sl (.i .u32)) x.2.2] us := ha
 cases ha with
 | cons q1 q2 =>
  cases q2 with
  | cons q3 q4 =>
   cases q4 with
   | cons q5 q6 =>
    cases q6
    rename_i u
    have q5 : rep (.sl (.i .u32)) S0 [u] x.2.2 := q5
    obtain ⟨u', hu, hr⟩ := q5
    cases hu
    rw [encV_of (t := .s) rfl q1, encV_of (t := .s) rfl q3]
    have hy : ref04P x.1 x.2.1 x.2.2 = some y := hy
    unfold ref04P at hy
    obtain ⟨hb, h⟩ := bif_none hy
    unfold macP at h
    obtain ⟨hc, h⟩ := bif_none h
    simp only [Bool.and_eq_true, decide_eq_true_eq] at hb hc
    cases h
    rw [hb] at hr
    exact (r4_mac_c hS hr (macR' hc.1 hc.2)).mono fun e w' ⟨he, hx⟩ => ⟨hx, _, he, encR_rep (l := [.s]) rfl, fun h => by cases h⟩
end
end Go.Proofs.YtmkomlbiaebddaaGreatDoor.Am
namespace Go.Proofs.YtmkomlbiaebddaaGreatDoor
open Go Go.RowKit
end Go.Proofs.YtmkomlbiaebddaaGreatDoor
namespace Go.Proofs.YtmkomlbiaebddaaGreatDoor.Am
open Go Go.RowKit
def τWkD : TE := [(3, ⟨.int .i64, 1, [.v (.i .i64) (show Int from 0)], (.i .i64), 8⟩),
 (5, ⟨.int .u8, 1, [.v (.i .u8) (show UInt8 from 0)], (.i .u8), 1⟩),
 (9, ⟨.s, 1, [.v .s (show List UInt8 from [])], .s, 16⟩),
 (100, ⟨.sl 5, 1, [.nils], (.sl (.i .u8)), 24⟩),
 (133, ⟨.int .u32, 1, [.v (.i .u32) (show UInt32 from 0)], (.i .u32), 4⟩)]
theorem τ_okWkD : TEok Tryz.prog τWkD := te_ok (by kernel_rfl) (by kernel_rfl)
theorem mixWkD : Tryz.prog.follows .mixedOrders = true := by kernel_rfl
section
variable {tabs : List (Nat × Obj)} [TabOk tabs]
def r4_four_p (v0 : UInt32) : Option (List UInt8) :=
 Option.bind (chk (decide ((0 : Int) ≤ ((24 : UInt64).toNat : Int)))) fun _ => let v1 : UInt8 := i8 ((i32 (shrI .u32 (v0.toNat : Int) ((24 : UInt64).toNat : Int))).toNat : Int)
 Option.bind (chk (decide ((0 : Int) ≤ ((16 : UInt64).toNat : Int)))) fun _ => let v2 : UInt8 := i8 ((i32 (shrI .u32 (v0.toNat : Int) ((16 : UInt64).toNat : Int))).toNat : Int)
 Option.bind (chk (decide ((0 : Int) ≤ ((8 : UInt64).toNat : Int)))) fun _ => let v3 : UInt8 := i8 ((i32 (shrI .u32 (v0.toNat : Int) ((8 : UInt64).toNat : Int))).toNat : Int)
 some ([v1, v2, v3, i8 (v0.toNat : Int)] : List UInt8)
def r4_four_pc : PC := ⟨[(.h (.i .u32))], [(.sl (.i .u8))], fun x => r4_four_p x, false⟩
theorem r4_four_pk : PCok Tryz.prog tabs 95 r4_four_pc := wit (G := tabs) <| fn_pc (η := []) (Γ := ⟨[], [], false⟩) mixWkD τ_okWkD (ctok trivial trivial) Tryz.func95 (isFn Tryz.func95 (by kernel_rfl) (by kernel_rfl)) (by kernel_rfl) rfl (by kernel_rfl)
def r4_Stretch_j0 (v2 : Int) : Option (((List UInt8) × Int) ⊕ Unit) :=
 bif decide (v2 < (1 : Int)) then some (.inl (([] : List UInt8), (40 : Int))) else (bif decide (v2 > (64 : Int)) then some (.inl (([] : List UInt8), (40 : Int))) else some (.inr ()))
def r4_Stretch_j1 (v3 : Int) : Option (((List UInt8) × Int) ⊕ Unit) :=
 bif decide (v3 < (1 : Int)) then some (.inl (([] : List UInt8), (41 : Int))) else (bif decide (v3 > (96 : Int)) then some (.inl (([] : List UInt8), (41 : Int))) else some (.inr ()))
def r4_Stretch_b2 (v20 : List UInt8) (v21 : Int) (v22 : List UInt8) (v23 : List UInt8) : Option ((Int × (List UInt8) × List UInt8) ⊕ (((List UInt8) × List UInt8))) :=
 bif decide (v21 < (32 : Int)) then (Option.bind (chk (decide ((0 : Int) ≤ v21) && decide (v21 < (v23.length : Int)))) fun _ => Option.bind (idx v23 v21) fun v24 => Option.bind (idx v20 v21) fun v25 => Option.bind (chk (decide ((0 : Int) ≤ v21) && decide (v21 < (v23.length : Int)))) fun _ => Option.bind (setL v23 v21 (v24 ^^^ v25)) fun v26 => some (.inl (w64 (v21 + (1 : Int)), v22, v26))) else some (.inr (v22, v23))
def r4_Stretch_b3 (v0 : List UInt8) (v2 : Int) (v10 : List UInt32) (v16 : List UInt8) (v17 : Int) (v18 : List UInt8) (v19 : List UInt8) : Option (((List UInt8) × Int × (List UInt8) × List UInt8) ⊕ (((List UInt8) × List UInt8))) :=
 bif decide (v17 < v2) then (Option.bind (ref04P v0 v16 v10) fun v20 => Option.bind (iter (fun x => r4_Stretch_b2 v20 x.1 x.2.1 x.2.2) ((0 : Int), v18, v19)) fun v27 => some (.inl (v20, w64 (v17 + (1 : Int)), v27))) else some (.inr (v18, v19))
def r4_Stretch_b4 (v0 : List UInt8) (v1 : List UInt8) (v2 : Int) (v3 : Int) (v10 : List UInt32) (v11 : Int) (v12 : List UInt8) : Option ((Int × List UInt8) ⊕ List UInt8) :=
 bif decide ((v12.length : Int) < v3) then (Option.bind (r4_four_p (i32 v11)) fun v13 => Option.bind (app v1 v13) fun v14 => Option.bind (ref04P v0 v14 v10) fun v15 => Option.bind (iter (fun x => r4_Stretch_b3 v0 v2 v10 x.1 x.2.1 x.2.2.1 x.2.2.2) (v15, (1 : Int), v12, v15)) fun v28 => Option.bind (app v28.1 v28.2) fun v29 => some (.inl (w64 (v11 + (1 : Int)), v29))) else some (.inr v12)
def r4_Stretch_p (v0 : List UInt8) (v1 : List UInt8) (v2 : Int) (v3 : Int) : Option ((List UInt8) × Int) :=
 Option.bind (r4_Stretch_j0 v2) fun v4 => match v4 with
 | .inl v5 => (some v5)
 | .inr v6 => (Option.bind (r4_Stretch_j1 v3) fun v7 => match v7 with
 | .inl v8 => (some v8)
 | .inr v9 => (Option.bind (ref04K) fun v10 => Option.bind (iter (fun x => r4_Stretch_b4 v0 v1 v2 v3 v10 x.1 x.2) ((1 : Int), ([] : List UInt8))) fun v30 => Option.bind (subH v30 v3) fun v31 => some (v31, (0 : Int))))
def r4_Stretch_pc : PC := ⟨[hS, hS, hI, hI], [.s, (.i .i64)], fun x => r4_Stretch_p x.1 x.2.1 x.2.2.1 x.2.2.2, false⟩
theorem r4_Stretch_pk : PCok Tryz.prog tabs 45 r4_Stretch_pc := wit (G := tabs) <| fn_pc (η := [(2000003, .join [] [0, 1, 2, 3] [(some 1000000, ⟨[(8, hS), (9, hI)], []⟩), (none, ⟨[], []⟩)]),
 (2000005, .join [] [0, 1, 2, 3] [(some 1000000, ⟨[(8, hS), (9, hI)], []⟩), (none, ⟨[], []⟩)]),
 (200017, .loop [] ⟨[(11, (.own 0)), (14, (.own 1)), (16, hI)], [.osl (.i .u8) 5, .osl (.i .u8) 5]⟩ [0, 1, 2, 3, 10, 12, 13, 15] [(some 4, ⟨[(11, (.own 0)), (14, (.own 1))], [.osl (.i .u8) 5, .osl (.i .u8) 5]⟩)]),
 (200013, .loop [] ⟨[(11, (.own 0)), (13, hS), (14, (.own 1)), (15, hI)], [.osl (.i .u8) 5, .osl (.i .u8) 5]⟩ [0, 1, 2, 3, 10, 12] [(some 2, ⟨[(11, (.own 0)), (14, (.own 1))], [.osl (.i .u8) 5, .osl (.i .u8) 5]⟩)]),
 (200008, .loop [] ⟨[(11, (.own 0)), (12, hI)], [.osl (.i .u8) 5]⟩ [0, 1, 2, 3, 10] [(some 0, ⟨[(11, (.own 0))], [.osl (.i .u8) 5]⟩)])]) (Γ := ⟨[(93, ref04_Keys_pc), (95, r4_four_pc), (94, ref04_mac_pc)], [], false⟩) mixWkD τ_okWkD (ctok ⟨ref04_Keys_pk, ⟨r4_four_pk, ⟨ref04_mac_pk, trivial⟩⟩⟩ trivial) Tryz.func45 (isFn Tryz.func45 (by kernel_rfl) (by kernel_rfl)) (by kernel_rfl) rfl (by kernel_rfl)
end
end Go.Proofs.YtmkomlbiaebddaaGreatDoor.Am
namespace Go.Proofs.YtmkomlbiaebddaaGreatDoor
open Go Go.RowKit
end Go.Proofs.YtmkomlbiaebddaaGreatDoor
namespace Go.Proofs.YtmkomlbiaebddaaGreatDoor.Am
open Go Go.RowKit
def τWkL : TE := [(9, ⟨.s, 1, [.v .s (show List UInt8 from [])], .s, 16⟩),
 (25, ⟨.pt 79, 1, [.nilp], .un, 8⟩),
 (41, ⟨.sl 9, 1, [.nils], (.sl .s), 24⟩)]
theorem τ_okWkL : TEok Tryz.prog τWkL := te_ok (by kernel_rfl) (by kernel_rfl)
theorem mixWkL : Tryz.prog.follows .mixedOrders = true := by kernel_rfl
abbrev QWkL0 : OSh := .blk 79 [(.mpr 1)]
section
variable {tabs : List (Nat × Obj)} [TabOk tabs] {o : Ops} [OpsOk tabs o]
def seneschalref15_Hash_p (o : Ops) (v0 : List UInt8) (v1 : List UInt8) : Option (List UInt8) :=
 Option.bind (r4_Stretch_p v0 v1 (4 : Int) (32 : Int)) fun v2 => some v2.1
def seneschalref15_Hash_pc (o : Ops) : PC := ⟨[hS, hS], [.s], fun x => seneschalref15_Hash_p o x.1 x.2, false⟩
theorem seneschalref15_Hash_pk : PCok Tryz.prog tabs 18 (seneschalref15_Hash_pc o) := witO (G := tabs) (o := o) <| fn_pc (η := []) (Γ := ⟨[(45, r4_Stretch_pc)], [], false⟩) mixWkL τ_okWkL (ctok ⟨r4_Stretch_pk, trivial⟩ trivial) Tryz.func18 (isFn Tryz.func18 (by kernel_rfl) (by kernel_rfl)) (by kernel_rfl) rfl (by kernel_rfl)
def seneschallaw15_LoginLocks_j0 (o : Ops) (v0 : List UInt8) (v2 : Int) (v3 : (List ((List UInt8) × (List UInt8) × (List UInt8) × (List UInt8) × (List UInt8) × Int × Int × Int × List ((List UInt8) × (List UInt8) × (List UInt8) × Int)))) : Option ((Bool × List ((List UInt8) × (List UInt8) × (List UInt8) × (List UInt8) × (List UInt8) × Int × Int × Int × List ((List UInt8) × (List UInt8) × (List UInt8) × Int)))) :=
 Option.bind (login_Login_Set_s o ([97, 110, 110] : List UInt8) ([48, 49, 50, 51, 52, 53, 54, 55, 56, 57, 97, 98, 99, 100, 101, 102] : List UInt8) v0 v3) fun v4 => bif (v4.1 != (0 : Int)) then some (true, v4.2) else (bif decide (v2 < (0 : Int)) then some (true, v4.2) else some (decide (v2 > (1000000000 : Int)), v4.2))
def seneschallaw15_LoginLocks_j1 (o : Ops) (v0 : List UInt8) (v2 : Int) (v3 : (List ((List UInt8) × (List UInt8) × (List UInt8) × (List UInt8) × (List UInt8) × Int × Int × Int × List ((List UInt8) × (List UInt8) × (List UInt8) × Int)))) : Option (Bool ⊕ (List ((List UInt8) × (List UInt8) × (List UInt8) × (List UInt8) × (List UInt8) × Int × Int × Int × List ((List UInt8) × (List UInt8) × (List UInt8) × Int)))) :=
 Option.bind (seneschallaw15_LoginLocks_j0 o v0 v2 v3) fun v5 => bif v5.1 then (bif decide ((v0.length : Int) < (1 : Int)) then (Option.bind (some true) fun v6 => some (.inl v6)) else (bif decide ((v0.length : Int) > (64 : Int)) then (Option.bind (some true) fun v7 => some (.inl v7)) else (bif decide (v2 < (0 : Int)) then (Option.bind (some true) fun v8 => some (.inl v8)) else (bif decide (v2 > (1000000000 : Int)) then (Option.bind (some true) fun v9 => some (.inl v9)) else some (.inl false))))) else some (.inr v5.2)
def seneschallaw15_LoginLocks_j2 (o : Ops) (v1 : List (List UInt8)) (v13 : Int) (v14 : Int) (v15 : List ((List UInt8) × (List UInt8) × (List UInt8) × (List UInt8) × (List UInt8) × Int × Int × Int × List ((List UInt8) × (List UInt8) × (List UInt8) × Int))) : Option ((List ((List UInt8) × (List UInt8) × (List UInt8) × (List UInt8) × (List UInt8) × Int × Int × Int × List ((List UInt8) × (List UInt8) × (List UInt8) × Int))) ⊕ (List ((List UInt8) × (List UInt8) × (List UInt8) × (List UInt8) × (List UInt8) × Int × Int × Int × List ((List UInt8) × (List UInt8) × (List UInt8) × Int)))) :=
 bif decide (v14 < (v1.length : Int)) then (bif decide (v13 < (5 : Int)) then some (.inl v15) else some (.inr v15)) else some (.inr v15)
def seneschallaw15_LoginLocks_b3 (o : Ops) (v0 : List UInt8) (v1 : List (List UInt8)) (v2 : Int) (v13 : Int) (v14 : Int) (v15 : List ((List UInt8) × (List UInt8) × (List UInt8) × (List UInt8) × (List UInt8) × Int × Int × Int × List ((List UInt8) × (List UInt8) × (List UInt8) × Int))) : Option ((Int × Int × List ((List UInt8) × (List UInt8) × (List UInt8) × (List UInt8) × (List UInt8) × Int × Int × Int × List ((List UInt8) × (List UInt8) × (List UInt8) × Int))) ⊕ (Bool ⊕ (Int × List ((List UInt8) × (List UInt8) × (List UInt8) × (List UInt8) × (List UInt8) × Int × Int × Int × List ((List UInt8) × (List UInt8) × (List UInt8) × Int))))) :=
 Option.bind (seneschallaw15_LoginLocks_j2 o v1 v13 v14 v15) fun v16 => match v16 with
 | .inl v17 => (Option.bind (idx v1 v14) fun v19 => Option.bind (seneschalref15_Hash_p o v19 ([48, 49, 50, 51, 52, 53, 54, 55, 56, 57, 97, 98, 99, 100, 101, 102] : List UInt8)) fun v20 => Option.bind (seneschalref15_Hash_p o v0 ([48, 49, 50, 51, 52, 53, 54, 55, 56, 57, 97, 98, 99, 100, 101, 102] : List UInt8)) fun v21 => bif (v20 == v21) then some (.inl (v13, w64 (v14 + (1 : Int)), v17)) else (Option.bind (idx v1 v14) fun v22 => Option.bind (login_Login_Check_s o ([97, 110, 110] : List UInt8) v22 v2 v17) fun v23 => bif (v23.1 == (0 : Int)) then some (.inr (.inl false)) else (bif (v23.1 != (151 : Int)) then some (.inr (.inl false)) else some (.inl (w64 (v13 + (1 : Int)), w64 (v14 + (1 : Int)), v23.2)))))
 | .inr v18 => some (.inr (.inr (v13, v18)))
def seneschallaw15_LoginLocks_p (o : Ops) (v0 : List UInt8) (v1 : List (List UInt8)) (v2 : Int) : Option (Bool) :=
 Option.bind (login_New_s o) fun v3 => Option.bind (seneschallaw15_LoginLocks_j1 o v0 v2 v3) fun v10 => match v10 with
 | .inl v11 => (some v11)
 | .inr v12 => (Option.bind (iter (fun x => seneschallaw15_LoginLocks_b3 o v0 v1 v2 x.1 x.2.1 x.2.2) ((0 : Int), (0 : Int), v12)) fun v24 => match v24 with
 | .inl v25 => (some v25)
 | .inr v26 => (Option.bind (login_Login_Check_s o ([97, 110, 110] : List UInt8) v0 v2 v26.2) fun v27 => bif decide (v26.1 < (5 : Int)) then (bif (v27.1 == (0 : Int)) then (Option.bind (some true) fun v28 => some v28) else (some false)) else (bif (v27.1 == (152 : Int)) then (Option.bind (login_Login_Check_s o ([97, 110, 110] : List UInt8) v0 (w64 (v2 + (299 : Int))) v27.2) fun v29 => bif (v29.1 == (152 : Int)) then (Option.bind (login_Login_Check_s o ([97, 110, 110] : List UInt8) v0 (w64 (v2 + (300 : Int))) v29.2) fun v30 => bif (v30.1 == (0 : Int)) then (Option.bind (some true) fun v31 => some v31) else (some false)) else (some false)) else (some false))))
def seneschallaw15_LoginLocks_pc (o : Ops) : PC := ⟨[hS, (.h (.sl .s)), hI], [.b], fun x => seneschallaw15_LoginLocks_p o x.1 x.2.1 x.2.2, false⟩
theorem seneschallaw15_LoginLocks_pk : PCok Tryz.prog tabs 4 (seneschallaw15_LoginLocks_pc o) := witO (G := tabs) (o := o) <| fn_pc (η := [(2300005, .join [] [0, 1, 2] [(none, ⟨[(7, (.ptr 0 0)), (26, hB)], [QWkL0, .mp false .s (.pr .s (.pr .s (.pr .s (.pr .s (.pr (.i .i64) (.pr (.i .i64) (.pr (.i .i64) (.sl (.pr .s (.pr .s (.pr .s (.i .i64))))))))))))]⟩)]),
 (2000006, .join [] [0, 1, 2] [(some 1000000, ⟨[(6, hB)], []⟩), (none, ⟨[(7, (.ptr 0 0))], [QWkL0, .mp false .s (.pr .s (.pr .s (.pr .s (.pr .s (.pr (.i .i64) (.pr (.i .i64) (.pr (.i .i64) (.sl (.pr .s (.pr .s (.pr .s (.i .i64))))))))))))]⟩)]),
 (2100001, .join [] [0, 1, 2, 8, 9] [(none, ⟨[(7, (.ptr 0 0))], [QWkL0, .mp false .s (.pr .s (.pr .s (.pr .s (.pr .s (.pr (.i .i64) (.pr (.i .i64) (.pr (.i .i64) (.sl (.pr .s (.pr .s (.pr .s (.i .i64))))))))))))]⟩), (some 0, ⟨[(7, (.ptr 0 0))], [QWkL0, .mp false .s (.pr .s (.pr .s (.pr .s (.pr .s (.pr (.i .i64) (.pr (.i .i64) (.pr (.i .i64) (.sl (.pr .s (.pr .s (.pr .s (.i .i64))))))))))))]⟩)]),
 (200008, .loop [] ⟨[(7, (.ptr 0 0)), (8, hI), (9, hI)], [QWkL0, .mp false .s (.pr .s (.pr .s (.pr .s (.pr .s (.pr (.i .i64) (.pr (.i .i64) (.pr (.i .i64) (.sl (.pr .s (.pr .s (.pr .s (.i .i64))))))))))))]⟩ [0, 1, 2] [(some 1000000, ⟨[(6, hB)], []⟩), (some 0, ⟨[(7, (.ptr 0 0)), (8, hI)], [QWkL0, .mp false .s (.pr .s (.pr .s (.pr .s (.pr .s (.pr (.i .i64) (.pr (.i .i64) (.pr (.i .i64) (.sl (.pr .s (.pr .s (.pr .s (.i .i64))))))))))))]⟩)])]) (Γ := ⟨[(12, fixed_pc), (18, (seneschalref15_Hash_pc o))], [(16, (login_New_sc o)), (17, (login_Login_Set_sc o)), (19, (login_Login_Check_sc o))], false⟩) mixWkL τ_okWkL (ctok ⟨fixed_pk, ⟨seneschalref15_Hash_pk, trivial⟩⟩ ⟨login_New_sk, ⟨login_Login_Set_sk, ⟨login_Login_Check_sk, trivial⟩⟩⟩) Tryz.func4 (isFn Tryz.func4 (by kernel_rfl) (by kernel_rfl)) (by kernel_rfl) rfl (by kernel_rfl)
end
end Go.Proofs.YtmkomlbiaebddaaGreatDoor.Am
namespace Go.Proofs.YtmkomlbiaebddaaGreatDoor
open Go Go.RowKit
section
open Go Go.RowKit Go.ChangeShapes Go.WideShapes Go.ChangeAt
section
variable {H : Type} {enc : TypeId × Value → H} {P : Program} {W W' : World}
theorem ext_trodAll (hl : laidOutB P = true) (hx : Below W.heap.size W W') : ∀ {ts : List TypeId} {vs : List Value} {ds : List (DataW H)} {ps : List MemPlace}, ts.all (fun t => P.readableRec t && decide (t < P.types.size)) = true →
  DataW.TrodAll enc P W 0 (fun _ => true) true ts vs ds ps → (∀ x ∈ ps, x.block < W.heap.size) → DataW.TrodAll enc P W' 0 (fun b => decide (b < W.heap.size)) true ts vs ds ps
 | [], vs, ds, ps, _, h, _ => by
  obtain ⟨rfl, rfl, rfl⟩ := trodAll_nil h
  exact trodAll_mk0
 | t :: ts, vs, ds, ps, ha, h, hlt => by
  obtain ⟨v, vs', d, ds', p, q, rfl, rfl, rfl, h0, hr⟩ := trodAll_cons h
  simp only [List.all_cons, Bool.and_eq_true, decide_eq_true_eq] at ha
  exact trodAll_cons_mk (Below.trod hl ha.1.1 ha.1.2 h0 hx fun x hx => hlt x (List.mem_append.2 (.inl hx)))
   (ext_trodAll hl hx ha.2 hr fun x hx => hlt x (List.mem_append.2 (.inr hx)))
theorem trodAll_length : ∀ {ts : List TypeId} {vs : List Value} {ds : List (DataW H)} {ps : List MemPlace} {w : World} {b : Nat} {sp : Nat → Bool} {hd : Bool}, DataW.TrodAll enc P w b sp hd ts vs ds ps → vs.length = ts.length ∧ ds.length = ts.length
 | [], vs, ds, ps, _, _, _, _, h => by
  obtain ⟨rfl, rfl, rfl⟩ := trodAll_nil h
  exact ⟨rfl, rfl⟩
 | t :: ts, vs, ds, ps, _, _, _, _, h => by
  obtain ⟨v, vs', d, ds', p, q, rfl, rfl, rfl, h0, hr⟩ := trodAll_cons h
  have := trodAll_length hr
  simp [this.1, this.2]
theorem law_post {f : Func} {s : ChangeSpec} {args : Array Value} {ds gs : List (DataW H)} {before : List MemPlace} {B : TypeId} {n : Nat} (hl : laidOutB P = true) (hv : s.vars = [])
  (hp : f.params.toList.all (fun t => P.readableRec t && decide (t < P.types.size)) = true) (hn : f.params.toList.length = n) (hB : P.underlying B = some .bool) (hr : f.resultTypes = #[B])
  (hfn : ∀ ds : List (DataW H), ds.length = n → (s.fn H (ds ++ [])).results = [.lit (.bool true)] ∧ (s.fn H (ds ++ [])).args = ds ∧ (s.fn H (ds ++ [])).vars = [])
  (hW : DataW.Whole enc P f.params.toList s.vars false W args.toList ds gs before) (hx : Ext W W') : s.post enc P f false true false false W args (.bool true) W' := by
 have hW' := hW
 obtain ⟨p, q, hA, hV, rfl, _, _⟩ := hW
 rw [hv] at hV
 obtain ⟨rfl, rfl⟩ := trodVars_none hV
 have hA : DataW.TrodAll enc P W 0 (fun _ => true) true f.params.toList args.toList ds p := hA
 have hlen := trodAll_length hA
 obtain ⟨f1, f2, f3⟩ := hfn ds (hlen.2.trans hn)
 refine ⟨ds, [], p ++ [], [], p, [], hW', ?_, ?_, ?_, Below.frame hx _, fun h => by cases h⟩
 ·rw [f1, hr]
  exact trodAll_mk1 (shut_bool hB _)
 ·rw [f2]
  exact ext_trodAll hl hx hp hA fun x hxp => by simpa using hW'.lt x (by simp [hxp])
 ·rw [f3, hv]; exact rfl
variable {b0 : Nat} {T E : TypeId} {v : Value}
theorem rowAt_le {fits : TypeId → Bool} : ∀ {d : Nat} {e : TypeId} {count off n : Nat}, rowAt P fits d e count off n = true → off ≤ count * P.cellsOf e
 | 0, _, _, _, _, h => by simp [rowAt] at h
 | d + 1, e, count, off, n, h => by
  unfold rowAt at h
  by_cases hs : P.cellsOf e = 0
  ·simp [hs] at h
  ·have hd := Nat.div_add_mod off (P.cellsOf e)
   have hm := Nat.mod_lt off (Nat.pos_of_ne_zero hs)
   simp only [hs, if_false, Bool.or_eq_true, Bool.and_eq_true, decide_eq_true_eq, beq_iff_eq] at h
   rcases h with ⟨⟨h1, h2⟩, _⟩ | ⟨h1, _⟩
   ·have h3 : P.cellsOf e * (off / P.cellsOf e) ≤ P.cellsOf e * count := Nat.mul_le_mul_left _ (by omega)
    rw [Nat.mul_comm count]; omega
   ·have h3 : P.cellsOf e * (off / P.cellsOf e + 1) ≤ P.cellsOf e * count := Nat.mul_le_mul_left _ (by omega)
    rw [Nat.mul_add, Nat.mul_one] at h3
    rw [Nat.mul_comm count]; omega
theorem liesAt_le : ∀ {d : Nat} {e : TypeId} {count off : Nat} {u : TypeId} {n : Nat}, liesAt P d e count off u n = true → off ≤ count * P.cellsOf e
 | 0, _, _, _, _, _, h => by simp [liesAt] at h
 | d + 1, e, count, off, u, n, h => by
  unfold liesAt at h
  rw [Bool.or_eq_true] at h
  rcases h with h | h
  ·exact rowAt_le h
  ·split at h
   ·exact liesAt_le h
   ·cases h
theorem ok_place {a : Addr} {len cap : Nat} (hu : P.underlying T = some (.slice E)) (h : Value.okWide P W .any b0 T (.slice (some a) len cap)) :
  a.spot = none ∧ ∃ cs R fz, W.heap[a.block]? = some (.cells cs R fz) ∧ a.off ≤ cs.size := by
 simp only [Value.okWide, Cell.okWide, Cell.ok, hu] at h
 obtain ⟨_, _, _, h2, row, cells, h3, h4⟩ := h
 refine ⟨h2, ?_⟩
 unfold World.shape? at h3
 split at h3
 ·rename_i c elem fz hb
  simp only [Option.some.injEq, Prod.mk.injEq] at h3
  obtain ⟨rfl, rfl⟩ := h3
  have h5 := liesAt_le h4
  have h6 := Nat.div_mul_le_self c.size (P.cellsOf elem)
  exact ⟨c, _, fz, hb, by omega⟩
 ·cases h3
theorem ok_slice (hu : P.underlying T = some (.slice E)) (h : Value.okWide P W .any b0 T v) : v = .slice none 0 0 ∨ ∃ a len cap, v = .slice (some a) len cap := by
 simp only [Value.okWide, Cell.okWide, Cell.ok, hu] at h
 cases v with
 | slice a len cap =>
  cases a with
  | none =>
   left
   cases len with
   | zero => cases cap with
    | zero => rfl
    | succ n => simp at h
   | succ n => simp at h
  | some a => exact .inr ⟨a, len, cap, rfl⟩
 | _ => simp at h
theorem bulk_app {l r : List (DataW H)} : Rows.uptoBulkAll (l ++ r) = Rows.uptoBulkAll l + Rows.uptoBulkAll r := by
 induction l with
 | nil => simp [Rows.uptoBulkAll]
 | cons x l ih => simp only [List.cons_append, Rows.uptoBulkAll, ih]; omega
end
end
end Go.Proofs.YtmkomlbiaebddaaGreatDoor
namespace Go.Proofs.YtmkomlbiaebddaaGreatDoor.Am
open Go Go.RowKit Go.ChangeShapes Go.WideShapes Go.ChangeAt
def dsz : (t : Ty) → den t → Nat
 | .s, x => List.length x + 1
 | .pr a c, x => dsz a x.1 + dsz c x.2
 | .un, _ => 0
 | .sl e, x => (List.map (dsz e) x).sum + 1
 | _, _ => 1
def fOk (q : TypeId → Ty → Bool) (c : TypeId → Nat) : List Field → Nat → Ty → Bool
 | [], _, t => match t with
  | .un => true
  | _ => false
 | [f], off, t => (q f.type t && (Nat.beq f.offset off && Nat.beq (c f.type) (tsz t))) || (match t with
  | .pr a .un => q f.type a && (Nat.beq f.offset off && Nat.beq (c f.type) (tsz a))
  | _ => false)
 | f :: g :: fs, off, t => match t with
  | .pr a r => (q f.type a && (Nat.beq f.offset off && Nat.beq (c f.type) (tsz a))) && fOk q c (g :: fs) (off + tsz a) r
  | _ => false
def tyOk (P : Program) : Nat → TypeId → Ty → Bool
 | 0, _, _ => false
 | n + 1, T, t => match P.underlying T, t with
  | some (.int k), .i k' => (ikEq k k').isSome
  | some .bool, .b => true
  | some .string, .s => true
  | some (.struct fs), t => (Nat.beq (P.cellsOf T) (tsz t) && !(one t)) && fOk (tyOk P n) P.cellsOf fs.toList 0 t
  | _, _ => false
section
variable {H : Type} {enc : TypeId × Value → H} {P : Program} {W : World} {sp : Nat → Bool} {S : Mem}
theorem toI_wf : ∀ {k : IntKind} {n : Int}, (Lit.int k n).wf = true → toI k (ofI k n) = n := fun {k n} h => by
 rw [toI_ofI]
 cases k <;> simp [Lit.wf, IntKind.has, IntKind.min, IntKind.max, IntKind.signed, IntKind.bits] at h <;> simp [IntKind.wrap, IntKind.signed, IntKind.bits] <;> omega
theorem rep_split {a c : Ty} {cs : List Value} {x : den a} {y : den c} (hx : rep a S (cs.take (tsz a)) x) (hy : rep c S (cs.drop (tsz a)) y) : rep (.pr a c) S cs (x, y) :=
 ⟨_, _, (List.take_append_drop (tsz a) cs).symm, hx, hy⟩
theorem rep_un : rep .un S ([] : List Value) () := rfl
theorem fields_ok {q : TypeId → Ty → Bool} {fuel : Nat} (hq : ∀ (T : TypeId) (t : Ty), q T t = true → ∀ cs d ps, DataW.trod enc P W 0 sp true fuel T cs = some (d, ps) → ∃ x : den t, rep t S cs x ∧ dsz t x ≤ Rows.uptoBulk d) {cs : List Value} :
  ∀ (fs : List Field) (off : Nat) (t : Ty) (xs : List (DataW H × List MemPlace)), fOk q P.cellsOf fs off t = true → cs.length = off + tsz t →
   A2 (fun (f : Field) y => DataW.trod enc P W 0 sp true fuel f.type ((cs.drop f.offset).take (P.cellsOf f.type)) = some y) fs xs →
   ∃ x : den t, rep t S (cs.drop off) x ∧ dsz t x ≤ Rows.uptoBulkAll (xs.map (·.1))
 | [], off, t, xs, h, hl, hA => by
  cases t <;> simp only [fOk] at h <;> try (cases h; done)
  cases hA
  refine ⟨(), ?_, Nat.zero_le _⟩
  rw [List.drop_eq_nil_of_le (by rw [hl]; exact Nat.le_refl _)]
  exact rep_un
 | [f], off, t, xs, h, hl, hA => by
  cases hA with
  | @cons _ y _ _ h1 h2 =>
   cases h2
   simp only [fOk, Bool.or_eq_true] at h
   rcases h with h | h
   ·rw [Bool.and_eq_true, Bool.and_eq_true] at h
    obtain ⟨h0, h2, h3⟩ := h
    have h2 := Nat.eq_of_beq_eq_true h2
    have h3 := Nat.eq_of_beq_eq_true h3
    obtain ⟨x, hx, hd⟩ := hq _ _ h0 _ _ _ h1
    refine ⟨x, ?_, by simp only [List.map_cons, List.map_nil, Rows.uptoBulkAll]; omega⟩
    rw [h2, h3, List.take_of_length_le (by rw [List.length_drop]; omega)] at hx
    exact hx
   ·cases t with
    | pr a c =>
     cases c with
     | un =>
      rw [Bool.and_eq_true, Bool.and_eq_true] at h
      obtain ⟨h0, h2, h3⟩ := h
      have h2 := Nat.eq_of_beq_eq_true h2
      have h3 := Nat.eq_of_beq_eq_true h3
      obtain ⟨x, hx, hd⟩ := hq _ _ h0 _ _ _ h1
      rw [h2, h3] at hx
      have hl : cs.length = off + tsz a := hl
      refine ⟨(x, ()), rep_split hx ?_, by simp only [List.map_cons, List.map_nil, Rows.uptoBulkAll]; show dsz a x + 0 ≤ _; omega⟩
      rw [List.drop_eq_nil_of_le (by rw [List.length_drop]; omega)]
      exact rep_un
     | _ => simp at h
    | _ => simp at h
 | f :: g :: fs, off, t, xs, h, hl, hA => by
  cases t with
  | pr a r =>
   simp only [fOk] at h
   rw [Bool.and_eq_true, Bool.and_eq_true, Bool.and_eq_true] at h
   obtain ⟨⟨h1, h2, h3⟩, h4⟩ := h
   have h2 := Nat.eq_of_beq_eq_true h2
   have h3 := Nat.eq_of_beq_eq_true h3
   have hl : cs.length = off + (tsz a + tsz r) := hl
   cases hA with
   | @cons _ y _ ys g1 g2 =>
    obtain ⟨x, hx, hd⟩ := hq _ _ h1 _ _ _ g1
    obtain ⟨z, hz, he⟩ := fields_ok hq (g :: fs) (off + tsz a) r ys h4 (by omega) g2
    rw [h2, h3] at hx
    refine ⟨(x, z), rep_split hx (by rw [List.drop_drop]; exact hz), ?_⟩
    simp only [List.map_cons, Rows.uptoBulkAll]
    show dsz a x + dsz r z ≤ _
    omega
  | _ => simp [fOk] at h
theorem A2_get {α β : Type} {R : α → β → Prop} : ∀ {l : List α} {m : List β}, l.length = m.length → (∀ (i : Nat) (a : α) (b : β), l[i]? = some a → m[i]? = some b → R a b) → A2 R l m
 | [], [], _, _ => .nil
 | [], _ :: _, h, _ => by cases h
 | _ :: _, [], h, _ => by cases h
 | a :: l, b :: m, h, hR => .cons (hR 0 a b rfl rfl) (A2_get (by simpa using h) fun i a b ha hb => hR (i + 1) a b (by simpa using ha) (by simpa using hb))
theorem flat_ok : ∀ (n : Nat) (T : TypeId) (t : Ty), tyOk P n T t = true → ∀ (fuel : Nat) (cs : List Value) (d : DataW H) (ps : List MemPlace), DataW.trod enc P W 0 sp true fuel T cs = some (d, ps) → ∃ x : den t, rep t S cs x ∧ dsz t x ≤ Rows.uptoBulk d
 | 0, _, _, h, _, _, _, _, _ => by cases h
 | n + 1, T, t, h, fuel, cs, d, ps, hd => by
  unfold tyOk at h
  split at h
  ·rename_i k k' hu
   obtain ⟨hk, _⟩ := Option.isSome_iff_exists.1 h
   obtain rfl := hk.down
   obtain ⟨m, rfl, he, hw⟩ := DataW.trod_int hu hd
   cases he
   exact ⟨ofI _ m, (by show [Value.int _ m] = [.int _ (toI _ (ofI _ m))]; rw [toI_wf hw]), Nat.le_refl 1⟩
  ·rename_i hu
   obtain ⟨b, rfl, he⟩ := DataW.trod_bool hu hd
   cases he
   exact ⟨b, rfl, Nat.le_refl 1⟩
  ·rename_i hu
   obtain ⟨s, rfl, he, _⟩ := DataW.trod_string hu hd
   cases he
   exact ⟨s.data.toList, (by show [Value.string s] = [str s.data.toList]; simp [str]), Nat.le_refl _⟩
  ·rename_i fs hu
   rw [Bool.and_eq_true, Bool.and_eq_true] at h
   obtain ⟨⟨h1, _⟩, h2⟩ := h
   have h1 := Nat.eq_of_beq_eq_true h1
   obtain ⟨xs, fuel, rfl, he, hl, hxl, hm⟩ := DataW.trod_struct hu hd
   cases he
   obtain ⟨x, hx, hb⟩ := fields_ok (S := S) (fuel := fuel) (fun T' t' hq cs d ps => flat_ok n T' t' hq fuel cs d ps) fs.toList 0 _ xs h2 (by rw [hl, h1]; omega) (A2_get (by simp [hxl]) fun i f y hf hy => (hm i f (by simpa using hf)).trans hy)
   exact ⟨x, by simpa using hx, by simp only [Rows.uptoBulk]; omega⟩
  ·cases h
theorem rl_app {e : Ty} : ∀ {xs : List (den e)} {cs ds : List Value} {x : den e}, @RL (den e) (rpD e) S cs xs → rep e S ds x → @RL (den e) (rpD e) S (cs ++ ds) (xs ++ [x])
 | [], cs, ds, x, h, hx => by
  have h : cs = [] := h
  subst h
  exact ⟨ds, [], by simp, hx, rfl⟩
 | y :: xs, cs, ds, x, h, hx => by
  obtain ⟨c, d, rfl, h1, h2⟩ := h
  exact ⟨c, d ++ ds, by simp, h1, rl_app h2 hx⟩
variable {b0 : Nat} {T E : TypeId} {v : Value}
theorem slice_ok {n : Nat} {e : Ty} (hu : P.underlying T = some (.slice E)) (he : tyOk P n E e = true) (hc : P.cellsOf E = tsz e) (hz : 0 < tsz e) (h : Value.okWide P W .any b0 T v) {d : DataW H} {ps : List MemPlace} (hd : DataW.Trod enc P W 0 (fun _ => true) true T v d ps) :
  ∃ xs : List (den e), @RdS (den e) (rpD e) (memOf W) v xs ∧ dsz (.sl e) xs ≤ Rows.uptoBulk d := by
 obtain ⟨fuel, hf⟩ := hd
 have hv := ok_slice hu h
 have hcells : v.cells.toList = [v] := by
  rcases hv with rfl | ⟨a, len, cap, rfl⟩ <;> rfl
 rw [hcells] at hf
 rcases DataW.trod_slice hu hf with ⟨h1, h2⟩ | ⟨a, len, cap, elems, rest, m, rfl, h1, h2, _, hlc, _, hel, hget, _, _⟩
 ·simp only [List.cons.injEq, and_true] at h1
  subst h1
  cases h2
  exact ⟨[], ⟨[], .inl ⟨rfl, rfl, rfl⟩, rfl⟩, Nat.le_refl _⟩
 ·simp only [List.cons.injEq, and_true] at h1
  subst h1
  cases h2
  obtain ⟨hsp, cs, R, fz, hb, ho⟩ := ok_place hu h
  obtain ⟨blk, off, spot⟩ := a
  dsimp only at hsp hb ho
  subst hsp
  have ad : ∀ j, (⟨blk, off, none⟩ : Addr).add j = ⟨blk, off + j, none⟩ := fun j => by simp [Addr.add]
  have each : ∀ i, i < len → ∃ y x, elems[i]? = some y ∧ rep e (memOf W) (piece cs.toList (off + i * tsz e) (tsz e)) x ∧ dsz e x ≤ Rows.uptoBulk y.1 ∧ off + (i + 1) * tsz e ≤ cs.toList.length := fun i hi => by
   have hg := hget i hi
   obtain ⟨y, hy⟩ : ∃ y, elems[i]? = some y := ⟨_, List.getElem?_eq_getElem (by omega)⟩
   rw [hy] at hg
   obtain ⟨us, hus, hg⟩ := Option.bind_eq_some_iff.1 hg
   obtain ⟨_, hul, huc⟩ := World.cells?_some hus
   obtain ⟨x, hx, hdx⟩ := flat_ok (S := memOf W) n E e he m us y.1 y.2 hg
   rw [hc, ad] at huc
   rw [hc] at hul
   have hcell : ∀ j, j < tsz e → cs.toList[off + i * tsz e + j]? = us[j]? := fun j hj => by
    have := huc j hj
    rw [show (⟨blk, off + i * tsz e, none⟩ : Addr).add j = ⟨blk, off + i * tsz e + j, none⟩ by simp [Addr.add]] at this
    simp only [World.cell?, hb, Option.isSome_none, if_neg (show ¬ (false = true) by decide)] at this
    simpa using this
   have hlen : off + (i + 1) * tsz e ≤ cs.toList.length := by
    have h1 := hcell (tsz e - 1) (by omega)
    rw [List.getElem?_eq_getElem (by omega : tsz e - 1 < us.length)] at h1
    have := (List.getElem?_eq_some_iff.1 h1).1
    rw [Nat.add_mul]; omega
   refine ⟨y, x, hy, ?_, hdx, hlen⟩
   have : piece cs.toList (off + i * tsz e) (tsz e) = us := by
    apply List.ext_getElem?
    intro j
    rw [piece_eq, List.getElem?_take]
    by_cases hj : j < tsz e
    ·rw [if_pos hj, List.getElem?_drop]; exact hcell j hj
    ·rw [if_neg hj, List.getElem?_eq_none (by omega)]
   rw [this]; exact hx
  have key : ∀ k, k ≤ len → ∃ xs : List (den e), xs.length = k ∧ @RL (den e) (rpD e) (memOf W) (piece cs.toList off (k * tsz e)) xs ∧ (List.map (dsz e) xs).sum ≤ Rows.uptoBulkAll ((elems.take k).map (·.1)) := by
   intro k
   induction k with
   | zero => intro _; exact ⟨[], rfl, by simp [piece, RL], Nat.zero_le _⟩
   | succ k ih =>
    intro hk
    obtain ⟨xs, h1, h2, h3⟩ := ih (by omega)
    obtain ⟨y, x, g1, g2, g3, _⟩ := each k (by omega)
    refine ⟨xs ++ [x], by simp [h1], ?_, ?_⟩
    ·have e2 : piece cs.toList off ((k + 1) * tsz e) = piece cs.toList off (k * tsz e) ++ piece cs.toList (off + k * tsz e) (tsz e) := by
      rw [piece_eq, piece_eq, piece_eq, Nat.add_mul, Nat.one_mul, List.take_add, List.drop_drop]
     rw [e2]
     exact rl_app h2 g2
    ·rw [List.take_add_one, g1]
     simp only [Option.toList_some, List.map_append, List.map_cons, List.map_nil, List.sum_append, List.sum_cons, List.sum_nil, bulk_app, Rows.uptoBulkAll]
     omega
  obtain ⟨xs, h1, h2, h3⟩ := key len (Nat.le_refl _)
  have hfit : off + len * tsz e ≤ cs.toList.length := by
   rcases Nat.eq_zero_or_pos len with h0 | h0
   ·subst h0; rw [Array.length_toList]; omega
   ·obtain ⟨_, _, _, _, _, h4⟩ := each (len - 1) (by omega)
    rwa [Nat.sub_add_cancel h0] at h4
  refine ⟨xs, ⟨piece cs.toList off (len * tsz e), ?_, h2⟩, ?_⟩
  ·right
   refine ⟨blk, off, cap, cs.toList, R, fz, ?_, by rw [h1]; exact hlc, by simpa [memOf] using hb, ?_, ?_⟩
   ·rw [h1]
   ·rw [h1]; show _ + _ * (rpD e).sz ≤ _; rw [sz_eq]; exact hfit
   ·rw [h1]; show piece _ _ (_ * (rpD e).sz) = _; rw [sz_eq]
  ·rw [List.take_of_length_le (by omega)] at h3
   show (List.map (dsz e) xs).sum + 1 ≤ _
   simp only [Rows.uptoBulk]
   omega
def argOk (P : Program) (T : TypeId) (t : Ty) : Bool := match P.underlying T, t with
 | some (.slice E), .sl e => tyOk P 8 E e && (Nat.beq (P.cellsOf E) (tsz e) && Nat.blt 0 (tsz e))
 | _, t => tyOk P 8 T t
theorem argD_ok {t : Ty} (ha : argOk P T t = true) (h : Value.okWide P W .any b0 T v) {d : DataW H} {ps : List MemPlace} (hd : DataW.Trod enc P W 0 (fun _ => true) true T v d ps) :
  ∃ x : den t, rep1 t (memOf W) v x ∧ dsz t x ≤ Rows.uptoBulk d := by
 unfold argOk at ha
 split at ha
 ·rename_i E e hu
  rw [Bool.and_eq_true, Bool.and_eq_true] at ha
  obtain ⟨h1, h2, h3⟩ := ha
  obtain ⟨xs, g1, g2⟩ := slice_ok hu h1 (Nat.eq_of_beq_eq_true h2) (by rw [nat_blt] at h3; simpa using h3) h hd
  exact ⟨xs, ⟨v, rfl, g1⟩, g2⟩
 ·obtain ⟨fuel, hf⟩ := hd
  obtain ⟨x, hx, hb⟩ := flat_ok (S := memOf W) 8 T _ ha fuel _ _ _ hf
  refine ⟨x, ?_, hb⟩
  unfold rep1
  unfold tyOk at ha
  split at ha
  ·rename_i hu
   have hv : v.cells.toList = [v] := by
    simp only [Value.okWide, hu, Cell.okWide, Cell.ok] at h
    cases v <;> simp_all <;> rfl
   rw [hv] at hx
   rw [if_pos (show one (.i _) = true from rfl)]; exact hx
  ·rename_i hu
   have hv : v.cells.toList = [v] := by
    simp only [Value.okWide, hu, Cell.okWide, Cell.ok] at h
    cases v <;> simp_all <;> rfl
   rw [hv] at hx
   rw [if_pos (show one .b = true from rfl)]; exact hx
  ·rename_i hu
   have hv : v.cells.toList = [v] := by
    simp only [Value.okWide, hu, Cell.okWide, Cell.ok] at h
    cases v <;> simp_all <;> rfl
   rw [hv] at hx
   rw [if_pos (show one .s = true from rfl)]; exact hx
  ·rename_i fs hu _
   rw [Bool.and_eq_true, Bool.and_eq_true] at ha
   simp only [Value.okWide, hu] at h
   obtain ⟨cs, rfl, _, _⟩ := h
   rw [if_neg (by simpa using ha.1.2)]
   exact ⟨cs.toList, by simp, hx⟩
  ·cases ha
def posT : Ty → Bool
 | .un => false
 | .pr a c => posT a || posT c
 | _ => true
theorem dsz_pos : ∀ {e : Ty}, posT e = true → ∀ x : den e, 1 ≤ dsz e x
 | .i _, _, _ => Nat.le_refl 1
 | .b, _, _ => Nat.le_refl 1
 | .s, _, _ => Nat.le_add_left 1 _
 | .er, _, _ => Nat.le_refl 1
 | .sl _, _, _ => Nat.le_add_left 1 _
 | .mp _ _, _, _ => Nat.le_refl 1
 | .pr a c, h, x => by
  show 1 ≤ dsz a x.1 + dsz c x.2
  have h : (posT a || posT c) = true := h
  rw [Bool.or_eq_true] at h
  rcases h with h | h
  ·have := dsz_pos h x.1; omega
  ·have := dsz_pos h x.2; omega
theorem dsz_len {e : Ty} (he : posT e = true) : ∀ xs : List (den e), xs.length + 1 ≤ dsz (.sl e) xs
 | [] => Nat.le_refl 1
 | x :: xs => by
  have h1 := dsz_pos he x
  have h2 : xs.length + 1 ≤ (List.map (dsz e) xs).sum + 1 := dsz_len he xs
  show (x :: xs).length + 1 ≤ (List.map (dsz e) (x :: xs)).sum + 1
  simp only [List.length_cons, List.map_cons, List.sum_cons]
  omega
theorem rep1_vr {t : Ty} {S : Mem} {E : List EI} {v : Value} {x : den t} (h : rep1 t S v x) : VR S E (svOf t x) v := repR_sv (l := [t]) h
end
end Go.Proofs.YtmkomlbiaebddaaGreatDoor.Am
namespace Go.Proofs.YtmkomlbiaebddaaGreatDoor
open Go Go.RowKit
end Go.Proofs.YtmkomlbiaebddaaGreatDoor
namespace Go.Proofs.YtmkomlbiaebddaaGreatDoor.Am
open Go Go.RowKit
abbrev annL : List UInt8 := [97, 110, 110]
abbrev KeyT : Type := (List UInt8) × (List UInt8) × (List UInt8) × Int
abbrev CrT : Type := (List UInt8) × (List UInt8) × (List UInt8) × (List UInt8) × Int × Int × Int × List KeyT
theorem in_ok (n a b : Int) : login_in_p realOps n a b = some (decide (a ≤ n) && decide (n ≤ b)) := by
 unfold login_in_p
 by_cases h : n ≥ a
 ·rw [dec_t h]; simp [show a ≤ n from h]
 ·rw [dec_f h]; simp [show ¬ a ≤ n from h]
end Go.Proofs.YtmkomlbiaebddaaGreatDoor.Am
namespace Go.Proofs.YtmkomlbiaebddaaGreatDoor
open Go Go.RowKit
end Go.Proofs.YtmkomlbiaebddaaGreatDoor
namespace Go.Proofs.YtmkomlbiaebddaaGreatDoor.Am
open Go Go.RowKit
def xorP (u b : List UInt8) : Nat → List UInt8
 | 0 => b
 | k + 1 => (xorP u b k).set k ((xorP u b k).getD k 0 ^^^ u.getD k 0)
theorem xorP_len (u b : List UInt8) : ∀ k, (xorP u b k).length = b.length
 | 0 => rfl
 | k + 1 => by rw [xorP, List.length_set, xorP_len u b k]
def rndP (p u : List UInt8) : Nat → List UInt8 × List UInt8
 | 0 => (u, u)
 | k + 1 => (macF p (rndP p u k).1, xorP (macF p (rndP p u k).1) (rndP p u k).2 32)
theorem rndP_len (p : List UInt8) {u : List UInt8} (h : u.length = 32) : ∀ k, (rndP p u k).1.length = 32 ∧ (rndP p u k).2.length = 32
 | 0 => ⟨h, h⟩
 | k + 1 => ⟨macF_len _ _, by rw [rndP, xorP_len, (rndP_len p h k).2]⟩
def stF (p s : List UInt8) : List UInt8 := (rndP p (macF p (s ++ [0, 0, 0, 1])) 3).2
theorem stF_len (p s : List UInt8) : (stF p s).length = 32 := (rndP_len p (macF_len _ _) 3).2
attribute [local irreducible] macF
theorem macP_ok {p s : List UInt8} (hp : p.length ≤ 68719470000) (hs : s.length ≤ 68719460000) : macP p s = some (macF p s) := by
 unfold macP; rw [decide_eq_true hp, decide_eq_true hs]; rfl
theorem ref04P_ok {p s : List UInt8} (hp : p.length ≤ 68719470000) (hs : s.length ≤ 68719460000) : ref04P p s keysF.l = some (macF p s) := by
 unfold ref04P; rw [dec_t rfl, macP_ok hp hs]
theorem getD_get {l : List UInt8} {k : Nat} (h : k < l.length) : l[k] = l.getD k 0 := by simp [List.getD, h]
theorem and_t {a b : Prop} [Decidable a] [Decidable b] (ha : a) (hb : b) : (decide a && decide b) = true := by simp [ha, hb]
theorem b22_ok (L u b o : List UInt8) (hL : L.length = 32) (hu : u.length = 32) (hb : b.length = 32) : iter (fun x => hash_Stretch_b22 L u x.1 x.2.1 x.2.2) ((0 : Int), o, b) = some (o, xorP u b 32) := by
 refine iter_run (fun k => ((k : Int), o, xorP u b k)) 32 (by omega) _ (fun k hk => ?_) ?_
 ·unfold hash_Stretch_b22
  simp only []
  have hl := xorP_len u b k
  rw [dec_t (by omega), chk_ok (and_t (by omega) (by omega)), some_bind, idx_ok rfl (by omega), some_bind, idx_ok rfl (by omega), some_bind, some_bind, setL8_ok (by omega), some_bind, getD_get, getD_get, w64_of (by omega) (by omega)]
  rfl
 ·unfold hash_Stretch_b22
  simp only []
  rw [dec_f (by omega)]
theorem b2_ok (u b o : List UInt8) (hu : u.length = 32) (hb : b.length = 32) : iter (fun x => r4_Stretch_b2 u x.1 x.2.1 x.2.2) ((0 : Int), o, b) = some (o, xorP u b 32) := by
 refine iter_run (fun k => ((k : Int), o, xorP u b k)) 32 (by omega) _ (fun k hk => ?_) ?_
 ·unfold r4_Stretch_b2
  simp only []
  have hl := xorP_len u b k
  rw [dec_t (by omega), chk_ok (and_t (by omega) (by omega)), some_bind, idx_ok rfl (by omega), some_bind, idx_ok rfl (by omega), some_bind, some_bind, setL8_ok (by omega), some_bind, getD_get, getD_get, w64_of (by omega) (by omega)]
  rfl
 ·unfold r4_Stretch_b2
  simp only []
  rw [dec_f (by omega)]
theorem rndP_succ (p u : List UInt8) (k : Nat) : rndP p u (k + 1) = (macF p (rndP p u k).1, xorP (macF p (rndP p u k).1) (rndP p u k).2 32) := rfl
attribute [local irreducible] xorP
theorem b32_ok (p u o : List UInt8) (hp : p.length ≤ 68719470000) (hu : u.length = 32) : iter (fun x => hash_Stretch_b32 p 4 x.1 x.2.1 x.2.2.1 x.2.2.2) (u, (0 : Int), o, u) = some (o, (rndP p u 3).2) := by
 refine iter_run (fun k => ((rndP p u k).1, (k : Int), o, (rndP p u k).2)) 3 (by omega) _ (fun k hk => ?_) ?_
 ·unfold hash_Stretch_b32
  simp only []
  have hl := rndP_len p hu k
  rw [dec_t (by rw [w64_of (by omega) (by omega)]; omega), macP_ok hp (by omega), some_bind, b22_ok _ _ _ _ hl.2 (macF_len _ _) hl.2, some_bind, w64_of (by omega) (by omega)]
  simp only [rndP_succ]
  rfl
 ·unfold hash_Stretch_b32
  simp only []
  rw [dec_f (by rw [w64_of (by omega) (by omega)]; omega)]
theorem b3_ok (p u o : List UInt8) (hp : p.length ≤ 68719470000) (hu : u.length = 32) : iter (fun x => r4_Stretch_b3 p 4 keysF.l x.1 x.2.1 x.2.2.1 x.2.2.2) (u, (1 : Int), o, u) = some (o, (rndP p u 3).2) := by
 refine iter_run (fun k => ((rndP p u k).1, ((k : Int) + 1), o, (rndP p u k).2)) 3 (by omega) _ (fun k hk => ?_) ?_
 ·unfold r4_Stretch_b3
  simp only []
  have hl := rndP_len p hu k
  rw [dec_t (by omega), ref04P_ok hp (by omega), some_bind, b2_ok _ _ _ (macF_len _ _) hl.2, some_bind, w64_of (by omega) (by omega)]
  simp only [rndP_succ]
  rfl
 ·unfold r4_Stretch_b3
  simp only []
  rw [dec_f (by omega)]
theorem big_ok (s : List UInt8) (hs : s.length ≤ 68719400000) : hash_big_s (i64 (((1 : UInt32)).toNat : Int)) 4 s = some (s ++ [0, 0, 0, 1]) := by
 have h : iter (fun x => hash_big_b0 (i64 (((1 : UInt32)).toNat : Int)) x.1 x.2) ((3 : Int) - ((0 : Nat) : Int), s ++ ([0, 0, 0, 1] : List UInt8).take 0) = some (s ++ [0, 0, 0, 1]) := by
  refine iter_run (fun k => ((3 : Int) - (k : Int), s ++ ([0, 0, 0, 1] : List UInt8).take k)) 4 (by omega) _ (fun k hk => ?_) ?_
  ·unfold hash_big_b0
   simp only []
   have hl : (s ++ ([0, 0, 0, 1] : List UInt8).take k).length ≤ 68719400004 := by rw [List.length_append, List.length_take]; simp; omega
   rw [dec_t (by omega), chk_ok (decide_eq_true (by rw [w64_of (by omega) (by omega)]; omega)), some_bind, Go.Proofs.YtmkomlbiaebddaaGreatDoor.app_ok (by simp only [List.length_cons, List.length_nil]; omega), some_bind, w64_of (by omega) (by omega), List.append_assoc, show (3 : Int) - (k : Int) - 1 = 3 - ((k + 1 : Nat) : Int) by omega]
   rcases (by omega : k = 0 ∨ k = 1 ∨ k = 2 ∨ k = 3) with rfl | rfl | rfl | rfl <;> rfl
  ·unfold hash_big_b0
   simp only []
   rw [dec_f (by omega)]; rfl
 rw [List.take_zero, List.append_nil] at h
 unfold hash_big_s
 rw [show w64 ((4 : Int) - (1 : Int)) = 3 - ((0 : Nat) : Int) from rfl, h, some_bind]
theorem b4_ok (p s : List UInt8) (hp : p.length ≤ 68719470000) (hs : s.length ≤ 68719400000) : iter (fun x => hash_Stretch_b4 p s 4 32 x.1 x.2) ((1 : UInt32), ([] : List UInt8)) = some (stF p s) := by
 refine iter_run (fun k => bif decide (k = 0) then ((1 : UInt32), ([] : List UInt8)) else ((2 : UInt32), stF p s)) 1 (by omega) _ (fun k hk => ?_) ?_
 ·cases (by omega : k = 0)
  simp only [decide_true, cond_true]
  unfold hash_Stretch_b4
  rw [dec_t (by decide), big_ok s hs, some_bind, macP_ok hp (by simp; omega), some_bind, b32_ok _ _ _ hp (macF_len _ _), some_bind, Go.Proofs.YtmkomlbiaebddaaGreatDoor.app_ok (by have := stF_len p s; unfold stF at this; rw [this]; show 0 + 32 ≤ 68719476736; decide), some_bind]
  rfl
 ·simp only [show decide ((1 : Nat) = 0) = false from rfl, cond_false]
  unfold hash_Stretch_b4
  rw [dec_f (by rw [stF_len]; decide)]
theorem b4R_ok (p s : List UInt8) (hp : p.length ≤ 68719470000) (hs : s.length ≤ 68719400000) : iter (fun x => r4_Stretch_b4 p s 4 32 keysF.l x.1 x.2) ((1 : Int), ([] : List UInt8)) = some (stF p s) := by
 refine iter_run (fun k => bif decide (k = 0) then ((1 : Int), ([] : List UInt8)) else ((2 : Int), stF p s)) 1 (by omega) _ (fun k hk => ?_) ?_
 ·cases (by omega : k = 0)
  simp only [decide_true, cond_true]
  unfold r4_Stretch_b4
  rw [dec_t (by decide), show r4_four_p (i32 1) = some [0, 0, 0, 1] from rfl, some_bind, Go.Proofs.YtmkomlbiaebddaaGreatDoor.app_ok (by simp only [List.length_cons, List.length_nil]; omega), some_bind, ref04P_ok hp (by simp; omega), some_bind, b3_ok _ _ _ hp (macF_len _ _), some_bind, Go.Proofs.YtmkomlbiaebddaaGreatDoor.app_ok (by have := stF_len p s; unfold stF at this; rw [this]; show 0 + 32 ≤ 68719476736; decide), some_bind]
  rfl
 ·simp only [show decide ((1 : Nat) = 0) = false from rfl, cond_false]
  unfold r4_Stretch_b4
  rw [dec_f (by rw [stF_len]; decide)]
theorem subH_st (p s : List UInt8) : subH (stF p s) 32 = some (stF p s) := by
 rw [show (32 : Int) = ((32 : Nat) : Int) from rfl, subH_ok (Nat.le_of_eq (stF_len p s).symm), List.take_of_length_le (Nat.le_of_eq (stF_len p s))]
theorem stretch_ok (p s : List UInt8) (hp : p.length ≤ 68719470000) (hs : s.length ≤ 68719400000) : hash_Stretch_p p s 4 32 = some (stF p s, 0) := by
 unfold hash_Stretch_p
 rw [show hash_Stretch_j1 4 32 = some (.inr ()) from rfl, some_bind]
 simp only []
 rw [b4_ok p s hp hs, some_bind, subH_st, some_bind]
theorem stretchR_ok (p s : List UInt8) (hp : p.length ≤ 68719470000) (hs : s.length ≤ 68719400000) : r4_Stretch_p p s 4 32 = some (stF p s, 0) := by
 unfold r4_Stretch_p
 rw [show r4_Stretch_j0 4 = some (.inr ()) from rfl, some_bind]
 simp only []
 rw [show r4_Stretch_j1 32 = some (.inr ()) from rfl, some_bind]
 simp only [ref04K]
 rw [some_bind, b4R_ok p s hp hs, some_bind, subH_st, some_bind]
end Go.Proofs.YtmkomlbiaebddaaGreatDoor.Am
namespace Go.Proofs.YtmkomlbiaebddaaGreatDoor
open Go Go.RowKit
end Go.Proofs.YtmkomlbiaebddaaGreatDoor
namespace Go.Proofs.YtmkomlbiaebddaaGreatDoor.Am
open Go Go.RowKit
attribute [local irreducible] stF macF
def crL (h : List UInt8) (f u : Int) : CrT := (annL, saltL, h, [], 0, f, u, [])
def esL (h : List UInt8) (f u : Int) : List ((List UInt8) × CrT) := [(annL, crL h f u)]
theorem get_L (h : List UInt8) (f u : Int) (z : CrT) : mgetD keqS (esL h f u) annL z = crL h f u := rfl
theorem has_L (h : List UInt8) (f u : Int) : mhas keqS (esL h f u) annL = true := rfl
theorem set_L (h : List UInt8) (f u : Int) (c : CrT) : mset keqS kltS (esL h f u) annL c = [(annL, c)] := rfl
theorem salt_len : saltL.length = 16 := rfl
theorem stretched_ok (p : List UInt8) (hp : p.length ≤ 68719470000) : login_stretched_p realOps p saltL = some (stF p saltL) := by
 unfold login_stretched_p
 rw [show realOps.stretch p saltL 4 32 = some (stF p saltL, 0) from stretch_ok p saltL hp (by rw [salt_len]; decide), some_bind]
theorem hashR_ok (p : List UInt8) (hp : p.length ≤ 68719470000) : seneschalref15_Hash_p realOps p saltL = some (stF p saltL) := by
 unfold seneschalref15_Hash_p
 rw [stretchR_ok p saltL hp (by rw [salt_len]; decide), some_bind]
theorem in_pass (p : List UInt8) : login_in_p realOps (p.length : Int) 1 64 = some (decide (1 ≤ p.length ∧ p.length ≤ 64)) := by
 rw [in_ok]
 by_cases h1 : 1 ≤ p.length <;> by_cases h2 : p.length ≤ 64 <;> simp [h1, h2] <;> omega
def hitP (p h : List UInt8) : Bool := bif decide (1 ≤ p.length ∧ p.length ≤ 64) then stF p saltL == h else false
theorem check_one (p h : List UInt8) (now f u : Int) (hh : h.length = 32) (hf : 0 ≤ f) (hf' : f ≤ 4) (hn : 0 ≤ now) (hn' : now ≤ 1000000300) :
  login_Login_Check_1_s realOps annL saltL h [] 0 f u [] now p = some (bif decide (now < u) then (152, annL, saltL, h, [], 0, f, u, [], now, p) else bif hitP p h then (0, annL, saltL, h, [], 0, 0, 0, [], now, p) else bif decide (f = 4) then (151, annL, saltL, h, [], 0, 0, now + 300, [], now, p) else (151, annL, saltL, h, [], 0, f + 1, u, [], now, p)) := by
 unfold login_Login_Check_1_s
 by_cases hu : now < u
 ·rw [dec_t hu, dec_t hu]
 ·rw [dec_f hu, dec_f hu]
  have h0 : login_Login_Check_1_j0 realOps annL saltL h [] 0 f u [] now p = some (hitP p h, annL, saltL, h, [], 0, f, u, [], now, p) := by
   unfold login_Login_Check_1_j0 hitP
   rw [in_pass, some_bind]
   by_cases hb : 1 ≤ p.length ∧ p.length ≤ 64
   ·rw [dec_t hb, decide_eq_true hb]
    simp only [cond_true]
    rw [stretched_ok p (by omega), some_bind, show realOps.same (stF p saltL) h = some (stF p saltL == h) from ?_, some_bind]
    show sameP _ _ = _
    unfold sameP
    rw [stF_len, hh]; rfl
   ·rw [dec_f hb, decide_eq_false hb]; rfl
  unfold login_Login_Check_1_j1
  rw [h0, some_bind]
  cases hitP p h with
  | true => rfl
  | false =>
   simp only [cond_false]
   rw [some_bind]
   simp only []
   rw [w64_of (by omega) (by omega), w64_of (by omega) (by omega)]
   by_cases h4 : f = 4
   ·subst h4; rfl
   ·rw [dec_f h4, show ((f + 1 : Int) == 5) = false from beq_eq_false_iff_ne.2 (by omega)]; rfl
theorem check_L (p h : List UInt8) (now f u : Int) (hh : h.length = 32) (hf : 0 ≤ f) (hf' : f ≤ 4) (hn : 0 ≤ now) (hn' : now ≤ 1000000300) :
  login_Login_Check_s realOps annL p now (esL h f u) = some (bif decide (now < u) then (152, esL h f u) else bif hitP p h then (0, esL h 0 0) else bif decide (f = 4) then (151, esL h 0 (now + 300)) else (151, esL h (f + 1) u)) := by
 unfold login_Login_Check_s login_time_p
 rw [in_ok, some_bind, decide_eq_true hn, decide_eq_true (show now ≤ 1099511627776 by omega)]
 simp only [Bool.and_true]
 rw [some_bind]
 unfold login_Login_with_s
 simp only [get_L, has_L, set_L, Bool.not_true, cond_false, crL]
 rw [check_one p h now f u hh hf hf' hn hn', some_bind, some_bind]
 cases decide (now < u) <;> cases hitP p h <;> cases decide (f = 4) <;> rfl
theorem set_L0 (p : List UInt8) : login_Login_Set_s realOps annL saltL p [] = some (bif decide (1 ≤ p.length ∧ p.length ≤ 64) then (0, esL (stF p saltL) 0 0) else (155, [])) := by
 unfold login_Login_Set_s login_Login_Set_j0
 rw [show people_Name_p realOps annL = some true by kernel_rfl, some_bind]
 simp only [Bool.not_true, cond_false, show ((saltL.length : Int) != 16) = false from rfl]
 rw [in_pass, some_bind]
 by_cases hb : 1 ≤ p.length ∧ p.length ≤ 64
 ·rw [decide_eq_true hb]
  simp only [Bool.not_true, cond_false, cond_true]
  rw [some_bind]
  simp only []
  rw [show login_Login_Set_j1 realOps annL ([] : List ((List UInt8) × CrT)) (mgetD keqS [] annL (([] : List UInt8), ([] : List UInt8), ([] : List UInt8), ([] : List UInt8), (0 : Int), (0 : Int), (0 : Int), ([] : List KeyT))) = some (.inr ([], (([] : List UInt8), ([] : List UInt8), ([] : List UInt8), ([] : List UInt8), (0 : Int), (0 : Int), (0 : Int), ([] : List KeyT)))) from rfl, some_bind]
  simp only []
  rw [stretched_ok p (by omega), some_bind]
  rfl
 ·rw [decide_eq_false hb]; rfl
def esF (h : List UInt8) (now : Int) (f : Nat) : List ((List UInt8) × CrT) := bif decide (f = 5) then esL h 0 (now + 300) else esL h (f : Int) 0
theorem locks_loop (pass : List UInt8) (wrong : List (List UInt8)) (now : Int) (hp : pass.length ≤ 68719470000) (hw : ∀ x ∈ wrong, x.length ≤ 68719470000) (hc : wrong.length ≤ 1048576) (hn : 0 ≤ now) (hn' : now ≤ 1000000000) :
  ∃ f : Nat, f ≤ 5 ∧ iter (fun x => seneschallaw15_LoginLocks_b3 realOps pass wrong now x.1 x.2.1 x.2.2) ((0 : Int), (0 : Int), esL (stF pass saltL) 0 0) = some (.inr ((f : Int), esF (stF pass saltL) now f)) := by
 have h := iter_len (body := fun (x : Int × Int × List (List UInt8 × CrT)) => seneschallaw15_LoginLocks_b3 realOps pass wrong now x.1 x.2.1 x.2.2)
  (fun x => 0 ≤ x.2.1 ∧ x.2.1 ≤ (wrong.length : Int) ∧ ∃ f : Nat, f ≤ 5 ∧ x.1 = (f : Int) ∧ x.2.2 = esF (stF pass saltL) now f) (fun x => (wrong.length - x.2.1).toNat)
  (fun b => ∃ f : Nat, f ≤ 5 ∧ b = .inr ((f : Int), esF (stF pass saltL) now f)) (fun x hx => by
   obtain ⟨f', i, es⟩ := x
   obtain ⟨h1, h2, f, h3, h4, h5⟩ := hx
   simp only at h1 h2 h4 h5
   subst h4 h5
   unfold seneschallaw15_LoginLocks_b3 seneschallaw15_LoginLocks_j2
   simp only []
   by_cases hi : i < (wrong.length : Int)
   ·by_cases hf : f = 5
    ·right
     rw [dec_t hi, dec_f (by omega), some_bind]
     exact ⟨_, rfl, f, h3, rfl⟩
    ·left
     obtain ⟨j, rfl⟩ : ∃ j : Nat, i = j := ⟨i.toNat, by omega⟩
     have hj : idx wrong (j : Int) = some (wrong[j]'(by omega)) := idx_ok rfl (by omega)
     have hm := hw _ (List.getElem_mem (show j < wrong.length by omega))
     generalize wrong[j]'(by omega) = c at hj hm
     rw [dec_t hi, dec_t (show (f : Int) < 5 by omega), some_bind]
     simp only []
     rw [hj, some_bind, show seneschalref15_Hash_p realOps c ([48, 49, 50, 51, 52, 53, 54, 55, 56, 57, 97, 98, 99, 100, 101, 102] : List UInt8) = _ from hashR_ok c hm, some_bind, show seneschalref15_Hash_p realOps pass ([48, 49, 50, 51, 52, 53, 54, 55, 56, 57, 97, 98, 99, 100, 101, 102] : List UInt8) = _ from hashR_ok pass hp, some_bind, w64_of (by omega) (by omega)]
     cases he : stF c saltL == stF pass saltL with
     | true => exact ⟨((f : Int), (j : Int) + 1, esF (stF pass saltL) now f), rfl, ⟨by simp only []; omega, by simp only []; omega, f, h3, rfl, rfl⟩, by simp only []; omega⟩
     | false =>
      have hh : hitP c (stF pass saltL) = false := by unfold hitP; rw [he]; cases decide (1 ≤ c.length ∧ c.length ≤ 64) <;> rfl
      refine ⟨(((f + 1 : Nat) : Int), (j : Int) + 1, esF (stF pass saltL) now (f + 1)), ?_, ⟨by simp only []; omega, by simp only []; omega, f + 1, by omega, rfl, rfl⟩, by simp only []; omega⟩
      simp only [cond_false]
      rw [some_bind, show esF (stF pass saltL) now f = esL (stF pass saltL) (f : Int) 0 by unfold esF; rw [dec_f hf], show login_Login_Check_s realOps ([97, 110, 110] : List UInt8) c now (esL (stF pass saltL) (f : Int) 0) = _ from check_L c _ now _ 0 (stF_len _ _) (by omega) (by omega) hn (by omega), some_bind, dec_f (by omega), hh]
      simp only [cond_false]
      rw [w64_of (by omega) (by omega)]
      unfold esF
      by_cases h4 : f = 4
      ·subst h4; rfl
      ·rw [decide_eq_false (show ¬ (f : Int) = 4 by omega), decide_eq_false (show ¬ f + 1 = 5 by omega)]; rfl
   ·right
    rw [dec_f hi, some_bind]
    exact ⟨_, rfl, f, h3, rfl⟩) (s := ((0 : Int), (0 : Int), esL (stF pass saltL) 0 0)) ⟨by simp, by simp, 0, by omega, rfl, rfl⟩ (by simp; omega)
 obtain ⟨b, h1, f, h2, rfl⟩ := h
 exact ⟨f, h2, h1⟩
theorem loginLocks_plain (pass : List UInt8) (wrong : List (List UInt8)) (now : Int) (hp : pass.length ≤ 68719470000) (hw : ∀ x ∈ wrong, x.length ≤ 68719470000) (hc : wrong.length ≤ 1048576) : seneschallaw15_LoginLocks_p realOps pass wrong now = some true := by
 unfold seneschallaw15_LoginLocks_p
 rw [show login_New_s realOps = some [] from rfl, some_bind]
 unfold seneschallaw15_LoginLocks_j1 seneschallaw15_LoginLocks_j0
 rw [show login_Login_Set_s realOps ([97, 110, 110] : List UInt8) ([48, 49, 50, 51, 52, 53, 54, 55, 56, 57, 97, 98, 99, 100, 101, 102] : List UInt8) pass [] = _ from set_L0 pass, some_bind]
 by_cases hb : 1 ≤ pass.length ∧ pass.length ≤ 64
 ·rw [dec_t hb]
  simp only [show ((0 : Int) != 0) = false from rfl, cond_false]
  by_cases h1 : now < 0
  ·rw [dec_t h1, some_bind]
   simp only [cond_true]
   rw [dec_f (by omega), dec_f (by omega), dec_t h1]; rfl
  ·rw [dec_f h1, some_bind]
   by_cases h2 : now > 1000000000
   ·rw [decide_eq_true h2]
    simp only [cond_true]
    rw [dec_f (by omega), dec_f (by omega), dec_f h1]; rfl
   ·rw [decide_eq_false h2]
    simp only [cond_false]
    rw [some_bind]
    simp only []
    obtain ⟨f, hf, hl⟩ := locks_loop pass wrong now hp hw hc (by omega) (by omega)
    rw [hl, some_bind]
    simp only []
    have hit : hitP pass (stF pass saltL) = true := by unfold hitP; rw [dec_t hb]; exact beq_self_eq_true _
    unfold esF
    by_cases h5 : f = 5
    ·subst h5
     rw [dec_t rfl]
     rw [show login_Login_Check_s realOps ([97, 110, 110] : List UInt8) pass now (esL (stF pass saltL) 0 (now + 300)) = _ from check_L pass _ now 0 (now + 300) (stF_len _ _) (by omega) (by omega) (by omega) (by omega), dec_t (show now < now + 300 by omega), some_bind, dec_f (by decide)]
     simp only [show ((152 : Int) == 152) = true from rfl, cond_true]
     rw [w64_of (by omega) (by omega), show login_Login_Check_s realOps ([97, 110, 110] : List UInt8) pass (now + 299) (esL (stF pass saltL) 0 (now + 300)) = _ from check_L pass _ (now + 299) 0 (now + 300) (stF_len _ _) (by omega) (by omega) (by omega) (by omega), dec_t (show now + 299 < now + 300 by omega), some_bind]
     simp only [show ((152 : Int) == 152) = true from rfl, cond_true]
     rw [w64_of (by omega) (by omega), show login_Login_Check_s realOps ([97, 110, 110] : List UInt8) pass (now + 300) (esL (stF pass saltL) 0 (now + 300)) = _ from check_L pass _ (now + 300) 0 (now + 300) (stF_len _ _) (by omega) (by omega) (by omega) (by omega), dec_f (show ¬ now + 300 < now + 300 by omega), hit]
     rfl
    ·rw [dec_f h5]
     rw [show login_Login_Check_s realOps ([97, 110, 110] : List UInt8) pass now (esL (stF pass saltL) (f : Int) 0) = _ from check_L pass _ now (f : Int) 0 (stF_len _ _) (by omega) (by omega) (by omega) (by omega), dec_f (show ¬ now < 0 by omega), hit]
     simp only [cond_true]
     rw [some_bind, dec_t (show (f : Int) < 5 by omega)]
     rfl
 ·rw [dec_f hb]
  simp only [show ((155 : Int) != 0) = true from rfl, cond_true]
  rw [some_bind]
  simp only [cond_true]
  by_cases h1 : (pass.length : Int) < 1
  ·rw [dec_t h1]; rfl
  ·rw [dec_f h1, dec_t (by omega)]; rfl
theorem dsz_mem {e : Ty} {x : den e} : ∀ {xs : List (den e)}, x ∈ xs → dsz e x ≤ dsz (.sl e) xs
 | y :: ys, h => by
  show _ ≤ (List.map (dsz e) (y :: ys)).sum + 1
  simp only [List.map_cons, List.sum_cons]
  rcases List.mem_cons.1 h with rfl | h
  ·omega
  ·have : dsz e x ≤ (List.map (dsz e) ys).sum + 1 := dsz_mem h
   omega
theorem loginLocks_uses (pass : List UInt8) (wrong : List (List UInt8)) (now : Int) (hk : dsz .s pass + dsz (.sl .s) wrong + dsz (.i .i64) now ≤ 1048576) : seneschallaw15_LoginLocks_p realOps pass wrong now = some true := by
 have h2 : wrong.length + 1 ≤ dsz (.sl .s) wrong := dsz_len (e := .s) rfl wrong
 refine loginLocks_plain pass wrong now ?_ (fun x hx => ?_) (by omega)
 ·have : pass.length + 1 ≤ dsz .s pass := by show _ ≤ _; simp [dsz]
  omega
 ·have h3 := dsz_mem (e := .s) hx
  have : x.length + 1 ≤ dsz .s x := by show _ ≤ _; simp [dsz]
  omega
end Go.Proofs.YtmkomlbiaebddaaGreatDoor.Am
namespace Go.Proofs.YtmkomlbiaebddaaGreatDoor
open Go Go.RowKit
section
open Go Go.RowKit Go.ChangeShapes Go.WideShapes Go.ChangeAt
attribute [local irreducible] Value.okWide
theorem tabs_of {W : World} (h : W.ShapedOpen Tryz.prog) (hL : laidMet Tryz.prog Rows.loginLocksUptoRow.laid W) : ∃ G : List (Nat × Obj), Am.TabOk G ∧ Am.GS G (memOf W) := by
 obtain ⟨m, hm⟩ := Tryz.laysM219.s1_3 W h
 have hm : W.cell? ⟨0, 0, none⟩ = some (.int .i64 m) := hm
 have h0 : ∃ c E fz, W.heap[0]? = some (.cells c E fz) ∧ c[0]? = some (.int .i64 m) := by
  unfold World.cell? at hm
  split at hm
  ·rename_i c E fz hb
   simp only [Option.isSome_none, if_neg (show ¬ (false = true) by decide)] at hm
   exact ⟨c, E, fz, hb, hm⟩
  ·cases hm
 obtain ⟨c, E, fz, h1, h2⟩ := h0
 have hT := Lib.tabIs_of_head (P := Tryz.prog) (k := .u64) (zs := Lib.pow10Tab) (g := 1) (t := 214) (e := 102) (n := 20) (by kernel_rfl) (by kernel_rfl) (by kernel_rfl) (by kernel_rfl) (by kernel_rfl) (by kernel_rfl) (show laidMet Tryz.prog (("internal/strconv.uint64pow10", Lib.tabData .u64 Lib.pow10Tab) :: _) W from hL.tail.tail)
 have h3 : ∃ T f, W.heap[1]? = some (.cells pow10C.toArray T f) := by
  unfold Lib.TabIs World.var? at hT
  rw [show Tryz.prog.globalNamed "internal/strconv.uint64pow10" = some 1 by kernel_rfl, Option.bind_some] at hT
  split at hT
  ·rename_i cs T f hb
   cases hT
   exact ⟨T, f, hb⟩
  ·cases hT
 obtain ⟨T, f, h4⟩ := h3
 refine ⟨[(0, .cells c E fz), (1, .cells pow10C.toArray T f)], ⟨fun S hS => ⟨⟨c, E, fz, m, hS _ (List.mem_cons_self ..), h2⟩, T, f, hS _ (List.mem_cons_of_mem _ (List.mem_cons_self ..))⟩⟩, fun p hp => ?_⟩
 rcases List.mem_cons.1 hp with rfl | hp
 ·exact h1
 ·rcases List.mem_cons.1 hp with rfl | hp
  ·exact h4
  ·cases hp
theorem contract_loginLocks (H : Type) (enc : TypeId × Value → H) (W : World) (base : Nat) (args : Array Value) (ds gs : List (DataW H)) (before : List MemPlace)
  (hval : ∀ (j : Nat) t v, Tryz.f4.params[j]? = some t → args[j]? = some v → Value.okWide Tryz.prog W .any base t v)
  (hW : DataW.Whole enc Tryz.prog Tryz.f4.params.toList Rows.loginLocksSpec.vars false W args.toList ds gs before) (hk : Rows.uptoSmall H (ds ++ gs) = true) (hsh : W.ShapedOpen Tryz.prog) (hL : laidMet Tryz.prog Rows.loginLocksUptoRow.laid W) :
  Calls Tryz.prog 4 args W fun e W' => ∃ v, e = .returned v ∧ Rows.loginLocksSpec.post enc Tryz.prog Tryz.f4 false true false false W args v W' := by
 have hW' := hW
 obtain ⟨p, q, hA0, hV, rfl, _, _⟩ := hW
 have hA : DataW.TrodAll enc Tryz.prog W 0 (fun _ => true) true Tryz.f4.params.toList args.toList ds p := hA0
 rw [Tryz.params4] at hA hval
 obtain ⟨v0, vs0, d0, ds0, p0, q0, hargs, rfl, rfl, t0, r0⟩ := trodAll_cons hA
 obtain ⟨v1, vs1, d1, ds1, p1, q1, rfl, rfl, rfl, t1, r1⟩ := trodAll_cons r0
 obtain ⟨v2, vs2, d2, ds2, p2, q2, rfl, rfl, rfl, t2, r2⟩ := trodAll_cons r1
 obtain ⟨rfl, rfl, rfl⟩ := trodAll_nil r2
 obtain rfl : args = #[v0, v1, v2] := by cases args; simp_all
 obtain ⟨rfl, rfl⟩ := trodVars_none hV
 obtain ⟨x0, e0, b0⟩ := Am.argD_ok (t := .s) (show Am.argOk Tryz.prog 9 .s = true by kernel_rfl) (hval 0 9 v0 rfl rfl) t0
 obtain ⟨x1, e1, b1⟩ := Am.argD_ok (t := (.sl .s)) (show Am.argOk Tryz.prog 41 (.sl .s) = true by kernel_rfl) (hval 1 41 v1 rfl rfl) t1
 obtain ⟨x2, e2, b2⟩ := Am.argD_ok (t := (.i .i64)) (show Am.argOk Tryz.prog 3 (.i .i64) = true by kernel_rfl) (hval 2 3 v2 rfl rfl) t2
 simp only [List.cons_append, List.nil_append, List.append_nil, Rows.uptoSmall, decide_eq_true_eq, Rows.uptoBulkAll] at hk
 obtain ⟨G, hG, hGS⟩ := tabs_of hsh hL
 refine ((Am.seneschallaw15_LoginLocks_pk (tabs := G) (o := Am.realOps)).ok (memOf W) W [v0, v1, v2] (x0, x1, x2) true hGS (subMem W) (.cons (Am.rep1_vr e0) (.cons (Am.rep1_vr e1) (.cons (Am.rep1_vr e2) .nil))) (Am.loginLocks_uses x0 x1 x2 (by omega))).mono fun e W' ⟨hx, v, he, hr, _⟩ => ?_
 have hr : [v] = [Value.bool true] := hr
 rw [(List.cons.inj hr).1] at he
 subst he
 refine ⟨_, rfl, law_post (B := 4) (n := 3) (by kernel_rfl) rfl (by kernel_rfl) (by kernel_rfl) (by kernel_rfl) (by kernel_rfl) (fun ds hds => ?_) hW' hx⟩
 match ds, hds with
 | [x0, x1, x2], _ => exact ⟨rfl, rfl, rfl⟩
theorem own_none : ownKnob Tryz.prog.godebug = none := by kernel_rfl
def cellsD : DataW Unit → List Value
 | .lit (.int k n) => [.int k n]
 | .agg l => go l
 | _ => []
where go : List (DataW Unit) → List Value
 | [] => []
 | d :: l => cellsD d ++ go l
def layCells (l : List Value) : Obj → Obj
 | .cells _ t frozen => .cells l.toArray t frozen
 | o => o
noncomputable def laidWorld (os : Os) : World := { World.holding Tryz.prog os ⟨#[], #[], []⟩ with heap := (((((((((World.holding Tryz.prog os ⟨#[], #[], []⟩).heap).modify 6 (layCells (cellsD Rows.laid_math_bits_deBruijn32tab))).modify 7 (layCells (cellsD Rows.laid_math_bits_deBruijn64tab))).modify 1 (layCells (cellsD Rows.laid_internal_strconv_uint64pow10))).modify 5 (layCells (cellsD Rows.laid_unicode_utf8_acceptRanges))).modify 3 (layCells [.iface 233 (.pointer (some ⟨(World.holding Tryz.prog os ⟨#[], #[], []⟩).heap.size + 0, 0, none⟩))])).modify 2 (layCells [.iface 233 (.pointer (some ⟨(World.holding Tryz.prog os ⟨#[], #[], []⟩).heap.size + 1, 0, none⟩))])).modify 4 (layCells (cellsD Go.Pinned.utf8First))) ++ #[.cells #[.string ⟨#[118, 97, 108, 117, 101, 32, 111, 117, 116, 32, 111, 102, 32, 114, 97, 110, 103, 101]⟩] 235, .cells #[.string ⟨#[105, 110, 118, 97, 108, 105, 100, 32, 115, 121, 110, 116, 97, 120]⟩] 235] }
theorem laid_met_loginLocks (os : Os) : laidMet Tryz.prog Rows.loginLocksUptoRow.laid ((laidWorld os).forCall (fun _ _ => 0) ⟨#[], #[.string ⟨#[]⟩, .slice none 0 0, .int .i64 0], []⟩).memory :=
 laidMet_of_run' 8 (by kernel_rfl) (by kernel_rfl)
theorem reads_loginLocks (os : Os) {H : Type} (enc : TypeId × Value → H) : ∃ places, DataW.whole enc Tryz.prog ((laidWorld os).forCall (fun _ _ => 0) ⟨#[], #[.string ⟨#[]⟩, .slice none 0 0, .int .i64 0], []⟩).memory Tryz.f4.params.toList Rows.loginLocksSpec.vars false (#[.string ⟨#[]⟩, .slice none 0 0, .int .i64 0] : Array Value).toList 8 = some ([.lit (.string []), .nil, .lit (.int .i64 0)], [], places) :=
 ⟨[], by kernel_rfl⟩
set_option maxRecDepth 100000 in
theorem lifted_loginLocks (os : Os) (started : os.Started) (H : Type) (enc : TypeId × Value → H) (F : Stop.Interp) :
  ReturnsInHanded {} Tryz.checked os 4 .any ((Rows.OpenSpec.upto Rows.loginLocksSpec).preRow enc Tryz.prog Tryz.f4 Rows.loginLocksUptoRow.domain false Rows.loginLocksUptoRow.laid) (((Rows.OpenSpec.upto Rows.loginLocksSpec).at F).post enc Tryz.prog Tryz.f4 false true false false) := by
 obtain ⟨places, hx⟩ := reads_loginLocks os enc
 refine returnsInHanded_of_row (C := Tryz.checked) (s := Rows.OpenSpec.upto Rows.loginLocksSpec) own_none started (by kernel_rfl) Tryz.func4
  (witness_row_at (enc := enc) (C := Tryz.checked) false (laidWorld os) #[.string ⟨#[]⟩, .slice none 0 0, .int .i64 0] rfl (by kernel_rfl) (by kernel_rfl) (by kernel_rfl)
   (OpenSpec.preRow_of_cond 8 hx (by kernel_rfl) (fun k hk => by cases hk; kernel_rfl) (by kernel_rfl) (laid_met_loginLocks os))) ?_
 intro W base args ds gs before hval hW _ hcond _ hL hsh _
 exact contract_loginLocks H enc W base args ds gs before hval hW (hcond _ rfl) hsh hL
theorem loginLocks_row : Rows.LoginLocksUptoSaid :=
 OpenClaim.holds_of_cond 4 Tryz.f4 rfl rfl rfl rfl rfl rfl rfl ⟨rfl, rfl, rfl, rfl, rfl⟩ rfl rfl rfl rfl rfl (by kernel_rfl) Tryz.func4 (by kernel_rfl)
  (of_decide_eq_true (by kernel_rfl)) (by unfold Func.isWrapper; first | (rw [if_pos (by decide +kernel)]; kernel_rfl) | (rw [if_neg (by decide +kernel)]; exact ⟨rfl, rfl⟩))
  (fun os started H enc _ F => by rw [OpenClaim.pre_eq_preRow]; exact lifted_loginLocks os started H enc F)
theorem plain_loginLocks (f : FuncId) (fn : Func) (hf : Tryz.pinned.checked.prog.funcNamed "seneschal/seneschallaw15.LoginLocks" = some f) (hfn : Tryz.pinned.checked.prog.funcs[f]? = some fn) :
  true = Tryz.pinned.checked.prog.looks [] ∧ ∀ (j : Nat) t, fn.params[j]? = some t → Tryz.pinned.checked.prog.wantsStandIn t = false := by
 obtain rfl : f = 4 := osi ((show Tryz.prog.funcNamed "seneschal/seneschallaw15.LoginLocks" = some 4 by kernel_rfl).symm.trans hf) |>.symm
 obtain rfl : fn = Tryz.f4 := (osi (Tryz.func4.symm.trans hfn)).symm
 refine ⟨by kernel_rfl, fun j t ht => ?_⟩
 rw [Tryz.params4] at ht
 have hm : t ∈ [9, 41, 3] := by simpa using Array.mem_of_getElem? ht
 have hall : ([9, 41, 3].all fun u => !Tryz.prog.wantsStandIn u) = true := by kernel_rfl
 exact (show Tryz.prog.wantsStandIn t = false by simpa using List.all_eq_true.1 hall t hm)
theorem loginLocks_said : Rows.LoginLocksUptoCardSaid :=
 Claim7.holds_tied_plain_at .later [] _ _ _ _ loginLocks_row (fun _ h => by cases h) (by kernel_rfl) (fun _ h => by cases h) loginLocksUpto_row_tie rfl ⟨rfl, rfl⟩ (by kernel_rfl) rfl plain_loginLocks (by kernel_rfl)
end
end Go.Proofs.YtmkomlbiaebddaaGreatDoor
