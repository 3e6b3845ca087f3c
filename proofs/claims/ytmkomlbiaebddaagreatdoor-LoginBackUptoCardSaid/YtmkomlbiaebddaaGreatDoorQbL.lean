/- The document's layer 4: its sums and macs are package hash's: plain laws. A machine over plain values: the document's macs. What some functions compute, over plain values, and that they do. Numbers as texts, and back: plain laws. From a walk of a law to what is said of it: parts that the laws over texts share. What a law's arguments are, as plain values. A login with one user: plain laws. Rows of texts go there and back: plain laws. Conditions: as each theorem says. -/
import Derived.KernelRfl
import Derived.Test.YtmkomlbiaebddaaGreatDoorRows
import Derived.Test.YtmkomlbiaebddaaGreatDoorTie
import Derived.Test.YtmkomlbiaebddaaGreatDoorCards
import Derived.ProofKit
import Derived.OpenShut
import Derived.Carry
import Derived.JoinedCond
import Derived.ChangeMaps5
import Derived.Deep.SlicePairs
import Derived.Deep.DeepHandedRow
import Derived.Lib.LaidTab
import Derived.SevenTiedAt
import Derived.Test.YtmkomlbiaebddaaGreatDoorQbK
namespace Go.Proofs.YtmkomlbiaebddaaGreatDoor
open Go Go.RowKit
theorem i8n {n : Nat} {x : Int} (h : x = (n : Int)) : (i8 x).toNat = n % 256 := by subst h; simp [i8]; omega
theorem i32n {n : Nat} {x : Int} (h : x = (n : Int)) : (i32 x).toNat = n % 4294967296 := by subst h; simp [i32]; omega
theorem i64n {n : Nat} {x : Int} (h : x = (n : Int)) : (i64 x).toNat = n % 18446744073709551616 := by subst h; simp [i64]; omega
theorem xaE (a : Nat) {k : Nat} (hk : k ≤ 64) : shrI .u64 (a : Int) (k : Int) = ((a / 2 ^ k : Nat) : Int) := by
 unfold shrI
 rw [show min ((k : Int)).toNat IntKind.u64.bits = k by show min k 64 = k; omega]; exact zwJ k
theorem xfS (a : Nat) {k : Nat} (hk : k ≤ 32) : shrI .u32 (a : Int) (k : Int) = ((a / 2 ^ k : Nat) : Int) := by
 unfold shrI
 rw [show min ((k : Int)).toNat IntKind.u32.bits = k by show min k 32 = k; omega]; exact zwJ k
theorem yqR (x : UInt64) {i : Nat} (hi : i ≤ 8) : (byF x i).toNat = x.toNat / 2 ^ (8 * i) % 256 := by
 unfold byF
 rw [i8n rfl, i64n (xaE x.toNat (by omega))]
 have : x.toNat / 2 ^ (8 * i) ≤ x.toNat := Nat.div_le_self _ _
 have := x.toNat_lt
 rw [Nat.mod_eq_of_lt (a := x.toNat / 2 ^ (8 * i)) (by omega)]
theorem yuG (x : UInt32) : zjN x = some (beF (i64 (x.toNat : Int)) 4) := by
 unfold zjN
 have hx := x.toNat_lt
 have e64 : (i64 (x.toNat : Int)).toNat = x.toNat := by rw [i64n rfl]; omega
 have b : ∀ k : Nat, k ≤ 32 → (i8 (((i32 (shrI .u32 ((x).toNat : Int) (k : Int)))).toNat : Int)).toNat = x.toNat / 2 ^ k % 256 := fun k hk => by
  rw [i8n rfl, i32n (xfS x.toNat hk)]
  have : x.toNat / 2 ^ k ≤ x.toNat := Nat.div_le_self _ _
  rw [Nat.mod_eq_of_lt (a := x.toNat / 2 ^ k) (by omega)]
 have e : ∀ (k i : Nat), k = 8 * i → k ≤ 24 → i8 (((i32 (shrI .u32 ((x).toNat : Int) (k : Int)))).toNat : Int) = byF (i64 (x.toNat : Int)) i := fun k i h hk => by
  apply UInt8.toNat_inj.1
  rw [b k (by omega), yqR _ (by omega), e64, h]
 have e0 : i8 ((x).toNat : Int) = byF (i64 (x.toNat : Int)) 0 := by
  apply UInt8.toNat_inj.1
  rw [i8n rfl, yqR _ (by omega), e64]; simp
 simp only [beF]
 rw [show (24 : Int) = ((24 : Nat) : Int) from rfl, show (16 : Int) = ((16 : Nat) : Int) from rfl, show (8 : Int) = ((8 : Nat) : Int) from rfl, e 24 3 rfl (by decide), e 16 2 rfl (by decide), e 8 1 rfl (by decide), e0]
theorem xbX (n : UInt64) : beF (i64 (((i32 (((i64 (shrI .u64 ((n).toNat : Int) 32))).toNat : Int))).toNat : Int)) 4 ++ beF (i64 (((i32 (((n &&& (4294967295 : UInt64))).toNat : Int))).toNat : Int)) 4 = beF n 8 := by
 have hn := n.toNat_lt
 have h1 : (i64 (((i32 (((i64 (shrI .u64 ((n).toNat : Int) 32))).toNat : Int))).toNat : Int)).toNat = n.toNat / 4294967296 := by
  rw [i64n rfl, i32n rfl, show (32 : Int) = ((32 : Nat) : Int) from rfl, i64n (xaE n.toNat (by decide))]; omega
 have h2 : (i64 (((i32 (((n &&& (4294967295 : UInt64))).toNat : Int))).toNat : Int)).toNat = n.toNat % 4294967296 := by
  rw [i64n rfl, i32n rfl, UInt64.toNat_and, show (4294967295 : UInt64).toNat = 2 ^ 32 - 1 from rfl, Nat.and_two_pow_sub_one_eq_mod]; omega
 have k1 : ∀ i, i ≤ 3 → byF (i64 (((i32 (((i64 (shrI .u64 ((n).toNat : Int) 32))).toNat : Int))).toNat : Int)) i = byF n (4 + i) := fun i hi => by
  apply UInt8.toNat_inj.1
  rw [yqR _ (by omega), yqR _ (by omega), h1]
  rcases (by omega : i = 0 ∨ i = 1 ∨ i = 2 ∨ i = 3) with rfl | rfl | rfl | rfl <;> simp only [Nat.reduceMul, Nat.reduceAdd, Nat.reducePow] <;> omega
 have k2 : ∀ i, i ≤ 3 → byF (i64 (((i32 (((n &&& (4294967295 : UInt64))).toNat : Int))).toNat : Int)) i = byF n i := fun i hi => by
  apply UInt8.toNat_inj.1
  rw [yqR _ (by omega), yqR _ (by omega), h2]
  rcases (by omega : i = 0 ∨ i = 1 ∨ i = 2 ∨ i = 3) with rfl | rfl | rfl | rfl <;> simp only [Nat.reduceMul, Nat.reduceAdd, Nat.reducePow] <;> omega
 simp only [beF]
 rw [k1 3 (by decide), k1 2 (by decide), k1 1 (by decide), k1 0 (by decide), k2 3 (by decide), k2 2 (by decide), k2 1 (by decide), k2 0 (by decide)]; rfl
theorem yuA (a : Nat) {k : Nat} (hk : k ≤ 32) : (i32 (shlI .u32 (a : Int) (k : Int))).toNat = a * 2 ^ k % 4294967296 := by
 rw [i32n (n := a * 2 ^ k % 4294967296)]
 ·exact Nat.mod_mod _ _
 ·unfold shlI
  rw [show min ((k : Int)).toNat IntKind.u32.bits = k by show min k 32 = k; omega, zbI, show (a : Int) * 2 ^ k = ((a * 2 ^ k : Nat) : Int) by simp, i32n rfl]
theorem shl64n (a : Nat) {k : Nat} (hk : k ≤ 64) : (i64 (shlI .u64 (a : Int) (k : Int))).toNat = a * 2 ^ k % 18446744073709551616 := by
 rw [i64n (n := a * 2 ^ k % 18446744073709551616)]
 ·exact Nat.mod_mod _ _
 ·unfold shlI
  rw [show min ((k : Int)).toNat IntKind.u64.bits = k by show min k 64 = k; omega, zbY, show (a : Int) * 2 ^ k = ((a * 2 ^ k : Nat) : Int) by simp, i64n rfl]
theorem ynX (k : Nat) {a b : Nat} (h : b < 2 ^ k) : a * 2 ^ k ||| b = a * 2 ^ k + b := by rw [Nat.mul_comm]; exact (Nat.two_pow_add_eq_or_of_lt h a).symm
theorem zgV (s : UInt64) (b : UInt8) (h : s.toNat < 2 ^ 56) : ((i64 (shlI .u64 (s.toNat : Int) 8)) ||| (i64 (b.toNat : Int))).toNat = s.toNat * 256 + b.toNat := by
 have hb := b.toNat_lt
 rw [UInt64.toNat_or, show (8 : Int) = ((8 : Nat) : Int) from rfl, shl64n _ (by decide), i64n rfl, Nat.mod_eq_of_lt (a := s.toNat * 2 ^ 8) (by omega), Nat.mod_eq_of_lt (a := b.toNat) (by omega), ynX 8 (by omega)]
theorem xbZ (a b c d : UInt8) : ((((i32 (shlI .u32 (((i32 ((a).toNat : Int))).toNat : Int) 24)) ||| (i32 (shlI .u32 (((i32 ((b).toNat : Int))).toNat : Int) 16))) ||| (i32 (shlI .u32 (((i32 ((c).toNat : Int))).toNat : Int) 8))) ||| (i32 ((d).toNat : Int))) = i32 (((valF [a, b, c, d]).toNat : Int)) := by
 have ha := a.toNat_lt; have hb := b.toNat_lt; have hc := c.toNat_lt; have hd := d.toNat_lt
 apply UInt32.toNat_inj.1
 have h0 : ∀ x : UInt8, (i32 ((x).toNat : Int)).toNat = x.toNat := fun x => by have := x.toNat_lt; rw [i32n rfl]; omega
 rw [UInt32.toNat_or, UInt32.toNat_or, UInt32.toNat_or, show (24 : Int) = ((24 : Nat) : Int) from rfl, show (16 : Int) = ((16 : Nat) : Int) from rfl, show (8 : Int) = ((8 : Nat) : Int) from rfl, yuA _ (by decide), yuA _ (by decide), yuA _ (by decide), h0, h0, h0, h0, i32n rfl]
 have e1 : (valF [a, b, c, d]).toNat = ((a.toNat * 256 + b.toNat) * 256 + c.toNat) * 256 + d.toNat := by
  unfold valF
  simp only [List.foldl_cons, List.foldl_nil]
  have z : (0 : UInt64).toNat = 0 := rfl
  rw [zgV _ d (by rw [zgV _ c (by rw [zgV _ b (by rw [zgV _ a (by rw [z]; decide), z]; omega), zgV _ a (by rw [z]; decide), z]; omega), zgV _ b (by rw [zgV _ a (by rw [z]; decide), z]; omega), zgV _ a (by rw [z]; decide), z]; omega), zgV _ c (by rw [zgV _ b (by rw [zgV _ a (by rw [z]; decide), z]; omega), zgV _ a (by rw [z]; decide), z]; omega), zgV _ b (by rw [zgV _ a (by rw [z]; decide), z]; omega), zgV _ a (by rw [z]; decide), z]; omega
 rw [e1, Nat.mod_eq_of_lt (a := a.toNat * 2 ^ 24) (by omega), Nat.mod_eq_of_lt (a := b.toNat * 2 ^ 16) (by omega), Nat.mod_eq_of_lt (a := c.toNat * 2 ^ 8) (by omega)]
 rw [ynX 24 (b := b.toNat * 2 ^ 16) (by omega), show a.toNat * 2 ^ 24 + b.toNat * 2 ^ 16 = (a.toNat * 2 ^ 8 + b.toNat) * 2 ^ 16 by omega, ynX 16 (b := c.toNat * 2 ^ 8) (by omega), show (a.toNat * 2 ^ 8 + b.toNat) * 2 ^ 16 + c.toNat * 2 ^ 8 = ((a.toNat * 2 ^ 8 + b.toNat) * 2 ^ 8 + c.toNat) * 2 ^ 8 by omega, ynX 8 (by omega)]
 omega
def l8 (s : St8) : List UInt32 := [s.1, s.2.1, s.2.2.1, s.2.2.2.1, s.2.2.2.2.1, s.2.2.2.2.2.1, s.2.2.2.2.2.2.1, s.2.2.2.2.2.2.2]
theorem yjR {l : List UInt32} {k : Nat} {u : UInt32} (h : k < l.length) : setL l (k : Int) u = some (l.set k u) := by
 unfold setL
 rw [show (decide (0 ≤ (k : Int)) && decide ((k : Int) < (l.length : Int))) = true by simp; exact h]; rfl
theorem rorR (x : UInt32) (n : Nat) (hn : n ≤ 32) : zeI x (n : Int) = some (rr x n) := by
 unfold zeI
 have e : w64 ((32 : Int) - (n : Int)) = ((32 - n : Nat) : Int) := by rw [zbB (by omega) (by omega)]; omega
 rw [zgY (decide_eq_true (by omega)), zaA, e, zgY (decide_eq_true (by omega)), zaA, rr, UInt32.or_comm]
theorem R_b3 {b : Bs} {j : Nat} (h : 64 * (j + 1) ≤ b.length) (hl : b.length ≤ 68719476736) (s : List UInt32) :
  iter (zvW b (((64 * j : Nat) : Int), s)) (0, List.replicate 64 (0 : UInt32)) = some (W1 ((b.drop (64 * j)).take 64) 16).l := by
 refine zaW (fun k => ((k : Int), (W1 ((b.drop (64 * j)).take 64) k).l)) 16 (by decide) _ (fun k hk => ?_) ?_
 ·unfold zvW
  have e1 : w64 ((4 : Int) * (k : Int)) = ((4 * k : Nat) : Int) := zbB (by omega) (by omega)
  have e2 : w64 (((64 * j : Nat) : Int) + ((4 * k : Nat) : Int)) = ((64 * j + 4 * k : Nat) : Int) := by rw [zbB (by omega) (by omega)]; omega
  have e3 : ∀ c : Nat, c ≤ 3 → w64 (((64 * j + 4 * k : Nat) : Int) + (c : Int)) = ((64 * j + 4 * k + c : Nat) : Int) := fun c hc => by rw [zbB (by omega) (by omega)]; omega
  have hw := (W1 ((b.drop (64 * j)).take 64) k).h
  rw [zbE (by omega)]
  simp only [e1, e2]
  rw [show (1 : Int) = ((1 : Nat) : Int) from rfl, show (2 : Int) = ((2 : Nat) : Int) from rfl, show (3 : Int) = ((3 : Nat) : Int) from rfl, e3 1 (by decide), e3 2 (by decide), e3 3 (by decide)]
  rw [zcN (l := b) rfl (by omega), zaA, zcN (l := b) rfl (by omega), zaA, zcN (l := b) rfl (by omega), zaA, zcN (l := b) rfl (by omega), zaA, zjF rfl (by omega), zaA, yjR (by rw [hw]; omega), zaA, xbZ, show ((1 : Nat) : Int) = 1 from rfl, w64s k (by omega)]
  have hd : (((b.drop (64 * j)).take 64).take (4 * k + 4)).drop (4 * k) = [b[64 * j + 4 * k]'(by omega), b[64 * j + 4 * k + 1]'(by omega), b[64 * j + 4 * k + 2]'(by omega), b[64 * j + 4 * k + 3]'(by omega)] := by
   apply List.ext_getElem
   ·simp only [List.length_drop, List.length_take, List.length_cons, List.length_nil]; omega
   ·intro i h1 h2
    simp only [List.length_cons, List.length_nil] at h2
    rcases (by omega : i = 0 ∨ i = 1 ∨ i = 2 ∨ i = 3) with rfl | rfl | rfl | rfl <;> simp [List.getElem_drop, List.getElem_take, Nat.add_assoc]
  simp only [W1, hd, vset]
 ·unfold zvW
  rw [zaV (by omega)]
theorem R_b4 (w : Vec UInt32 64) : iter zvX (16, w.l) = some (W2 w 48).l := by
 refine zaW (fun k => (((16 + k : Nat) : Int), (W2 w k).l)) 48 (by decide) _ (fun k hk => ?_) ?_
 ·unfold zvX
  have e : ∀ (a : Int) (b : Nat), a = (b : Int) → b < 64 → w64 a = (b : Int) := fun a b e h => by rw [e]; exact w64n (by omega)
  have hw := (W2 w k).h
  rw [zbE (by omega)]
  simp only [e (((16 + k : Nat) : Int) - 15) (k + 1) (by omega) (by omega), e (((16 + k : Nat) : Int) - 2) (k + 14) (by omega) (by omega), e (((16 + k : Nat) : Int) - 16) k (by omega) (by omega), e (((16 + k : Nat) : Int) - 7) (k + 9) (by omega) (by omega)]
  simp only [zjF (x := W2 w k) (i := k + 1) rfl (by omega), zjF (x := W2 w k) (i := k + 14) rfl (by omega), zjF (x := W2 w k) (i := k) rfl (by omega), zjF (x := W2 w k) (i := k + 9) rfl (by omega), zjF (x := W2 w k) (i := 16 + k) rfl (by omega), zaA]
  rw [show (7 : Int) = ((7 : Nat) : Int) from rfl, show (18 : Int) = ((18 : Nat) : Int) from rfl, show (17 : Int) = ((17 : Nat) : Int) from rfl, show (19 : Int) = ((19 : Nat) : Int) from rfl, rorR _ 7 (by decide), zaA, rorR _ 18 (by decide), zaA, rorR _ 17 (by decide), zaA, rorR _ 19 (by decide), zaA, yjR (by rw [hw]; omega), zaA, w64s (16 + k) (by omega)]
  rfl
 ·unfold zvX
  rw [zaV (by omega)]
theorem R_b5 (K w : Vec UInt32 64) (s : St8) : iter (zxK K.l w.l) (l8 s, 0) = some (l8 (R3 K w s 64)) := by
 refine zaW (fun k => (l8 (R3 K w s k), (k : Int))) 64 (by decide) _ (fun k hk => ?_) ?_
 ·unfold zxK
  rw [zbE (by omega)]
  have i0 : ∀ t : St8, idx (l8 t) 0 = some t.1 := fun _ => rfl
  have i1 : ∀ t : St8, idx (l8 t) 1 = some t.2.1 := fun _ => rfl
  have i2 : ∀ t : St8, idx (l8 t) 2 = some t.2.2.1 := fun _ => rfl
  have i3 : ∀ t : St8, idx (l8 t) 3 = some t.2.2.2.1 := fun _ => rfl
  have i4 : ∀ t : St8, idx (l8 t) 4 = some t.2.2.2.2.1 := fun _ => rfl
  have i5 : ∀ t : St8, idx (l8 t) 5 = some t.2.2.2.2.2.1 := fun _ => rfl
  have i6 : ∀ t : St8, idx (l8 t) 6 = some t.2.2.2.2.2.2.1 := fun _ => rfl
  have i7 : ∀ t : St8, idx (l8 t) 7 = some t.2.2.2.2.2.2.2 := fun _ => rfl
  have r6 : ∀ x, zeI x 6 = some (rr x 6) := fun x => rorR x 6 (by decide)
  have r11 : ∀ x, zeI x 11 = some (rr x 11) := fun x => rorR x 11 (by decide)
  have r25 : ∀ x, zeI x 25 = some (rr x 25) := fun x => rorR x 25 (by decide)
  have r2 : ∀ x, zeI x 2 = some (rr x 2) := fun x => rorR x 2 (by decide)
  have r13 : ∀ x, zeI x 13 = some (rr x 13) := fun x => rorR x 13 (by decide)
  have r22 : ∀ x, zeI x 22 = some (rr x 22) := fun x => rorR x 22 (by decide)
  simp only [i0, i1, i2, i3, i4, i5, i6, i7, r6, r11, r25, r2, r13, r22, zaA, zjF (x := K) (i := k) rfl hk, zjF (x := w) (i := k) rfl hk]
  rw [w64s k (by omega)]
  rfl
 ·unfold zxK
  rw [zaV (by omega)]
theorem zpP (a b : UInt32) : ad8 a b = ad8 b a := by unfold ad8; rw [Int.add_comm]
def pt8' (v s : St8) (k : Nat) : St8 := (if 0 < k then ad8 s.1 v.1 else s.1, if 1 < k then ad8 s.2.1 v.2.1 else s.2.1, if 2 < k then ad8 s.2.2.1 v.2.2.1 else s.2.2.1, if 3 < k then ad8 s.2.2.2.1 v.2.2.2.1 else s.2.2.2.1, if 4 < k then ad8 s.2.2.2.2.1 v.2.2.2.2.1 else s.2.2.2.2.1, if 5 < k then ad8 s.2.2.2.2.2.1 v.2.2.2.2.2.1 else s.2.2.2.2.2.1, if 6 < k then ad8 s.2.2.2.2.2.2.1 v.2.2.2.2.2.2.1 else s.2.2.2.2.2.2.1, if 7 < k then ad8 s.2.2.2.2.2.2.2 v.2.2.2.2.2.2.2 else s.2.2.2.2.2.2.2)
theorem R_b6 (v s : St8) : iter (ykE (l8 v)) (0, l8 s) = some (l8 (add8 v s)) := by
 have : l8 (add8 v s) = l8 (pt8' v s 8) := by simp only [add8, zpP v.1, zpP v.2.1, zpP v.2.2.1, zpP v.2.2.2.1, zpP v.2.2.2.2.1, zpP v.2.2.2.2.2.1, zpP v.2.2.2.2.2.2.1, zpP v.2.2.2.2.2.2.2]; rfl
 rw [this]
 refine zaW (fun k => ((k : Int), l8 (pt8' v s k))) 8 (by decide) _ (fun k hk => ?_) ?_
 ·rcases (by omega : k = 0 ∨ k = 1 ∨ k = 2 ∨ k = 3 ∨ k = 4 ∨ k = 5 ∨ k = 6 ∨ k = 7) with rfl | rfl | rfl | rfl | rfl | rfl | rfl | rfl <;> rfl
 ·rfl
theorem R_b2 (K : Vec UInt32 64) {b : Bs} (h : b.length % 64 = 0) (hl : b.length ≤ 68719476736) :
  iter (zwN K.l b) (0, l8 ini8) = some (l8 (zjC K b (b.length / 64))) := by
 refine zaW (fun k => (((64 * k : Nat) : Int), l8 (zjC K b k))) (b.length / 64) (by omega) _ (fun k hk => ?_) ?_
 ·unfold zwN
  have hz : mkL 64 (0 : UInt32) = some (List.replicate 64 0) := xbC (n := 64) (by decide)
  have ha : app ([] : List UInt32) (l8 (zjC K b k)) = some (l8 (zjC K b k)) := zbT (a := []) (by simp [l8])
  rw [zbE (by omega)]
  simp only []
  rw [hz, zaA, R_b3 (by omega) hl, zaA, zaA, R_b4, zaA, zaA, ha, zaA, R_b5, zaA, zaA, R_b6, zaA, zaA, zbB (by omega) (by omega)]
  rw [show ((64 * k : Nat) : Int) + 64 = ((64 * (k + 1) : Nat) : Int) by omega]
  rfl
 ·unfold zwN
  rw [zaV (by omega)]
theorem R_b7 (s : St8) : iter (zxG (l8 s)) (0, ([] : Bs)) = some (outF s) := by
 rw [← ykT]
 refine zaW (fun k => ((k : Int), outN s k)) 8 (by decide) _ (fun k hk => ?_) ?_
 ·unfold zxG
  have e : idx (l8 s) (k : Int) = some (at8 s k) := by
   rcases (by omega : k = 0 ∨ k = 1 ∨ k = 2 ∨ k = 3 ∨ k = 4 ∨ k = 5 ∨ k = 6 ∨ k = 7) with rfl | rfl | rfl | rfl | rfl | rfl | rfl | rfl <;> rfl
  rw [zbE (by omega), e, zaA, yuG, zaA, zbT (by rw [zzZ, zoO]; omega), zaA, w64s k (by omega)]
  rfl
 ·unfold zxG
  rw [zaV (by omega)]
theorem R_ini : (Option.bind (zpB 8) fun y8 => iter (yhK y8) ((0, List.replicate 8 (0 : UInt32)))) = some (l8 ini8) := of_decide_eq_true (by kernel_rfl)
def prL : List UInt64 := [2, 3, 5, 7, 11, 13, 17, 19, 23, 29, 31, 37, 41, 43, 47, 53, 59, 61, 67, 71, 73, 79, 83, 89, 97, 101, 103, 107, 109, 113, 127, 131, 137, 139, 149, 151, 157, 163, 167, 173, 179, 181, 191, 193, 197, 199, 211, 223, 227, 229, 233, 239, 241, 251, 257, 263, 269, 271, 277, 281, 283, 293, 307, 311]
theorem R_pr : zpB 64 = some prL := of_decide_eq_true (by kernel_rfl)
def rkB (a : Nat) : Bool := (List.range 8).all fun i => zrI (prL.getD (a + i) 0) 3 == some (zoV.l.getD (a + i) 0)
theorem rk0 : rkB (8 * 0) = true := by kernel_rfl
theorem rk1 : rkB (8 * 1) = true := by kernel_rfl
theorem rk2 : rkB (8 * 2) = true := by kernel_rfl
theorem rk3 : rkB (8 * 3) = true := by kernel_rfl
theorem rk4 : rkB (8 * 4) = true := by kernel_rfl
theorem rk5 : rkB (8 * 5) = true := by kernel_rfl
theorem rk6 : rkB (8 * 6) = true := by kernel_rfl
theorem rk7 : rkB (8 * 7) = true := by kernel_rfl
theorem xfO {i : Nat} (h : i < 64) : zrI (prL.getD i 0) 3 = some (zoV.l.getD i 0) := by
 have key : ∀ a j, rkB a = true → j < 8 → zrI (prL.getD (a + j) 0) 3 = some (zoV.l.getD (a + j) 0) := fun a j ha hj =>
  eq_of_beq (List.all_eq_true.1 ha j (List.mem_range.2 hj))
 have e : i = 8 * (i / 8) + i % 8 := by omega
 rw [e]
 refine key _ _ ?_ (Nat.mod_lt _ (by decide))
 rcases (by omega : i / 8 = 0 ∨ i / 8 = 1 ∨ i / 8 = 2 ∨ i / 8 = 3 ∨ i / 8 = 4 ∨ i / 8 = 5 ∨ i / 8 = 6 ∨ i / 8 = 7) with h | h | h | h | h | h | h | h <;> rw [h]
 ·exact rk0
 ·exact rk1
 ·exact rk2
 ·exact rk3
 ·exact rk4
 ·exact rk5
 ·exact rk6
 ·exact rk7
theorem yuL : zwZ = some zoV.l := by
 unfold zwZ
 have hl : zoV.l.length = 64 := zoV.h
 have hp : prL.length = 64 := rfl
 have key : iter (zuK prL) (0, ([] : List UInt32)) = some zoV.l := by
  refine zaW (fun k => ((k : Int), zoV.l.take k)) 64 (by decide) _ (fun k hk => ?_) ?_
  ·unfold zuK
   have h1 := xfO hk
   rw [List.getD_eq_getElem?_getD, List.getElem?_eq_getElem (by omega), List.getD_eq_getElem?_getD, List.getElem?_eq_getElem (by omega), Option.getD_some, Option.getD_some] at h1
   rw [zbE (by omega), zcN rfl (by omega), zaA, h1, zaA, zbT (by rw [List.length_take, List.length_cons, List.length_nil]; omega), zaA, w64s k (by omega), yaX (by omega)]
  ·unfold zuK
   rw [zaV (by omega), List.take_of_length_le (by omega)]
 rw [R_pr, zaA, key]; rfl
theorem xeP {l : Bs} (h : l.length ≤ 68719470000) : zrZ l zoV.l = some (shaF l) := by
 unfold zrZ
 have hp : iter yiC (l ++ [128]) = some (ybQ l) := xaT h
 have hb := ygB l
 have hz : mkL 8 (0 : UInt32) = some (List.replicate 8 0) := xbC (n := 8) (by decide)
 obtain ⟨pr, h8, hi⟩ := Option.bind_eq_some_iff.1 R_ini
 rw [zbT (by rw [List.length_cons, List.length_nil]; omega), zaA, hp, zaA, zaA, yuG, zaA, zbT (by rw [zoO]; omega), zaA, yuG, zaA, zbT (by rw [List.length_append, zoO, zoO]; omega), zaA, List.append_assoc, xbX, hz, zaA, h8, zaA, hi, zaA, zaA]
 rw [show ybQ l ++ beF (i64 ((8 : Int) * (((i64 ((l.length : Int)))).toNat : Int))) 8 = msgF l from rfl, R_b2 zoV (ymY l) (by have := yuT l; omega), zaA, zaA, R_b7]
 rfl
def padX (x : UInt8) (l : Bs) : Nat → Bs
 | 0 => l
 | k + 1 => (padX x l k).set k ((padX x l k).getD k 0 ^^^ x)
theorem zzV (x : UInt8) (l : Bs) : ∀ k, (padX x l k).length = l.length
 | 0 => rfl
 | k + 1 => by rw [padX, List.length_set, zzV x l k]
theorem ylF (x : UInt8) (l : Bs) (i : Nat) (hi : i < l.length) : ∀ k, (padX x l k).getD i 0 = if i < k then l.getD i 0 ^^^ x else l.getD i 0
 | 0 => by simp [padX]
 | k + 1 => by
  have hl := zzV x l k
  rw [padX, List.getD_eq_getElem?_getD, List.getElem?_set]
  by_cases h : k = i
  ·subst h
   have := ylF x l k hi k
   rw [if_neg (by omega)] at this
   rw [if_pos rfl, if_pos (by omega), if_pos (by omega), Option.getD_some, this]
  ·rw [if_neg h, ← List.getD_eq_getElem?_getD, ylF x l i hi k]
   by_cases h2 : i < k
   ·rw [if_pos h2, if_pos (by omega)]
   ·rw [if_neg h2, if_neg (by omega)]
theorem yfG (c : UInt8) (key : Bs) (i : Nat) (hi : i < 64) : ∀ k, (zlP c key k).getD i 0 = if i < k then c ^^^ key.getD i 0 else c
 | 0 => by
  rw [zlP, List.getD_eq_getElem?_getD, List.getElem?_replicate, if_pos hi, if_neg (Nat.not_lt_zero i)]; rfl
 | k + 1 => by
  have hl := zkN c key k
  rw [zlP, List.getD_eq_getElem?_getD, List.getElem?_set]
  by_cases h : k = i
  ·subst h
   have := yfG c key k hi k
   rw [if_neg (by omega)] at this
   rw [if_pos rfl, if_pos (by omega), if_pos (by omega), Option.getD_some, this]
  ·rw [if_neg h, ← List.getD_eq_getElem?_getD, yfG c key i hi k]
   by_cases h2 : i < k
   ·rw [if_pos h2, if_pos (by omega)]
   ·rw [if_neg h2, if_neg (by omega)]
theorem yyI (c : UInt8) (key : Bs) (hk : key.length ≤ 64) : padX c (key ++ List.replicate (64 - key.length) 0) 64 = zlP c key key.length := by
 have hl : (key ++ List.replicate (64 - key.length) (0 : UInt8)).length = 64 := by simp; omega
 have h1 := zzV c (key ++ List.replicate (64 - key.length) (0 : UInt8)) 64
 have h2 := zkN c key key.length
 apply List.ext_getElem (by rw [h1, h2, hl])
 intro i hi hi2
 rw [h1, hl] at hi
 have e1 := ylF c (key ++ List.replicate (64 - key.length) (0 : UInt8)) i (by omega) 64
 have e2 := yfG c key i hi key.length
 rw [List.getD_eq_getElem?_getD, List.getElem?_eq_getElem (by omega), Option.getD_some, if_pos hi] at e1
 rw [List.getD_eq_getElem?_getD, List.getElem?_eq_getElem (by omega), Option.getD_some] at e2
 rw [e1, e2]
 by_cases h : i < key.length
 ·rw [if_pos h, List.getD_eq_getElem?_getD, List.getElem?_append_left h, ← List.getD_eq_getElem?_getD, UInt8.xor_comm]
 ·rw [if_neg h, List.getD_eq_getElem?_getD, List.getElem?_append_right (by omega), List.getElem?_replicate, if_pos (by omega), Option.getD_some]
  simp
theorem yvP {key : Bs} {x : UInt8} (h : key.length ≤ 68719470000) : zpE key x zoV.l = some (zlP x (keyF key) (keyF key).length) := by
 unfold zpE
 have hk := yoT key
 have e : (bif decide ((64 : Int) < ((key).length : Int)) then (Option.bind (zrZ key zoV.l) fun y1 => some (y1)) else (some (key))) = some (keyF key) := by
  unfold keyF
  by_cases h2 : 64 < key.length
  ·rw [zbE (by omega), zbE h2, xeP h]; rfl
  ·rw [zaV (by omega), zaV h2]
 have h0 : iter zmP (keyF key) = some (keyF key ++ List.replicate (64 - (keyF key).length) 0) := by
  have := zaW (body := zmP) (fun k => keyF key ++ List.replicate k (0 : UInt8)) (64 - (keyF key).length) (by omega) (keyF key ++ List.replicate (64 - (keyF key).length) 0) (fun k hk2 => by
   unfold zmP
   have hl : (keyF key ++ List.replicate k (0 : UInt8)).length = (keyF key).length + k := by simp
   rw [hl, zbE (by omega), zbT (by rw [hl, List.length_cons, List.length_nil]; omega), zaA, List.append_assoc, ← List.replicate_succ']) (by
   unfold zmP
   rw [zaV (by simp; omega)])
  simpa using this
 rw [e, zaA, h0, zaA, zaA]
 have hl : (keyF key ++ List.replicate (64 - (keyF key).length) (0 : UInt8)).length = 64 := by simp; omega
 rw [← yyI x (keyF key) hk]
 generalize keyF key ++ List.replicate (64 - (keyF key).length) (0 : UInt8) = L at hl
 have h1 : iter (zpV x) (0, L) = some (padX x L 64) := by
  refine zaW (fun k => ((k : Int), padX x L k)) 64 (by decide) _ (fun k hk2 => ?_) ?_
  ·unfold zpV
   have hp : k < (padX x L k).length := by rw [zzV]; omega
   rw [zbE (by omega)]
   simp only []
   rw [idxD hp, zaA, zaA, zwT hp, zaA, w64s k (by omega)]
   rfl
  ·unfold zpV
   rw [zaV (by omega)]
 rw [h1]; rfl
theorem macR {key s : Bs} (hk : key.length ≤ 68719470000) (hs : s.length ≤ 68719460000) : zpR key s = some (macF key s) := by
 unfold zpR zwO
 have l2 := zkN 92 (keyF key) (keyF key).length
 have l1 := zkN 54 (keyF key) (keyF key).length
 have hi : (zlP 54 (keyF key) (keyF key).length ++ s).length ≤ 68719470000 := by rw [List.length_append, l1]; omega
 have ho : (zlP 92 (keyF key) (keyF key).length ++ shaF (zlP 54 (keyF key) (keyF key).length ++ s)).length ≤ 68719470000 := by rw [List.length_append, l2, zzT]; omega
 rw [yuL, zaA, yvP hk, zaA, yvP hk, zaA, zbT (by rw [← List.length_append]; omega), zaA, xeP hi, zaA, zbT (by rw [← List.length_append]; omega), zaA, xeP ho]
 rfl
end Go.Proofs.YtmkomlbiaebddaaGreatDoor
namespace Go.Proofs.YtmkomlbiaebddaaGreatDoor.Am
open Go Go.RowKit
section
variable {G : List (Nat × Obj)}
def yjN : Option (List UInt32) := some zoV.l
def zsA : PC := ⟨[], [.sl (.i .u32)], fun _ => yjN, false⟩
theorem zwW : PCok Tryz.prog G 93 zsA := by
 refine ⟨isFn Tryz.func93 (by kernel_rfl) (by kernel_rfl), fun S0 w0 us x (y : List UInt32) hG hS ha hy => ?_⟩
 cases ha
 have hy : some zoV.l = some y := hy
 cases hy
 exact (ytV hS yuL).mono fun e w' ⟨hx, v, he, hr⟩ => ⟨hx, v, he, rpL hr, fun h => by cases h⟩
def zyT (key s : Bs) (ks : List UInt32) : Option Bs := bif decide (ks = zoV.l) then macP key s else none
def zuH : PC := ⟨[.h .s, .h .s, .h (.sl (.i .u32))], [.s], fun x => zyT x.1 x.2.1 x.2.2, false⟩
theorem macR' {key s : Bs} (hk : key.length ≤ 68719470000) (hs : s.length ≤ 68719460000) : zwO key s zoV.l = some (macF key s) := by
 have h := macR hk hs
 unfold zpR at h
 rw [yuL, zaA] at h
 cases e : zwO key s zoV.l with
 | none => rw [e] at h; cases h
 | some v => rw [e] at h; exact h
theorem zyZ : PCok Tryz.prog G 94 zuH := by
 refine ⟨isFn Tryz.func94 (by kernel_rfl) (by kernel_rfl), fun S0 w0 us (x : Bs × Bs × List UInt32) (y : Bs) hG hS ha hy => ?_⟩
 have ha : A2 (VR S0 []) [svOf .s x.1, svOf .s x.2.1, svOf (.sl (.i .u32)) x.2.2] us := ha
 cases ha with
 | cons q1 q2 =>
  cases q2 with
  | cons q3 q4 =>
   cases q4 with
   | cons q5 q6 =>
    cases q6
    rename_i u
    have q5 : rep (.sl (.i .u32)) S0 [u] x.2.2 := q5
    obtain ⟨u', hu, hr⟩ := q5
    cases hu
    rw [zqD (t := .s) rfl q1, zqD (t := .s) rfl q3]
    have hy : zyT x.1 x.2.1 x.2.2 = some y := hy
    unfold zyT at hy
    obtain ⟨hb, h⟩ := zaG hy
    unfold macP at h
    obtain ⟨hc, h⟩ := zaG h
    simp only [Bool.and_eq_true, decide_eq_true_eq] at hb hc
    cases h
    rw [hb] at hr
    exact (yzF hS hr (macR' hc.1 hc.2)).mono fun e w' ⟨he, hx⟩ => ⟨hx, _, he, zwD (l := [.s]) rfl, fun h => by cases h⟩
end
def τWkD : TE := [(3, ⟨.int .i64, 1, [.v (.i .i64) (show Int from 0)], (.i .i64), 8⟩),
 (5, ⟨.int .u8, 1, [.v (.i .u8) (show UInt8 from 0)], (.i .u8), 1⟩),
 (9, ⟨.s, 1, [.v .s (show Bs from [])], .s, 16⟩),
 (100, ⟨.sl 5, 1, [.nils], (.sl (.i .u8)), 24⟩),
 (133, ⟨.int .u32, 1, [.v (.i .u32) (show UInt32 from 0)], (.i .u32), 4⟩)]
theorem τ_okWkD : TEok Tryz.prog τWkD := yrR (by kernel_rfl) (by kernel_rfl)
theorem xbR : Tryz.prog.follows .mixedOrders = true := by kernel_rfl
section
variable {tabs : List (Nat × Obj)} [zqO tabs]
def zjN (v0 : UInt32) : Option Bs :=
 (chk (decide ((0 : Int) ≤ ((24 : UInt64).toNat : Int)))).bind fun _ => let v1 : UInt8 := i8 ((i32 (shrI .u32 (v0.toNat : Int) ((24 : UInt64).toNat : Int))).toNat : Int)
 (chk (decide ((0 : Int) ≤ ((16 : UInt64).toNat : Int)))).bind fun _ => let v2 : UInt8 := i8 ((i32 (shrI .u32 (v0.toNat : Int) ((16 : UInt64).toNat : Int))).toNat : Int)
 (chk (decide ((0 : Int) ≤ ((8 : UInt64).toNat : Int)))).bind fun _ => let v3 : UInt8 := i8 ((i32 (shrI .u32 (v0.toNat : Int) ((8 : UInt64).toNat : Int))).toNat : Int)
 some ([v1, v2, v3, i8 (v0.toNat : Int)] : Bs)
def ydU : PC := ⟨[(.h (.i .u32))], [(.sl (.i .u8))], fun x => zjN x, false⟩
theorem ypU : PCok Tryz.prog tabs 95 ydU := wit (G := tabs) <| ylB (η := []) (Γ := ⟨[], [], false⟩) xbR τ_okWkD (ctok trivial trivial) Tryz.func95 (isFn Tryz.func95) (by kernel_rfl) rfl (by kernel_rfl)
def zwP (v2 : Int) : Option ((Bs × Int) ⊕ Unit) :=
 bif decide (v2 < 1) then some (.inl (([] : Bs), (40 : Int))) else (bif decide (v2 > 64) then some (.inl (([] : Bs), (40 : Int))) else some (.inr ()))
def zwM (v3 : Int) : Option ((Bs × Int) ⊕ Unit) :=
 bif decide (v3 < 1) then some (.inl (([] : Bs), (41 : Int))) else (bif decide (v3 > 96) then some (.inl (([] : Bs), (41 : Int))) else some (.inr ()))
def zoF (v20 : Bs) (v21 : Int) (v22 : Bs) (v23 : Bs) : Option ((Int × Bs × Bs) ⊕ ((Bs × Bs))) :=
 bif decide (v21 < 32) then ((chk (decide ((0 : Int) ≤ v21) && decide (v21 < (v23.length : Int)))).bind fun _ => (idx v23 v21).bind fun v24 => (idx v20 v21).bind fun v25 => (chk (decide ((0 : Int) ≤ v21) && decide (v21 < (v23.length : Int)))).bind fun _ => (setL v23 v21 (v24 ^^^ v25)).bind fun v26 => some (.inl (w64 (v21 + 1), v22, v26))) else some (.inr (v22, v23))
def zoE (v0 : Bs) (v2 : Int) (v10 : List UInt32) (v16 : Bs) (v17 : Int) (v18 : Bs) (v19 : Bs) : Option ((Bs × Int × Bs × Bs) ⊕ ((Bs × Bs))) :=
 bif decide (v17 < v2) then ((zyT v0 v16 v10).bind fun v20 => (iter (fun x => zoF v20 x.1 x.2.1 x.2.2) ((0 : Int), v18, v19)).bind fun v27 => some (.inl (v20, w64 (v17 + 1), v27))) else some (.inr (v18, v19))
def znY (v0 : Bs) (v1 : Bs) (v2 : Int) (v3 : Int) (v10 : List UInt32) (v11 : Int) (v12 : Bs) : Option ((Int × Bs) ⊕ Bs) :=
 bif decide ((v12.length : Int) < v3) then ((zjN (i32 v11)).bind fun v13 => (app v1 v13).bind fun v14 => (zyT v0 v14 v10).bind fun v15 => (iter (fun x => zoE v0 v2 v10 x.1 x.2.1 x.2.2.1 x.2.2.2) (v15, (1 : Int), v12, v15)).bind fun v28 => (app v28.1 v28.2).bind fun v29 => some (.inl (w64 (v11 + 1), v29))) else some (.inr v12)
def zpK (v0 : Bs) (v1 : Bs) (v2 : Int) (v3 : Int) : Option (Bs × Int) :=
 (zwP v2).bind fun v4 => match v4 with
 | .inl v5 => (some v5)
 | .inr v6 => ((zwM v3).bind fun v7 => match v7 with
 | .inl v8 => (some v8)
 | .inr v9 => ((yjN).bind fun v10 => (iter (fun x => znY v0 v1 v2 v3 v10 x.1 x.2) ((1 : Int), ([] : Bs))).bind fun v30 => (subH v30 v3).bind fun v31 => some (v31, (0 : Int))))
def zwR : PC := ⟨[hS, hS, hI, hI], [.s, (.i .i64)], fun x => zpK x.1 x.2.1 x.2.2.1 x.2.2.2, false⟩
theorem yfO : PCok Tryz.prog tabs 45 zwR := wit (G := tabs) <| ylB (η := [(2000003, .join [] [0, 1, 2, 3] [(some 1000000, ⟨[(8, hS), (9, hI)], []⟩), (none, ⟨[], []⟩)]),
 (2000005, .join [] [0, 1, 2, 3] [(some 1000000, ⟨[(8, hS), (9, hI)], []⟩), (none, ⟨[], []⟩)]),
 (200017, .loop [] ⟨[(11, (.own 0)), (14, (.own 1)), (16, hI)], [.osl (.i .u8) 5, .osl (.i .u8) 5]⟩ [0, 1, 2, 3, 10, 12, 13, 15] [(some 4, ⟨[(11, (.own 0)), (14, (.own 1))], [.osl (.i .u8) 5, .osl (.i .u8) 5]⟩)]),
 (200013, .loop [] ⟨[(11, (.own 0)), (13, hS), (14, (.own 1)), (15, hI)], [.osl (.i .u8) 5, .osl (.i .u8) 5]⟩ [0, 1, 2, 3, 10, 12] [(some 2, ⟨[(11, (.own 0)), (14, (.own 1))], [.osl (.i .u8) 5, .osl (.i .u8) 5]⟩)]),
 (200008, .loop [] ⟨[(11, (.own 0)), (12, hI)], [.osl (.i .u8) 5]⟩ [0, 1, 2, 3, 10] [(some 0, ⟨[(11, (.own 0))], [.osl (.i .u8) 5]⟩)]),
 (4000019, .sch [(.pu, 0, []), (.pu, 1, []), (.pu, 2, []), (.pu, 3, []), (.pu, 4, []), (.pu, 5, []), (.pu, 6, []), (.pu, 7, []), (.pu, 8, []), (.mn, 9, [0, 1])])]) (Γ := ⟨[(93, zsA), (95, ydU), (94, zuH)], [], false⟩) xbR τ_okWkD (ctok ⟨zwW, ⟨ypU, ⟨zyZ, trivial⟩⟩⟩ trivial) Tryz.func45 (isFn Tryz.func45) (by kernel_rfl) rfl (by kernel_rfl)
end
def τWkB : TE := [(3, ⟨.int .i64, 1, [.v (.i .i64) (show Int from 0)], (.i .i64), 8⟩),
 (4, ⟨.b, 1, [.v .b (show Bool from false)], .b, 1⟩),
 (5, ⟨.int .u8, 1, [.v (.i .u8) (show UInt8 from 0)], (.i .u8), 1⟩),
 (9, ⟨.s, 1, [.v .s (show Bs from [])], .s, 16⟩),
 (22, ⟨.sl 24, 1, [.nils], (.sl (.pr .s .s)), 24⟩),
 (24, ⟨.st [(9, 0), (9, 1)], 2, [.v .s (show Bs from []), .v .s (show Bs from [])], (.pr .s .s), 32⟩),
 (25, ⟨.pt 79, 1, [.nilp], .un, 8⟩),
 (35, ⟨.sl 53, 1, [.nils], (.sl (.pr .s (.pr .s (.pr .s (.pr .s (.pr (.i .i64) (.pr (.i .i64) (.pr (.i .i64) (.sl (.pr .s (.pr .s (.pr .s (.i .i64))))))))))))), 24⟩),
 (38, ⟨.st [(35, 0)], 1, [.nils], (.pr (.sl (.pr .s (.pr .s (.pr .s (.pr .s (.pr (.i .i64) (.pr (.i .i64) (.pr (.i .i64) (.sl (.pr .s (.pr .s (.pr .s (.i .i64))))))))))))) .un), 24⟩),
 (51, ⟨.sl 58, 1, [.nils], (.sl (.pr .s (.pr .s (.pr .s (.i .i64))))), 24⟩),
 (53, ⟨.st [(9, 0), (9, 1), (9, 2), (9, 3), (3, 4), (3, 5), (3, 6), (51, 7)], 8, [.v .s (show Bs from []), .v .s (show Bs from []), .v .s (show Bs from []), .v .s (show Bs from []), .v (.i .i64) (show Int from 0), .v (.i .i64) (show Int from 0), .v (.i .i64) (show Int from 0), .nils], (.pr .s (.pr .s (.pr .s (.pr .s (.pr (.i .i64) (.pr (.i .i64) (.pr (.i .i64) (.sl (.pr .s (.pr .s (.pr .s (.i .i64)))))))))))), 112⟩),
 (58, ⟨.st [(9, 0), (9, 1), (9, 2), (3, 3)], 4, [.v .s (show Bs from []), .v .s (show Bs from []), .v .s (show Bs from []), .v (.i .i64) (show Int from 0)], (.pr .s (.pr .s (.pr .s (.i .i64)))), 56⟩),
 (63, ⟨.sl 66, 1, [.nils], (.sl (.pr (.i .i64) (.pr (.i .i64) (.pr (.i .i64) (.pr .s (.pr .s (.pr .s (.pr .s (.pr .s (.pr .s (.i .i64))))))))))), 24⟩),
 (66, ⟨.st [(3, 0), (3, 1), (3, 2), (9, 3), (9, 4), (9, 5), (58, 6)], 10, [.v (.i .i64) (show Int from 0), .v (.i .i64) (show Int from 0), .v (.i .i64) (show Int from 0), .v .s (show Bs from []), .v .s (show Bs from []), .v .s (show Bs from []), .v .s (show Bs from []), .v .s (show Bs from []), .v .s (show Bs from []), .v (.i .i64) (show Int from 0)], (.pr (.i .i64) (.pr (.i .i64) (.pr (.i .i64) (.pr .s (.pr .s (.pr .s (.pr .s (.pr .s (.pr .s (.i .i64)))))))))), 128⟩),
 (74, ⟨.st [(53, 0)], 8, [.v .s (show Bs from []), .v .s (show Bs from []), .v .s (show Bs from []), .v .s (show Bs from []), .v (.i .i64) (show Int from 0), .v (.i .i64) (show Int from 0), .v (.i .i64) (show Int from 0), .nils], (.pr .s (.pr .s (.pr .s (.pr .s (.pr (.i .i64) (.pr (.i .i64) (.pr (.i .i64) (.sl (.pr .s (.pr .s (.pr .s (.i .i64)))))))))))), 112⟩),
 (77, ⟨.map 9 74, 1, [.nilm], (.mp .s (.pr .s (.pr .s (.pr .s (.pr .s (.pr (.i .i64) (.pr (.i .i64) (.pr (.i .i64) (.sl (.pr .s (.pr .s (.pr .s (.i .i64))))))))))))), 8⟩),
 (79, ⟨.st [(77, 0)], 1, [.nilm], (.pr (.mp .s (.pr .s (.pr .s (.pr .s (.pr .s (.pr (.i .i64) (.pr (.i .i64) (.pr (.i .i64) (.sl (.pr .s (.pr .s (.pr .s (.i .i64))))))))))))) .un), 8⟩),
 (100, ⟨.sl 5, 1, [.nils], (.sl (.i .u8)), 24⟩)]
theorem τ_okWkB : TEok Tryz.prog τWkB := yrR (by kernel_rfl) (by kernel_rfl)
theorem yzV : Tryz.prog.follows .mixedOrders = true := by kernel_rfl
theorem zgC {G : List (Nat × Obj)} {o : Ops} [zqO G] [zpI G o] {Γ : CT} {η : HT} {f : FuncId} {fn : Func} {c : SC} (hΓ : ∀ B, GB G B → CTok Tryz.prog Γ B) (hf : Tryz.prog.funcs[f]? = some fn) (i : (fn.name == "runtime.NumGoroutine") = false := by kernel_rfl) (j : fn.body.isNone = false := by kernel_rfl) (l : Nat.ble c.I.sl.length fn.ntmps = true := by kernel_rfl) (r : Nat.beq fn.results.toList.length c.nr = true := by kernel_rfl) (e : fnS τWkB Γ η fn c.I c.outs = c.p := by kernel_rfl) : SCok Tryz.prog G f c := witO (G := G) (o := o) <| ywV yzV τ_okWkB hΓ hf (isFn hf i j) l r e
theorem zsW {G : List (Nat × Obj)} {o : Ops} [zqO G] [zpI G o] {Γ : CT} {η : HT} {f : FuncId} {fn : Func} {c : PC} (hΓ : ∀ B, GB G B → CTok Tryz.prog Γ B) (hf : Tryz.prog.funcs[f]? = some fn) (i : (fn.name == "runtime.NumGoroutine") = false := by kernel_rfl) (j : fn.body.isNone = false := by kernel_rfl) (l : Nat.ble c.ash.length fn.ntmps = true := by kernel_rfl) (r : c.cl = false := by kernel_rfl) (e : fnP τWkB Γ η fn c.ash c.rts = c.p := by kernel_rfl) : PCok Tryz.prog G f c := witO (G := G) (o := o) <| ylB yzV τ_okWkB hΓ hf (isFn hf i j) l r e
abbrev zmA : Type := Bs × Bs × Bs × Int
abbrev ycX : Ty := .pr .s (.pr .s (.pr .s (.i .i64)))
abbrev ztE : Type := Int × Int × Int × Bs × Bs × Bs × zmA
abbrev zwS : Ty := .pr (.i .i64) (.pr (.i .i64) (.pr (.i .i64) (.pr .s (.pr .s (.pr .s ycX)))))
abbrev zaJ : Type := Bs × Bs × Bs × Bs × Int × Int × Int × List zmA
abbrev zvN : Ty := .pr .s (.pr .s (.pr .s (.pr .s (.pr (.i .i64) (.pr (.i .i64) (.pr (.i .i64) (.sl ycX)))))))
abbrev zqI : Type := Bs × Bs × Bs × Bs × Bs × Int × Int × Int × List zmA
abbrev ygS : OSh := .blk 53 [hS, hS, hS, hS, hI, hI, hI, (.h (.sl ycX))]
abbrev ymS : OSh := .blk 53 [hS, hS, hS, hS, hI, hI, hI, .nils]
abbrev zeQ : OSh := .blk 38 [(.h (.sl zvN))]
abbrev yrK : OSh := .blk 38 [(.own 1)]
abbrev ysG : OSh := .blk 79 [(.mpr 1)]
abbrev yjQ : OSh := .blk 79 [(.mpr 2)]
abbrev xfB : OSh := .blk 79 [(.mpr 3)]
abbrev zwX : OSh := .mp true .s zvN
abbrev zjI : OSh := .blk 38 [.nils]
def xbP : Nat × Hint := (4000004, .sch [(.pu, 0, []), (.pu, 1, []), (.pu, 2, []), (.pu, 3, []), (.pu, 4, []), (.pu, 5, []), (.pu, 6, []), (.pu, 7, []), (.pu, 8, []), (.pu, 9, []), (.pu, 10, []), (.pu, 11, []), (.pu, 12, []), (.pu, 13, []), (.pu, 14, []), (.pu, 15, []), (.pu, 16, []), (.pu, 17, []), (.pu, 18, []), (.pu, 19, []), (.pu, 20, []), (.pu, 21, [])])
def ytF : Nat × Hint := (4000005, .sch [(.pu, 0, [2]), (.pu, 2, []), (.pu, 3, []), (.pu, 4, []), (.pu, 5, []), (.pu, 6, []), (.pu, 7, []), (.pu, 9, [2]), (.la, 10, []), (.pu, 12, [2]), (.mn, 1, []), (.mn, 8, [2]), (.rv, 10, []), (.mn, 11, [2]), (.mn, 13, [2]), (.pu, 14, []), (.pu, 15, []), (.mn, 16, [0])])
def xaO : Nat × Hint := (4000004, .sch [(.pu, 0, [2]), (.pu, 2, []), (.pu, 3, []), (.pu, 4, []), (.pu, 5, []), (.pu, 6, []), (.pu, 7, []), (.pu, 9, [2]), (.pu, 10, [2]), (.pu, 11, [2]), (.pu, 12, [2]), (.pu, 13, [2]), (.pu, 14, [2]), (.pu, 15, [2]), (.mn, 1, []), (.mn, 8, [2]), (.mn, 16, [2]), (.pu, 17, []), (.pu, 18, []), (.mn, 19, [0])])
def xbO : Nat × Hint := (4000008, .sch [(.pu, 0, []), (.pu, 1, []), (.pu, 2, []), (.pu, 3, []), (.pu, 4, []), (.pu, 5, []), (.pu, 6, []), (.pu, 7, []), (.pu, 8, []), (.pu, 9, []), (.pu, 10, []), (.pu, 11, []), (.pu, 13, []), (.pu, 14, []), (.mn, 12, []), (.pu, 15, []), (.pu, 16, [])])
def xaX : Nat × Hint := (4000008, .sch [(.pu, 1, []), (.pu, 2, []), (.pu, 4, [3]), (.la, 5, []), (.mn, 0, []), (.mn, 3, [3]), (.rv, 5, []), (.mn, 6, [3]), (.pu, 7, []), (.mn, 8, [2])])
def xaQ : Nat × Hint := (4000003, .sch [(.pu, 0, []), (.pu, 1, []), (.pu, 2, []), (.pu, 3, []), (.pu, 4, []), (.pu, 5, []), (.pu, 6, []), (.pu, 8, [0, 2]), (.pu, 9, [0, 2]), (.pu, 10, [0, 2]), (.pu, 11, [0, 2]), (.pu, 12, [0, 2]), (.pu, 13, [0, 2]), (.pu, 14, [0, 2]), (.mn, 7, [0, 2]), (.mn, 15, [1]), (.pu, 16, []), (.pu, 17, [])])
def xaY : Nat × Hint := (4000005, .sch [(.pu, 0, []), (.pu, 1, []), (.pu, 2, []), (.pu, 4, [0, 2]), (.pu, 5, [0, 2]), (.pu, 6, [0, 2]), (.mn, 3, [0, 2]), (.mn, 7, [1]), (.pu, 8, []), (.pu, 9, [])])
def yzX : Nat × Hint := (4000007, .sch [(.pu, 0, []), (.pu, 1, []), (.pu, 2, []), (.pu, 3, []), (.pu, 4, []), (.pu, 5, []), (.pu, 6, []), (.pu, 8, [0, 2]), (.pu, 9, [0, 2]), (.pu, 10, [0, 2]), (.pu, 11, [0, 2]), (.pu, 12, [0, 2]), (.pu, 13, [0, 2]), (.pu, 14, [0, 2]), (.mn, 7, [0, 2]), (.mn, 15, [1]), (.pu, 16, []), (.pu, 17, [])])
def xbD : Nat × Hint := (4000009, .sch [(.pu, 0, []), (.pu, 1, []), (.pu, 2, []), (.pu, 3, []), (.pu, 4, []), (.pu, 6, [0, 2]), (.pu, 7, [0, 2]), (.pu, 8, [0, 2]), (.pu, 9, [0, 2]), (.pu, 10, [0, 2]), (.mn, 5, [0, 2]), (.mn, 11, [1]), (.pu, 12, []), (.pu, 13, [])])
def xbA : Nat × Hint := (4000012, .sch [(.pu, 0, []), (.pu, 1, []), (.pu, 2, []), (.pu, 3, []), (.pu, 4, []), (.pu, 5, []), (.pu, 7, [0, 2]), (.pu, 8, [0, 2]), (.pu, 9, [0, 2]), (.pu, 10, [0, 2]), (.pu, 11, [0, 2]), (.pu, 12, [0, 2]), (.mn, 6, [0, 2]), (.mn, 13, [1]), (.pu, 14, []), (.pu, 15, [])])
def ysT : Nat × Hint := (4000014, .sch [(.pu, 0, []), (.pu, 1, []), (.pu, 2, []), (.pu, 3, []), (.pu, 4, []), (.pu, 6, [0, 2]), (.pu, 7, [0, 2]), (.pu, 8, [0, 2]), (.pu, 9, [0, 2]), (.pu, 10, [0, 2]), (.mn, 5, [0, 2]), (.mn, 11, [1]), (.pu, 12, []), (.pu, 13, [])])
def yrB : Nat × Hint := (4000018, .sch [(.pu, 0, []), (.pu, 1, []), (.pu, 2, []), (.pu, 3, []), (.pu, 4, []), (.pu, 5, []), (.pu, 6, []), (.pu, 7, []), (.pu, 8, []), (.pu, 9, []), (.pu, 10, []), (.pu, 11, []), (.pu, 12, []), (.pu, 13, []), (.pu, 14, []), (.pu, 15, []), (.pu, 16, []), (.pu, 18, [0, 2]), (.pu, 19, [0, 2]), (.pu, 20, [0, 2]), (.pu, 21, [0, 2]), (.pu, 22, [0, 2]), (.pu, 23, [0, 2]), (.pu, 24, [0, 2]), (.pu, 25, [0, 2]), (.mn, 17, [0, 2]), (.mn, 26, [1]), (.pu, 27, []), (.pu, 28, []), (.pu, 29, [])])
section
variable {tabs : List (Nat × Obj)} [zqO tabs] {o : Ops} [zpI tabs o]
def zeK (o : Ops) (v0 : UInt8) : Option (Bool) :=
 bif decide ((v0.toNat : Int) ≥ ((97 : UInt8).toNat : Int)) then (bif decide ((v0.toNat : Int) ≤ ((122 : UInt8).toNat : Int)) then (some true) else (bif decide ((v0.toNat : Int) ≥ ((48 : UInt8).toNat : Int)) then (bif decide ((v0.toNat : Int) ≤ ((57 : UInt8).toNat : Int)) then (some true) else (bif ((v0.toNat : Int) == ((46 : UInt8).toNat : Int)) then (some true) else (bif ((v0.toNat : Int) == ((95 : UInt8).toNat : Int)) then (some true) else (some ((v0.toNat : Int) == ((45 : UInt8).toNat : Int)))))) else (bif ((v0.toNat : Int) == ((46 : UInt8).toNat : Int)) then (some true) else (bif ((v0.toNat : Int) == ((95 : UInt8).toNat : Int)) then (some true) else (some ((v0.toNat : Int) == ((45 : UInt8).toNat : Int))))))) else (bif decide ((v0.toNat : Int) ≥ ((48 : UInt8).toNat : Int)) then (bif decide ((v0.toNat : Int) ≤ ((57 : UInt8).toNat : Int)) then (some true) else (bif ((v0.toNat : Int) == ((46 : UInt8).toNat : Int)) then (some true) else (bif ((v0.toNat : Int) == ((95 : UInt8).toNat : Int)) then (some true) else (some ((v0.toNat : Int) == ((45 : UInt8).toNat : Int)))))) else (bif ((v0.toNat : Int) == ((46 : UInt8).toNat : Int)) then (some true) else (bif ((v0.toNat : Int) == ((95 : UInt8).toNat : Int)) then (some true) else (some ((v0.toNat : Int) == ((45 : UInt8).toNat : Int))))))
def zkF (o : Ops) : PC := ⟨[(.h (.i .u8))], [.b], fun x => zeK o x, false⟩
theorem zqS : PCok Tryz.prog tabs 111 (zkF o) := zsW (o := o) (η := []) (Γ := ⟨[], [], false⟩) (ctok trivial trivial) Tryz.func111
def zhM (o : Ops) (v0 : Bs) (v1 : Int) : Option (Int ⊕ (Bool ⊕ Unit)) :=
 bif decide (v1 < (v0.length : Int)) then ((idx v0 v1).bind fun v2 => (zeK o v2).bind fun v3 => bif (!v3) then some (.inr (.inl false)) else some (.inl (w64 (v1 + 1)))) else some (.inr (.inr ()))
def zdV (o : Ops) (v0 : Bs) : Option (Bool) :=
 (iter (zhM o v0) (0 : Int)).bind fun v4 => match v4 with
 | .inl v5 => (some v5)
 | .inr v6 => (bif decide ((v0.length : Int) ≥ 1) then (some (decide ((v0.length : Int) ≤ 24))) else (some false))
def zhO (o : Ops) : PC := ⟨[hS], [.b], fun x => zdV o x, false⟩
theorem zlF : PCok Tryz.prog tabs 79 (zhO o) := zsW (o := o) (η := [(200002, .loop [] ⟨[(3, hI)], []⟩ [0] [(some 1000000, ⟨[(2, hB)], []⟩), (some 0, ⟨[], []⟩)])]) (Γ := ⟨[(111, (zkF o))], [], false⟩) (ctok ⟨zqS, trivial⟩ trivial) Tryz.func79
def zjD (o : Ops) (v1 : Int) : Option (Int ⊕ Int) :=
 bif decide (v1 < 0) then none else some (.inr v1)
def zbF (o : Ops) (v0 : Bs) : Option ((Int × Bool)) :=
 (iter (zjD o) (0 : Int)).bind fun v2 => bif decide (v2 < 0) then none else some (v2, false)
def zbZ (o : Ops) : SC := ⟨⟨[(0, (.ptr 0 0)), (1, hS)], [zjI]⟩, 2, [(none, ⟨[(0, hI), (1, hB)], [zjI]⟩)], fun x => zbF o x⟩
theorem zdO : SCok Tryz.prog tabs 73 (zbZ o) := zgC (o := o) (η := [(200002, .loop [] ⟨[(0, (.ptr 0 0)), (6, hI)], [zjI]⟩ [1, 4, 5] [(some 0, ⟨[(0, (.ptr 0 0)), (6, hI)], [zjI]⟩)]),
 xbP]) (Γ := ⟨[], [], false⟩) (ctok trivial trivial) Tryz.func73
def zaK (o : Ops) (v0 : Bs) : Option ((Bs × Bs × Bs × Bs × Int × Int × Int × Bool)) :=
 (zbF o v0).bind fun v1 => bif (!v1.2) then some (([] : Bs), ([] : Bs), ([] : Bs), ([] : Bs), (0 : Int), (0 : Int), (0 : Int), false) else none
def zaS (o : Ops) : SC := ⟨⟨[(0, (.ptr 0 0)), (1, hS)], [zjI]⟩, 2, [(none, ⟨[(0, (.ag [hS, hS, hS, hS, hI, hI, hI, .nils])), (1, hB)], [zjI]⟩)], fun x => zaK o x⟩
theorem zaZ : SCok Tryz.prog tabs 31 (zaS o) := zgC (o := o) (η := []) (Γ := ⟨[], [(73, (zbZ o))], false⟩) (ctok trivial ⟨zdO, trivial⟩) Tryz.func31
def zbV (o : Ops) (v0 : Bs) (v1 : Bs) : Option Bs :=
 (zpK v0 v1 (4 : Int) (32 : Int)).bind fun v2 => some v2.1
def zdP (o : Ops) : PC := ⟨[hS, hS], [.s], fun x => zbV o x.1 x.2, false⟩
theorem zeY : PCok Tryz.prog tabs 18 (zdP o) := zsW (o := o) (η := []) (Γ := ⟨[(45, zwR)], [], false⟩) (ctok ⟨yfO, trivial⟩ trivial) Tryz.func18
def zoT (o : Ops) (v0 : Bs) (v1 : Bs) (v2 : Bs) (v3 : Bs) (v4 : Int) (v5 : Int) (v6 : Int) (v7 : (Int × Bool)) (v8 : List zaJ) : Option (((List zaJ) × Bs × Bs × Bs × Bs × Int × Int × Int)) :=
 bif v7.2 then ((subL ([] : List zaJ) (w64 (v7.1 + 1))).bind fun v9 => some (v9, v0, v1, v2, v3, v4, v5, v6)) else some (v8, v0, v1, v2, v3, v4, v5, v6)
def zaO (o : Ops) (v0 : Bs) (v1 : Bs) (v2 : Bs) (v3 : Bs) (v4 : Int) (v5 : Int) (v6 : Int) : Option ((List zaJ)) :=
 (zbF o v0).bind fun v7 => (subL ([] : List zaJ) v7.1).bind fun v8 => (zoT o v0 v1 v2 v3 v4 v5 v6 v7 v8).bind fun v10 => (subH ([] : List zaJ) v7.1).bind fun v11 => (app ([] : List zaJ) v11).bind fun v12 => (app v12 ([(v10.2.1, v10.2.2.1, v10.2.2.2.1, v10.2.2.2.2.1, v10.2.2.2.2.2.1, v10.2.2.2.2.2.2.1, v10.2.2.2.2.2.2.2, ([] : List zmA))] : List zaJ)).bind fun v13 => (app v13 v10.1).bind fun v14 => some v14
def zbW (o : Ops) : SC := ⟨⟨[(0, (.ptr 0 0)), (1, (.ag [hS, hS, hS, hS, hI, hI, hI, .nils]))], [zjI]⟩, 0, [(none, ⟨[], [yrK, .osl zvN 53]⟩)], fun x => zaO o x.1 x.2.1 x.2.2.1 x.2.2.2.1 x.2.2.2.2.1 x.2.2.2.2.2.1 x.2.2.2.2.2.2⟩
theorem zdD : SCok Tryz.prog tabs 101 (zbW o) := zgC (o := o) (η := [(2000005, .join [] [4] [(none, ⟨[(0, (.ptr 0 0)), (3, (.ptr 1 0)), (6, (.h (.sl zvN)))], [zjI, ymS]⟩)]),
 ytF]) (Γ := ⟨[], [(73, (zbZ o))], false⟩) (ctok trivial ⟨zdO, trivial⟩) Tryz.func101
def ziJ (o : Ops) (v0 : Bs) (v1 : Bs) (v2 : Bs) : Option (Int ⊕ Unit) :=
 (zdV o v0).bind fun v3 => bif (!v3) then some (.inl (155 : Int)) else (bif ((v1.length : Int) != 16) then some (.inl (155 : Int)) else (bif decide ((v2.length : Int) < 1) then some (.inl (155 : Int)) else (bif decide ((v2.length : Int) > 64) then some (.inl (155 : Int)) else some (.inr ()))))
def ziO (o : Ops) (v7 : (Bs × Bs × Bs × Bs × Int × Int × Int × Bool)) : Option (Int ⊕ (Bs × Bs × Bs × Bs × Int × Int × Int)) :=
 bif (!v7.2.2.2.2.2.2.2) then (bif decide ((0 : Int) ≥ 64) then some (.inl (156 : Int)) else some (.inr (v7.1, v7.2.1, v7.2.2.1, v7.2.2.2.1, v7.2.2.2.2.1, v7.2.2.2.2.2.1, v7.2.2.2.2.2.2.1))) else some (.inr (v7.1, v7.2.1, v7.2.2.1, v7.2.2.2.1, v7.2.2.2.2.1, v7.2.2.2.2.2.1, v7.2.2.2.2.2.2.1))
def zdN (o : Ops) (v0 : Bs) (v1 : Bs) (v2 : Bs) : Option ((Int × List zaJ)) :=
 (ziJ o v0 v1 v2).bind fun v4 => match v4 with
 | .inl v5 => some (v5, ([] : List zaJ))
 | .inr v6 => ((zaK o v0).bind fun v7 => (ziO o v7).bind fun v8 => match v8 with
 | .inl v9 => some (v9, ([] : List zaJ))
 | .inr v10 => ((zbV o v2 v1).bind fun v11 => (zaO o v0 v1 v11 v10.2.2.2.1 v10.2.2.2.2.1 (0 : Int) (0 : Int)).bind fun v12 => some ((0 : Int), v12)))
def ziU (o : Ops) : SC := ⟨⟨[(0, (.ptr 0 0)), (1, hS), (2, hS), (3, hS)], [zjI]⟩, 1, [(none, ⟨[(0, hI)], [zeQ]⟩)], fun x => zdN o x.1 x.2.1 x.2.2⟩
theorem zoP : SCok Tryz.prog tabs 62 (ziU o) := zgC (o := o) (η := [(2000003, .join [] [1, 2, 3] [(some 1000000, ⟨[(8, hI)], [zjI]⟩), (none, ⟨[(0, (.ptr 0 0))], [zjI]⟩)]),
 (2000006, .join [] [1, 2, 3] [(some 1000000, ⟨[(8, hI)], [zjI]⟩), (none, ⟨[(0, (.ptr 0 0)), (9, (.ptr 1 0))], [zjI, ymS]⟩)])]) (Γ := ⟨[(79, (zhO o)), (18, (zdP o))], [(101, (zbW o)), (31, (zaS o))], false⟩) (ctok ⟨zlF, ⟨zeY, trivial⟩⟩ ⟨zdD, ⟨zaZ, trivial⟩⟩) Tryz.func62
def zfM (o : Ops) (v0 : Bs) (v1 : List zqI) : Option ((Int × List zqI)) :=
 let v2 : zaJ := zpF keqS v1 v0 (([] : Bs), ([] : Bs), ([] : Bs), ([] : Bs), (0 : Int), (0 : Int), (0 : Int), ([] : List zmA))
 bif (!(mhas keqS v1 v0)) then some ((150 : Int), v1) else some ((0 : Int), mdel keqS v1 v0)
def zjV (o : Ops) : SC := ⟨⟨[(0, (.ptr 0 0)), (1, hS)], [ysG, zwX]⟩, 1, [(none, ⟨[(0, hI)], [ysG, zwX]⟩)], fun x => zfM o x.1 x.2⟩
theorem zoS : SCok Tryz.prog tabs 63 (zjV o) := zgC (o := o) (η := []) (Γ := ⟨[], [], false⟩) (ctok trivial trivial) Tryz.func63
def zcZ (o : Ops) (v0 : Bs) : Option ((Int × List zaJ)) :=
 (zbF o v0).bind fun v1 => bif (!v1.2) then some ((150 : Int), ([] : List zaJ)) else ((subH ([] : List zaJ) v1.1).bind fun v2 => (subL ([] : List zaJ) (w64 (v1.1 + 1))).bind fun v3 => (app ([] : List zaJ) v2).bind fun v4 => (app v4 v3).bind fun v5 => some ((0 : Int), v5))
def ziG (o : Ops) : SC := ⟨⟨[(0, (.ptr 0 0)), (1, hS)], [zjI]⟩, 1, [(none, ⟨[(0, hI)], [zeQ]⟩)], fun x => zcZ o x⟩
theorem zoA : SCok Tryz.prog tabs 64 (ziG o) := zgC (o := o) (η := [xaO]) (Γ := ⟨[], [(73, (zbZ o))], false⟩) (ctok trivial ⟨zdO, trivial⟩) Tryz.func64
def zbS (o : Ops) (v0 : Int) : Option (Bool) :=
 bif decide (v0 ≥ 0) then (some (decide (v0 ≤ 1099511627776))) else (some false)
def zdR (o : Ops) : PC := ⟨[hI], [.b], fun x => zbS o x, false⟩
theorem zfD : PCok Tryz.prog tabs 102 (zdR o) := zsW (o := o) (η := []) (Γ := ⟨[], [], false⟩) (ctok trivial trivial) Tryz.func102
def znH (o : Ops) (v1 : Bs) (v4 : (Bs × Bs × Bs × Bs × Int × Int × Int × Bool)) : Option ((Bool × Bs × Bs × Bs × Bs × Int × Int × Int)) :=
 bif decide ((v1.length : Int) ≥ 1) then (bif decide ((v1.length : Int) ≤ 64) then ((zbV o v1 v4.2.1).bind fun v5 => some ((v5 == v4.2.2.1), v4.1, v4.2.1, v4.2.2.1, v4.2.2.2.1, v4.2.2.2.2.1, v4.2.2.2.2.2.1, v4.2.2.2.2.2.2.1)) else some (false, v4.1, v4.2.1, v4.2.2.1, v4.2.2.2.1, v4.2.2.2.2.1, v4.2.2.2.2.2.1, v4.2.2.2.2.2.2.1)) else some (false, v4.1, v4.2.1, v4.2.2.1, v4.2.2.2.1, v4.2.2.2.2.1, v4.2.2.2.2.2.1, v4.2.2.2.2.2.2.1)
def znB (o : Ops) (v1 : Bs) (v4 : (Bs × Bs × Bs × Bs × Int × Int × Int × Bool)) : Option ((Int × List zaJ) ⊕ (Bs × Bs × Bs × Bs × Int × Int × Int)) :=
 (znH o v1 v4).bind fun v6 => bif v6.1 then ((zaO o v6.2.1 v6.2.2.1 v6.2.2.2.1 v6.2.2.2.2.1 v6.2.2.2.2.2.1 (0 : Int) (0 : Int)).bind fun v7 => some (.inl ((0 : Int), v7))) else some (.inr v6.2)
def zcW (o : Ops) (v0 : Bs) (v1 : Bs) (v2 : Int) : Option ((Int × List zaJ)) :=
 (zbS o v2).bind fun v3 => bif (!v3) then some ((1 : Int), ([] : List zaJ)) else ((zaK o v0).bind fun v4 => bif (!v4.2.2.2.2.2.2.2) then some ((150 : Int), ([] : List zaJ)) else (bif decide (v2 < v4.2.2.2.2.2.2.1) then some ((152 : Int), ([] : List zaJ)) else ((znB o v1 v4).bind fun v8 => match v8 with
 | .inl v9 => some v9
 | .inr v10 => (bif ((w64 (v10.2.2.2.2.2.1 + 1)) == 5) then ((zaO o v10.1 v10.2.1 v10.2.2.1 v10.2.2.2.1 v10.2.2.2.2.1 (0 : Int) (w64 (v2 + 300))).bind fun v11 => some ((151 : Int), v11)) else ((zaO o v10.1 v10.2.1 v10.2.2.1 v10.2.2.2.1 v10.2.2.2.2.1 (w64 (v10.2.2.2.2.2.1 + 1)) v10.2.2.2.2.2.2).bind fun v12 => some ((151 : Int), v12))))))
def zgX (o : Ops) : SC := ⟨⟨[(0, (.ptr 0 0)), (1, hS), (2, hS), (3, hI)], [zjI]⟩, 1, [(none, ⟨[(0, hI)], [zeQ]⟩)], fun x => zcW o x.1 x.2.1 x.2.2⟩
theorem znE : SCok Tryz.prog tabs 65 (zgX o) := zgC (o := o) (η := [(2300009, .join [] [3] [(none, ⟨[(0, (.ptr 0 0)), (9, (.ptr 1 0)), (42, hB)], [zjI, ymS]⟩)]),
 (2000013, .join [] [3] [(some 1000000, ⟨[(8, hI)], [yrK, .osl zvN 53]⟩), (none, ⟨[(0, (.ptr 0 0)), (9, (.ptr 1 0))], [zjI, ymS]⟩)]),
 xbO]) (Γ := ⟨[(102, (zdR o)), (18, (zdP o))], [(101, (zbW o)), (31, (zaS o))], false⟩) (ctok ⟨zfD, ⟨zeY, trivial⟩⟩ ⟨zdD, ⟨zaZ, trivial⟩⟩) Tryz.func65
def znD (o : Ops) (v1 : Bs) (v2 : (Bs × Bs × Bs × Bs × Int × Int × Int × Bool)) : Option (Int ⊕ (Bs × Bs × Bs × Bs × Int × Int × Int)) :=
 bif decide ((v1.length : Int) < 16) then some (.inl (155 : Int)) else (bif decide ((v1.length : Int) > 64) then some (.inl (155 : Int)) else some (.inr (v2.1, v2.2.1, v2.2.2.1, v2.2.2.2.1, v2.2.2.2.2.1, v2.2.2.2.2.2.1, v2.2.2.2.2.2.2.1)))
def zcR (o : Ops) (v0 : Bs) (v1 : Bs) : Option ((Int × List zaJ)) :=
 (zaK o v0).bind fun v2 => bif (!v2.2.2.2.2.2.2.2) then some ((150 : Int), ([] : List zaJ)) else ((znD o v1 v2).bind fun v3 => match v3 with
 | .inl v4 => some (v4, ([] : List zaJ))
 | .inr v5 => ((zaO o v5.1 v5.2.1 v5.2.2.1 v1 (0 : Int) v5.2.2.2.2.2.1 v5.2.2.2.2.2.2).bind fun v6 => some ((0 : Int), v6)))
def zhG (o : Ops) : SC := ⟨⟨[(0, (.ptr 0 0)), (1, hS), (2, hS)], [zjI]⟩, 1, [(none, ⟨[(0, hI)], [zeQ]⟩)], fun x => zcR o x.1 x.2⟩
theorem znC : SCok Tryz.prog tabs 66 (zhG o) := zgC (o := o) (η := [(2000006, .join [] [2] [(some 1000000, ⟨[(6, hI)], [zjI]⟩), (none, ⟨[(0, (.ptr 0 0)), (7, (.ptr 1 0))], [zjI, ymS]⟩)])]) (Γ := ⟨[], [(101, (zbW o)), (31, (zaS o))], false⟩) (ctok trivial ⟨zdD, ⟨zaZ, trivial⟩⟩) Tryz.func66
def zhN (o : Ops) (v0 : ztE) : Option ((Bool × ztE)) :=
 bif decide ((v0.2.2.2.2.2.1.length : Int) ≥ 16) then some (decide (v0.2.2.1 ≥ 0), v0) else some (false, v0)
def zdW (o : Ops) (v0 : ztE) : Option Bs :=
 (zhN o v0).bind fun v1 => bif v1.1 then ((chk (((30 : Int) != 0))).bind fun _ => (o.code v1.2.2.2.2.2.2.1 (w64 (Int.tdiv v1.2.2.2.1 (30 : Int)))).bind fun v2 => some v2) else (some v1.2.2.2.2.2.2.1)
def zhP (o : Ops) : PC := ⟨[(.h zwS)], [.s], fun x => zdW o x, false⟩
theorem zlI : PCok Tryz.prog tabs 67 (zhP o) := zsW (o := o) (η := [(2300002, .join [] [] [(none, ⟨[(1, (.ptr 0 0)), (11, hB)], [.blk 66 [hI, hI, hI, hS, hS, hS, hS, hS, hS, hI]]⟩)])]) (Γ := ⟨[(23, (ylT o))], [], false⟩) (ctok ⟨(zpI.code (G := tabs)), trivial⟩ trivial) Tryz.func67
def zpR (o : Ops) (v0 : Bs) (v1 : Bs) : Option Bs :=
 (yjN).bind fun v2 => (zyT v0 v1 v2).bind fun v3 => some v3
def yjB (o : Ops) : PC := ⟨[hS, hS], [.s], fun x => zpR o x.1 x.2, false⟩
theorem yuF : PCok Tryz.prog tabs 164 (yjB o) := zsW (o := o) (η := []) (Γ := ⟨[(93, zsA), (94, zuH)], [], false⟩) (ctok ⟨zwW, ⟨zyZ, trivial⟩⟩ trivial) Tryz.func164
def zuQ (o : Ops) (v1 : Int) (v2 : Int) (v3 : Bs) : Option ((Int × Bs) ⊕ Bs) :=
 bif decide (v2 ≥ 0) then ((chk (decide ((0 : Int) ≤ v2))).bind fun _ => (app v3 ([i8 (bits .and .i64 (shrI .i64 v1 v2) (255 : Int))] : Bs)).bind fun v4 => some (.inl (w64 (v2 - 8), v4))) else some (.inr v3)
def zyA (o : Ops) (v13 : Int) (v14 : UInt8) (v15 : Int) (v16 : Bs) : Option ((Int × Bs) ⊕ Bs) :=
 bif decide (v15 > 0) then ((chk ((v15 != 0))).bind fun _ => let v17 : Int := w64 (Int.tdiv (bits .or .i64 v13 (w64 (v14.toNat : Int))) v15)
 (chk (decide ((0 : Int) < 10))).bind fun _ => (app v16 ([i8 (w64 ((48 : Int) + (Int.tmod v17 (10 : Int))))] : Bs)).bind fun v18 => (chk (((10 : Int) != 0))).bind fun _ => some (.inl (w64 (Int.tdiv v15 (10 : Int)), v18))) else some (.inr v16)
def zwU (o : Ops) (v0 : Bs) (v1 : Int) : Option Bs :=
 (iter (fun x => zuQ o v1 x.1 x.2) ((56 : Int), ([] : Bs))).bind fun v5 => (zpR o v0 v5).bind fun v6 => (idx v6 (31 : Int)).bind fun v7 => (idx v6 (w64 ((v7 &&& (15 : UInt8)).toNat : Int))).bind fun v8 => (chk (decide ((0 : Int) ≤ ((24 : UInt64).toNat : Int)))).bind fun _ => let v9 : Int := shlI .i64 (w64 ((v8 &&& (127 : UInt8)).toNat : Int)) ((24 : UInt64).toNat : Int)
 (idx v6 (w64 ((w64 ((v7 &&& (15 : UInt8)).toNat : Int)) + 1))).bind fun v10 => (chk (decide ((0 : Int) ≤ ((16 : UInt64).toNat : Int)))).bind fun _ => let v11 : Int := shlI .i64 (w64 (v10.toNat : Int)) ((16 : UInt64).toNat : Int)
 (idx v6 (w64 ((w64 ((v7 &&& (15 : UInt8)).toNat : Int)) + 2))).bind fun v12 => (chk (decide ((0 : Int) ≤ ((8 : UInt64).toNat : Int)))).bind fun _ => let v13 : Int := bits .or .i64 (bits .or .i64 v9 v11) (shlI .i64 (w64 (v12.toNat : Int)) ((8 : UInt64).toNat : Int))
 (idx v6 (w64 ((w64 ((v7 &&& (15 : UInt8)).toNat : Int)) + 3))).bind fun v14 => (iter (fun x => zyA o v13 v14 x.1 x.2) ((100000 : Int), ([] : Bs))).bind fun v19 => some v19
def yeM (o : Ops) : PC := ⟨[hS, hI], [.s], fun x => zwU o x.1 x.2, false⟩
theorem ypM : PCok Tryz.prog tabs 128 (yeM o) := zsW (o := o) (η := [(200003, .loop [] ⟨[(5, (.own 0)), (6, hI)], [.osl (.i .u8) 5]⟩ [0, 1, 4] [(some 0, ⟨[(5, (.own 0))], [.osl (.i .u8) 5]⟩)]),
 (200011, .loop [] ⟨[(10, (.own 0)), (11, hI)], [.osl (.i .u8) 5]⟩ [4, 9] [(some 2, ⟨[(10, (.own 0))], [.osl (.i .u8) 5]⟩)]),
 (4000008, .sch [(.pu, 0, []), (.pu, 1, []), (.pu, 2, []), (.pu, 3, []), (.pu, 4, []), (.pu, 5, []), (.pu, 6, []), (.pu, 7, []), (.pu, 8, []), (.pu, 9, []), (.pu, 10, []), (.pu, 11, []), (.pu, 12, []), (.pu, 13, []), (.pu, 14, []), (.pu, 15, []), (.pu, 16, []), (.pu, 17, []), (.pu, 18, []), (.pu, 19, []), (.pu, 20, []), (.pu, 21, []), (.pu, 22, []), (.pu, 23, []), (.pu, 24, []), (.pu, 25, []), (.pu, 26, [])])]) (Γ := ⟨[(164, (yjB o))], [], false⟩) (ctok ⟨yuF, trivial⟩ trivial) Tryz.func128
def zxN (o : Ops) (v2 : Int) (v3 : Int) : Option ((Int × Bool) ⊕ Unit) :=
 bif decide (v2 < 0) then some (.inl ((0 : Int), false)) else (bif decide (v2 > 1099511627776) then some (.inl ((0 : Int), false)) else (bif decide (v3 < 0) then some (.inl ((0 : Int), false)) else (bif decide (v3 > 10) then some (.inl ((0 : Int), false)) else some (.inr ()))))
def ydF (o : Ops) (v2 : Int) (v3 : Int) (v7 : Int) : Option (Unit ⊕ Unit) :=
 bif decide (v7 ≥ (w64 (v2 - v3))) then (bif decide (v7 ≥ 0) then some (.inl ()) else some (.inr ())) else some (.inr ())
def zxZ (o : Ops) (v0 : Bs) (v1 : Bs) (v2 : Int) (v3 : Int) (v7 : Int) : Option (Int ⊕ ((Int × Bool) ⊕ Unit)) :=
 (ydF o v2 v3 v7).bind fun v8 => match v8 with
 | .inl v9 => ((zwU o v0 v7).bind fun v11 => bif (v11 == v1) then some (.inr (.inl (v7, true))) else some (.inl (w64 (v7 - 1))))
 | .inr v10 => some (.inr (.inr ()))
def ztG (o : Ops) (v0 : Bs) (v1 : Bs) (v2 : Int) (v3 : Int) : Option (Int × Bool) :=
 (zxN o v2 v3).bind fun v4 => match v4 with
 | .inl v5 => (some v5)
 | .inr v6 => ((iter (zxZ o v0 v1 v2 v3) (w64 (v2 + v3))).bind fun v12 => match v12 with
 | .inl v13 => (some v13)
 | .inr v14 => (some ((0 : Int), false)))
def zxR (o : Ops) : PC := ⟨[hS, hS, hI, hI], [(.i .i64), .b], fun x => ztG o x.1 x.2.1 x.2.2.1 x.2.2.2, false⟩
theorem yeV : PCok Tryz.prog tabs 103 (zxR o) := zsW (o := o) (η := [(2000003, .join [] [0, 1, 2, 3] [(some 1000000, ⟨[(8, hI), (9, hB)], []⟩), (none, ⟨[], []⟩)]),
 (2100001, .join [] [0, 1, 2, 3, 10] [(none, ⟨[], []⟩), (some 0, ⟨[], []⟩)]),
 (200004, .loop [] ⟨[(10, hI)], []⟩ [0, 1, 2, 3] [(some 1000000, ⟨[(8, hI), (9, hB)], []⟩), (some 0, ⟨[], []⟩)])]) (Γ := ⟨[(128, (yeM o))], [], false⟩) (ctok ⟨ypM, trivial⟩ trivial) Tryz.func103
def znU (o : Ops) (v4 : (Bs × Bs × Bs × Bs × Int × Int × Int × Bool)) (v5 : Int × Bool) : Option (Int ⊕ (Bs × Bs × Bs × Bs × Int × Int × Int)) :=
 bif (!v5.2) then some (.inl (153 : Int)) else (bif decide (v5.1 < v4.2.2.2.2.1) then some (.inl (153 : Int)) else some (.inr (v4.1, v4.2.1, v4.2.2.1, v4.2.2.2.1, v4.2.2.2.2.1, v4.2.2.2.2.2.1, v4.2.2.2.2.2.2.1)))
def zdC (o : Ops) (v0 : Bs) (v1 : Bs) (v2 : Int) : Option ((Int × List zaJ)) :=
 (zbS o v2).bind fun v3 => bif (!v3) then some ((1 : Int), ([] : List zaJ)) else ((zaK o v0).bind fun v4 => bif (!v4.2.2.2.2.2.2.2) then some ((150 : Int), ([] : List zaJ)) else (bif (v4.2.2.2.1 == ([] : Bs)) then some ((154 : Int), ([] : List zaJ)) else ((chk (((30 : Int) != 0))).bind fun _ => (ztG o v4.2.2.2.1 v1 (w64 (Int.tdiv v2 (30 : Int))) (1 : Int)).bind fun v5 => (znU o v4 v5).bind fun v6 => match v6 with
 | .inl v7 => some (v7, ([] : List zaJ))
 | .inr v8 => ((zaO o v8.1 v8.2.1 v8.2.2.1 v8.2.2.2.1 (w64 (v5.1 + 1)) v8.2.2.2.2.2.1 v8.2.2.2.2.2.2).bind fun v9 => some ((0 : Int), v9)))))
def ziE (o : Ops) : SC := ⟨⟨[(0, (.ptr 0 0)), (1, hS), (2, hS), (3, hI)], [zjI]⟩, 1, [(none, ⟨[(0, hI)], [zeQ]⟩)], fun x => zdC o x.1 x.2.1 x.2.2⟩
theorem znS : SCok Tryz.prog tabs 68 (ziE o) := zgC (o := o) (η := [(2000011, .join [] [11] [(some 1000000, ⟨[(8, hI)], [zjI]⟩), (none, ⟨[(0, (.ptr 0 0)), (9, (.ptr 1 0))], [zjI, ymS]⟩)])]) (Γ := ⟨[(102, (zdR o)), (103, (zxR o))], [(101, (zbW o)), (31, (zaS o))], false⟩) (ctok ⟨zfD, ⟨yeV, trivial⟩⟩ ⟨zdD, ⟨zaZ, trivial⟩⟩) Tryz.func68
def zeG (o : Ops) (v0 : zmA) : Option (Bool) :=
 bif decide ((v0.1.length : Int) ≥ 1) then (bif decide ((v0.1.length : Int) ≤ 86) then (bif ((v0.2.1.length : Int) == 32) then (bif ((v0.2.2.1.length : Int) == 32) then (bif decide (v0.2.2.2 ≥ 0) then (some (decide (v0.2.2.2 ≤ 4294967295))) else (some false)) else (some false)) else (some false)) else (some false)) else (some false)
def ziT (o : Ops) : PC := ⟨[(.h ycX)], [.b], fun x => zeG o x, false⟩
theorem zmK : PCok Tryz.prog tabs 83 (ziT o) := zsW (o := o) (η := []) (Γ := ⟨[], [], false⟩) (ctok trivial trivial) Tryz.func83
def zhS (o : Ops) (v0 : List zmA) (v1 : Bs) (v2 : Int) : Option (Int ⊕ (Int ⊕ Unit)) :=
 bif decide (v2 < (v0.length : Int)) then ((idx v0 v2).bind fun v3 => bif (v3.1 == v1) then some (.inr (.inl v2)) else some (.inl (w64 (v2 + 1)))) else some (.inr (.inr ()))
def zaN (o : Ops) (v0 : List zmA) (v1 : Bs) : Option (Int) :=
 (iter (zhS o v0 v1) (0 : Int)).bind fun v4 => match v4 with
 | .inl v5 => (some v5)
 | .inr v6 => (some (-1 : Int))
def zbQ (o : Ops) : PC := ⟨[(.h (.sl ycX)), hS], [(.i .i64)], fun x => zaN o x.1 x.2, false⟩
theorem zcG : PCok Tryz.prog tabs 84 (zbQ o) := zsW (o := o) (η := [(200002, .loop [] ⟨[(5, hI)], []⟩ [0, 1] [(some 1000000, ⟨[(4, hI)], []⟩), (some 0, ⟨[], []⟩)])]) (Γ := ⟨[], [], false⟩) (ctok trivial trivial) Tryz.func84
def zoH (o : Ops) (v0 : zaJ) (v1 : (Int × Bool)) (v2 : List zaJ) : Option (((List zaJ) × zaJ)) :=
 bif v1.2 then ((subL ([] : List zaJ) (w64 (v1.1 + 1))).bind fun v3 => some (v3, v0)) else some (v2, v0)
def ziR (o : Ops) (v0 : zaJ) : Option ((List zaJ)) :=
 (zbF o v0.1).bind fun v1 => (subL ([] : List zaJ) v1.1).bind fun v2 => (zoH o v0 v1 v2).bind fun v4 => (subH ([] : List zaJ) v1.1).bind fun v5 => (app ([] : List zaJ) v5).bind fun v6 => (app v6 ([v4.2] : List zaJ)).bind fun v7 => (app v7 v4.1).bind fun v8 => some v8
def zhT (o : Ops) : SC := ⟨⟨[(0, (.ptr 0 0)), (1, (.h zvN))], [zjI]⟩, 0, [(none, ⟨[], [yrK, .osl zvN 53]⟩)], fun x => ziR o x⟩
theorem zoD : SCok Tryz.prog tabs 101 (zhT o) := zgC (o := o) (η := [(2000005, .join [] [4] [(none, ⟨[(0, (.ptr 0 0)), (3, (.ptr 1 0)), (6, (.h (.sl zvN)))], [zjI, ygS]⟩)]),
 ytF]) (Γ := ⟨[], [(73, (zbZ o))], false⟩) (ctok trivial ⟨zdO, trivial⟩) Tryz.func101
def zmO (o : Ops) (v1 : zmA) (v2 : (Bs × Bs × Bs × Bs × Int × Int × Int × Bool)) : Option (Int ⊕ (Bs × Bs × Bs × Int × Bs × Bs × Bs × Bs × Int × Int × Int)) :=
 (zeG o v1).bind fun v3 => bif (!v3) then some (.inl (155 : Int)) else ((zaN o ([] : List zmA) v1.1).bind fun v4 => bif decide (v4 ≥ 0) then some (.inl (155 : Int)) else some (.inr (v1.1, v1.2.1, v1.2.2.1, v1.2.2.2, v2.1, v2.2.1, v2.2.2.1, v2.2.2.2.1, v2.2.2.2.2.1, v2.2.2.2.2.2.1, v2.2.2.2.2.2.2.1)))
def zcJ (o : Ops) (v0 : Bs) (v1 : zmA) : Option ((Int × List zaJ)) :=
 (zaK o v0).bind fun v2 => bif (!v2.2.2.2.2.2.2.2) then some ((150 : Int), ([] : List zaJ)) else ((zmO o v1 v2).bind fun v5 => match v5 with
 | .inl v6 => some (v6, ([] : List zaJ))
 | .inr v7 => (bif decide ((0 : Int) ≥ 4) then some ((156 : Int), ([] : List zaJ)) else ((app ([] : List zmA) ([] : List zmA)).bind fun v8 => (app v8 ([(v7.1, v7.2.1, v7.2.2.1, v7.2.2.2.1)] : List zmA)).bind fun v9 => (ziR o (v7.2.2.2.2.1, v7.2.2.2.2.2.1, v7.2.2.2.2.2.2.1, v7.2.2.2.2.2.2.2.1, v7.2.2.2.2.2.2.2.2.1, v7.2.2.2.2.2.2.2.2.2.1, v7.2.2.2.2.2.2.2.2.2.2, v9)).bind fun v10 => some ((0 : Int), v10))))
def zgR (o : Ops) : SC := ⟨⟨[(0, (.ptr 0 0)), (1, hS), (2, (.h ycX))], [zjI]⟩, 1, [(none, ⟨[(0, hI)], [zeQ]⟩)], fun x => zcJ o x.1 x.2⟩
theorem zmN : SCok Tryz.prog tabs 69 (zgR o) := zgC (o := o) (η := [(2000006, .join [] [] [(some 1000000, ⟨[(6, hI)], [zjI]⟩), (none, ⟨[(0, (.ptr 0 0)), (5, (.ptr 1 0)), (7, (.ptr 2 0))], [zjI, .blk 58 [hS, hS, hS, hI], ymS]⟩)]),
 xaX]) (Γ := ⟨[(83, (ziT o)), (84, (zbQ o))], [(31, (zaS o)), (101, (zhT o))], false⟩) (ctok ⟨zmK, ⟨zcG, trivial⟩⟩ ⟨zaZ, ⟨zoD, trivial⟩⟩) Tryz.func69
def zgD (o : Ops) (v0 : Bs) (v1 : Bs) (v2 : List zqI) : Option ((zmA × Bool × List zqI)) :=
 let v3 : zaJ := zpF keqS v2 v0 (([] : Bs), ([] : Bs), ([] : Bs), ([] : Bs), (0 : Int), (0 : Int), (0 : Int), ([] : List zmA))
 (zfZ o v3.2.2.2.2.2.2.2 v1).bind fun v4 => bif decide (v4 < 0) then some ((([] : Bs), ([] : Bs), ([] : Bs), (0 : Int)), false, v2) else ((idx v3.2.2.2.2.2.2.2 v4).bind fun v5 => some (v5, true, v2))
def zkS (o : Ops) : SC := ⟨⟨[(0, (.ptr 0 0)), (1, hS), (2, hS)], [ysG, zwX]⟩, 2, [(none, ⟨[(0, (.h ycX)), (1, hB)], [ysG, zwX]⟩)], fun x => zgD o x.1 x.2.1 x.2.2⟩
theorem zqC : SCok Tryz.prog tabs 26 (zkS o) := zgC (o := o) (η := []) (Γ := ⟨[(58, (zoL o))], [], false⟩) (ctok ⟨zrM, trivial⟩ trivial) Tryz.func26
def zdL (o : Ops) (v0 : Bs) (v1 : Bs) : Option ((zmA × Bool)) :=
 (zaK o v0).bind fun v2 => (zaN o ([] : List zmA) v1).bind fun v3 => bif decide (v3 < 0) then some ((([] : Bs), ([] : Bs), ([] : Bs), (0 : Int)), false) else none
def ziH (o : Ops) : SC := ⟨⟨[(0, (.ptr 0 0)), (1, hS), (2, hS)], [zjI]⟩, 2, [(none, ⟨[(0, (.h ycX)), (1, hB)], [zjI]⟩)], fun x => zdL o x.1 x.2⟩
theorem zoY : SCok Tryz.prog tabs 70 (ziH o) := zgC (o := o) (η := []) (Γ := ⟨[(84, (zbQ o))], [(31, (zaS o))], false⟩) (ctok ⟨zcG, trivial⟩ ⟨zaZ, trivial⟩) Tryz.func70
def zcS (o : Ops) (v0 : Bs) (v1 : Bs) (v2 : Int) : Option (Int) :=
 (zaK o v0).bind fun v3 => bif (!v3.2.2.2.2.2.2.2) then some (150 : Int) else ((zaN o ([] : List zmA) v1).bind fun v4 => bif decide (v4 < 0) then some (154 : Int) else none)
def zhE (o : Ops) : SC := ⟨⟨[(0, (.ptr 0 0)), (1, hS), (2, hS), (3, hI)], [zjI]⟩, 1, [(none, ⟨[(0, hI)], [zjI]⟩)], fun x => zcS o x.1 x.2.1 x.2.2⟩
theorem zmW : SCok Tryz.prog tabs 71 (zhE o) := zgC (o := o) (η := []) (Γ := ⟨[(84, (zbQ o))], [(31, (zaS o))], false⟩) (ctok ⟨zcG, trivial⟩ ⟨zaZ, trivial⟩) Tryz.func71
def zdY (o : Ops) (v0 : ztE) (v1 : List zqI) : Option ((Bool × (List zaJ) × List zqI)) :=
 bif (v0.2.1 == 0) then ((zeP o v0.2.2.2.1 v0.2.2.2.2.1 v0.2.2.2.2.2.1 v1).bind fun v2 => (zdN o v0.2.2.2.1 v0.2.2.2.2.1 v0.2.2.2.2.2.1).bind fun v3 => some ((v2.1 == v3.1), v3.2, v2.2)) else (bif (v0.2.1 == 1) then ((zfM o v0.2.2.2.1 v1).bind fun v4 => (zcZ o v0.2.2.2.1).bind fun v5 => some ((v4.1 == v5.1), v5.2, v4.2)) else (bif (v0.2.1 == 2) then ((zaY o v0.2.2.2.1 v0.2.2.2.2.2.1 v0.2.2.1 v1).bind fun v6 => (zcW o v0.2.2.2.1 v0.2.2.2.2.2.1 v0.2.2.1).bind fun v7 => some ((v6.1 == v7.1), v7.2, v6.2)) else (bif (v0.2.1 == 3) then ((zdS o v0.2.2.2.1 v0.2.2.2.2.2.1 v1).bind fun v8 => (zcR o v0.2.2.2.1 v0.2.2.2.2.2.1).bind fun v9 => some ((v8.1 == v9.1), v9.2, v8.2)) else (bif (v0.2.1 == 4) then ((zdW o v0).bind fun v10 => (zcE o v0.2.2.2.1 v10 v0.2.2.1 v1).bind fun v11 => (zdC o v0.2.2.2.1 v10 v0.2.2.1).bind fun v12 => some ((v11.1 == v12.1), v12.2, v11.2)) else (bif (v0.2.1 == 5) then ((zcD o v0.2.2.2.1 v0.2.2.2.2.2.2 v1).bind fun v13 => (zcJ o v0.2.2.2.1 v0.2.2.2.2.2.2).bind fun v14 => some ((v13.1 == v14.1), v14.2, v13.2)) else (bif (v0.2.1 == 6) then ((zgD o v0.2.2.2.1 v0.2.2.2.2.2.2.1 v1).bind fun v15 => (zdL o v0.2.2.2.1 v0.2.2.2.2.2.2.1).bind fun v16 => let v17 : Bool := ((v15.1.1 == v16.1.1) && ((v15.1.2.1 == v16.1.2.1) && ((v15.1.2.2.1 == v16.1.2.2.1) && (decide (v15.1.2.2.2 = v16.1.2.2.2)))))
 bif v17 then (bif (v15.2.1 == v16.2) then ((zbK o v0.2.2.2.1 v0.2.2.2.2.2.2.1 v0.2.2.1 v15.2.2).bind fun v18 => (zcS o v0.2.2.2.1 v0.2.2.2.2.2.2.1 v0.2.2.1).bind fun v19 => some ((v18.1 == v19), ([] : List zaJ), v18.2)) else some (false, ([] : List zaJ), v15.2.2)) else some (false, ([] : List zaJ), v15.2.2)) else some (true, ([] : List zaJ), v1)))))))
def zlH (o : Ops) : SC := ⟨⟨[(0, (.ptr 0 0)), (1, (.ptr 1 0)), (2, (.h zwS))], [yjQ, zjI, zwX]⟩, 1, [(none, ⟨[(0, hB)], [yjQ, zeQ, .mp false .s zvN]⟩)], fun x => zdY o x.1 x.2⟩
theorem ztD : SCok Tryz.prog tabs 28 (zlH o) := zgC (o := o) (η := [xaQ,
 xaY,
 yzX,
 xbD,
 xbA,
 ysT,
 yrB]) (Γ := ⟨[(67, (zhP o))], [(62, (ziU o)), (64, (ziG o)), (65, (zgX o)), (66, (zhG o)), (68, (ziE o)), (69, (zgR o)), (70, (ziH o)), (71, (zhE o)), (17, (zhX o)), (63, (zjV o)), (19, (zfX o)), (20, (zfV o)), (22, (zgU o)), (25, (zfL o)), (26, (zkS o)), (27, (zfY o))], false⟩) (ctok ⟨zlI, trivial⟩ ⟨zoP, ⟨zoA, ⟨znE, ⟨znC, ⟨znS, ⟨zmN, ⟨zoY, ⟨zmW, ⟨zkG, ⟨zoS, ⟨zjG, ⟨zjK, ⟨zjS, ⟨ziI, ⟨zqC, ⟨zjE, trivial⟩⟩⟩⟩⟩⟩⟩⟩⟩⟩⟩⟩⟩⟩⟩⟩) Tryz.func28
def zeX (o : Ops) (v0 : Bs) (v2 : Int) (v3 : List zaJ) : Option ((Int × List zaJ) ⊕ ((Int × List zaJ))) :=
 bif decide (v2 < (v3.length : Int)) then ((idx v3 v2).bind fun v4 => bif Op.bytesLess v4.1 v0 then some (.inl (w64 (v2 + 1), v3)) else some (.inr (v2, v3))) else some (.inr (v2, v3))
def zaP (o : Ops) (v0 : Bs) (v1 : List zaJ) : Option ((Int × Bool × List zaJ)) :=
 (iter (fun x => zeX o v0 x.1 x.2) ((0 : Int), v1)).bind fun v5 => bif decide (v5.1 < (v5.2.length : Int)) then ((idx v5.2 v5.1).bind fun v6 => some (v5.1, (v6.1 == v0), v5.2)) else some (v5.1, false, v5.2)
def zdA (o : Ops) : SC := ⟨⟨[(0, (.ptr 0 0)), (1, hS)], [zeQ]⟩, 2, [(none, ⟨[(0, hI), (1, hB)], [zeQ]⟩)], fun x => zaP o x.1 x.2⟩
theorem zeS : SCok Tryz.prog tabs 73 (zdA o) := zgC (o := o) (η := [(200002, .loop [] ⟨[(0, (.ptr 0 0)), (6, hI)], [zeQ]⟩ [1, 4, 5] [(some 0, ⟨[(0, (.ptr 0 0)), (6, hI)], [zeQ]⟩)]),
 xbP]) (Γ := ⟨[], [], false⟩) (ctok trivial trivial) Tryz.func73
def zaH (o : Ops) (v0 : Bs) (v1 : List zaJ) : Option ((zaJ × Bool × List zaJ)) :=
 (zaP o v0 v1).bind fun v2 => bif (!v2.2.1) then some ((([] : Bs), ([] : Bs), ([] : Bs), ([] : Bs), (0 : Int), (0 : Int), (0 : Int), ([] : List zmA)), false, v2.2.2) else ((idx v2.2.2 v2.1).bind fun v3 => some (v3, true, v2.2.2))
def zaQ (o : Ops) : SC := ⟨⟨[(0, (.ptr 0 0)), (1, hS)], [zeQ]⟩, 2, [(none, ⟨[(0, (.h zvN)), (1, hB)], [zeQ]⟩)], fun x => zaH o x.1 x.2⟩
theorem zaX : SCok Tryz.prog tabs 31 (zaQ o) := zgC (o := o) (η := []) (Γ := ⟨[], [(73, (zdA o))], false⟩) (ctok trivial ⟨zeS, trivial⟩) Tryz.func31
def zhW (o : Ops) (v0 : zaJ) (v2 : (Int × Bool × List zaJ)) (v3 : List zaJ) : Option (((List zaJ) × (List zaJ) × zaJ)) :=
 bif v2.2.1 then ((subL v2.2.2 (w64 (v2.1 + 1))).bind fun v4 => some (v4, v2.2.2, v0)) else some (v3, v2.2.2, v0)
def zaF (o : Ops) (v0 : zaJ) (v1 : List zaJ) : Option ((List zaJ)) :=
 (zaP o v0.1 v1).bind fun v2 => (subL v2.2.2 v2.1).bind fun v3 => (zhW o v0 v2 v3).bind fun v5 => (subH v5.2.1 v2.1).bind fun v6 => (app ([] : List zaJ) v6).bind fun v7 => (app v7 ([v5.2.2] : List zaJ)).bind fun v8 => (app v8 v5.1).bind fun v9 => some v9
def zaU (o : Ops) : SC := ⟨⟨[(0, (.ptr 0 0)), (1, (.h zvN))], [zeQ]⟩, 0, [(none, ⟨[], [yrK, .osl zvN 53]⟩)], fun x => zaF o x.1 x.2⟩
theorem zbH : SCok Tryz.prog tabs 101 (zaU o) := zgC (o := o) (η := [(2000005, .join [] [4] [(none, ⟨[(0, (.ptr 0 0)), (3, (.ptr 1 0)), (6, (.h (.sl zvN)))], [zeQ, ygS]⟩)]),
 ytF]) (Γ := ⟨[], [(73, (zdA o))], false⟩) (ctok trivial ⟨zeS, trivial⟩) Tryz.func101
def zhY (o : Ops) (v0 : Bs) (v1 : Bs) (v2 : Bs) (v3 : List zaJ) : Option ((Int × List zaJ) ⊕ (List zaJ)) :=
 (zdV o v0).bind fun v4 => bif (!v4) then some (.inl ((155 : Int), v3)) else (bif ((v1.length : Int) != 16) then some (.inl ((155 : Int), v3)) else (bif decide ((v2.length : Int) < 1) then some (.inl ((155 : Int), v3)) else (bif decide ((v2.length : Int) > 64) then some (.inl ((155 : Int), v3)) else some (.inr v3))))
def zeH (o : Ops) (v8 : (zaJ × Bool × List zaJ)) : Option ((Int × List zaJ) ⊕ ((List zaJ) × zaJ)) :=
 bif (!v8.2.1) then (bif decide ((v8.2.2.length : Int) ≥ 64) then some (.inl ((156 : Int), v8.2.2)) else some (.inr (v8.2.2, v8.1))) else some (.inr (v8.2.2, v8.1))
def zdG (o : Ops) (v0 : Bs) (v1 : Bs) (v2 : Bs) (v3 : List zaJ) : Option ((Int × List zaJ)) :=
 (zhY o v0 v1 v2 v3).bind fun v5 => match v5 with
 | .inl v6 => some v6
 | .inr v7 => ((zaH o v0 v7).bind fun v8 => (zeH o v8).bind fun v9 => match v9 with
 | .inl v10 => some v10
 | .inr v11 => ((zbV o v2 v1).bind fun v12 => (zaF o (v0, v1, v12, v11.2.2.2.2.1, v11.2.2.2.2.2.1, (0 : Int), (0 : Int), v11.2.2.2.2.2.2.2.2) v11.1).bind fun v13 => some ((0 : Int), v13)))
def ziB (o : Ops) : SC := ⟨⟨[(0, (.ptr 0 0)), (1, hS), (2, hS), (3, hS)], [zeQ]⟩, 1, [(none, ⟨[(0, hI)], [zeQ]⟩)], fun x => zdG o x.1 x.2.1 x.2.2.1 x.2.2.2⟩
theorem znX : SCok Tryz.prog tabs 62 (ziB o) := zgC (o := o) (η := [(2000003, .join [] [1, 2, 3] [(some 1000000, ⟨[(8, hI)], [zeQ]⟩), (none, ⟨[(0, (.ptr 0 0))], [zeQ]⟩)]),
 (2000006, .join [] [1, 2, 3] [(some 1000000, ⟨[(8, hI)], [zeQ]⟩), (none, ⟨[(0, (.ptr 0 0)), (9, (.ptr 1 0))], [zeQ, ygS]⟩)])]) (Γ := ⟨[(79, (zhO o)), (18, (zdP o))], [(31, (zaQ o)), (101, (zaU o))], false⟩) (ctok ⟨zlF, ⟨zeY, trivial⟩⟩ ⟨zaX, ⟨zbH, trivial⟩⟩) Tryz.func62
def zcU (o : Ops) (v0 : Bs) (v1 : List zaJ) : Option ((Int × List zaJ)) :=
 (zaP o v0 v1).bind fun v2 => bif (!v2.2.1) then some ((150 : Int), v2.2.2) else ((subH v2.2.2 v2.1).bind fun v3 => (subL v2.2.2 (w64 (v2.1 + 1))).bind fun v4 => (app ([] : List zaJ) v3).bind fun v5 => (app v5 v4).bind fun v6 => some ((0 : Int), v6))
def zhC (o : Ops) : SC := ⟨⟨[(0, (.ptr 0 0)), (1, hS)], [zeQ]⟩, 1, [(none, ⟨[(0, hI)], [zeQ]⟩)], fun x => zcU o x.1 x.2⟩
theorem zmX : SCok Tryz.prog tabs 64 (zhC o) := zgC (o := o) (η := [xaO]) (Γ := ⟨[], [(73, (zdA o))], false⟩) (ctok trivial ⟨zeS, trivial⟩) Tryz.func64
def zdU (o : Ops) (v1 : Bs) (v5 : (zaJ × Bool × List zaJ)) : Option ((Bool × (List zaJ) × zaJ)) :=
 bif decide ((v1.length : Int) ≥ 1) then (bif decide ((v1.length : Int) ≤ 64) then ((zbV o v1 v5.1.2.1).bind fun v6 => some ((v6 == v5.1.2.2.1), v5.2.2, v5.1)) else some (false, v5.2.2, v5.1)) else some (false, v5.2.2, v5.1)
def zgM (o : Ops) (v1 : Bs) (v5 : (zaJ × Bool × List zaJ)) : Option ((Int × List zaJ) ⊕ ((List zaJ) × zaJ)) :=
 (zdU o v1 v5).bind fun v7 => bif v7.1 then ((zaF o (v7.2.2.1, v7.2.2.2.1, v7.2.2.2.2.1, v7.2.2.2.2.2.1, v7.2.2.2.2.2.2.1, (0 : Int), (0 : Int), v7.2.2.2.2.2.2.2.2.2) v7.2.1).bind fun v8 => some (.inl ((0 : Int), v8))) else some (.inr v7.2)
def zcL (o : Ops) (v0 : Bs) (v1 : Bs) (v2 : Int) (v3 : List zaJ) : Option ((Int × List zaJ)) :=
 (zbS o v2).bind fun v4 => bif (!v4) then some ((1 : Int), v3) else ((zaH o v0 v3).bind fun v5 => bif (!v5.2.1) then some ((150 : Int), v5.2.2) else (bif decide (v2 < v5.1.2.2.2.2.2.2.1) then some ((152 : Int), v5.2.2) else ((zgM o v1 v5).bind fun v9 => match v9 with
 | .inl v10 => some v10
 | .inr v11 => (bif ((w64 (v11.2.2.2.2.2.2.1 + 1)) == 5) then ((zaF o (v11.2.1, v11.2.2.1, v11.2.2.2.1, v11.2.2.2.2.1, v11.2.2.2.2.2.1, (0 : Int), w64 (v2 + 300), v11.2.2.2.2.2.2.2.2) v11.1).bind fun v12 => some ((151 : Int), v12)) else ((zaF o (v11.2.1, v11.2.2.1, v11.2.2.2.1, v11.2.2.2.2.1, v11.2.2.2.2.2.1, w64 (v11.2.2.2.2.2.2.1 + 1), v11.2.2.2.2.2.2.2) v11.1).bind fun v13 => some ((151 : Int), v13))))))
def zgP (o : Ops) : SC := ⟨⟨[(0, (.ptr 0 0)), (1, hS), (2, hS), (3, hI)], [zeQ]⟩, 1, [(none, ⟨[(0, hI)], [zeQ]⟩)], fun x => zcL o x.1 x.2.1 x.2.2.1 x.2.2.2⟩
theorem zmG : SCok Tryz.prog tabs 65 (zgP o) := zgC (o := o) (η := [(2300009, .join [] [3] [(none, ⟨[(0, (.ptr 0 0)), (9, (.ptr 1 0)), (42, hB)], [zeQ, ygS]⟩)]),
 (2000013, .join [] [3] [(some 1000000, ⟨[(8, hI)], [yrK, .osl zvN 53]⟩), (none, ⟨[(0, (.ptr 0 0)), (9, (.ptr 1 0))], [zeQ, ygS]⟩)]),
 xbO]) (Γ := ⟨[(102, (zdR o)), (18, (zdP o))], [(31, (zaQ o)), (101, (zaU o))], false⟩) (ctok ⟨zfD, ⟨zeY, trivial⟩⟩ ⟨zaX, ⟨zbH, trivial⟩⟩) Tryz.func65
def zgL (o : Ops) (v1 : Bs) (v3 : (zaJ × Bool × List zaJ)) : Option ((Int × List zaJ) ⊕ ((List zaJ) × zaJ)) :=
 bif decide ((v1.length : Int) < 16) then some (.inl ((155 : Int), v3.2.2)) else (bif decide ((v1.length : Int) > 64) then some (.inl ((155 : Int), v3.2.2)) else some (.inr (v3.2.2, v3.1)))
def zcI (o : Ops) (v0 : Bs) (v1 : Bs) (v2 : List zaJ) : Option ((Int × List zaJ)) :=
 (zaH o v0 v2).bind fun v3 => bif (!v3.2.1) then some ((150 : Int), v3.2.2) else ((zgL o v1 v3).bind fun v4 => match v4 with
 | .inl v5 => some v5
 | .inr v6 => ((zaF o (v6.2.1, v6.2.2.1, v6.2.2.2.1, v1, (0 : Int), v6.2.2.2.2.2.2) v6.1).bind fun v7 => some ((0 : Int), v7)))
def zgQ (o : Ops) : SC := ⟨⟨[(0, (.ptr 0 0)), (1, hS), (2, hS)], [zeQ]⟩, 1, [(none, ⟨[(0, hI)], [zeQ]⟩)], fun x => zcI o x.1 x.2.1 x.2.2⟩
theorem zmU : SCok Tryz.prog tabs 66 (zgQ o) := zgC (o := o) (η := [(2000006, .join [] [2] [(some 1000000, ⟨[(6, hI)], [zeQ]⟩), (none, ⟨[(0, (.ptr 0 0)), (7, (.ptr 1 0))], [zeQ, ygS]⟩)])]) (Γ := ⟨[], [(31, (zaQ o)), (101, (zaU o))], false⟩) (ctok trivial ⟨zaX, ⟨zbH, trivial⟩⟩) Tryz.func66
def zhH (o : Ops) (v5 : (zaJ × Bool × List zaJ)) (v6 : Int × Bool) : Option ((Int × List zaJ) ⊕ ((List zaJ) × zaJ)) :=
 bif (!v6.2) then some (.inl ((153 : Int), v5.2.2)) else (bif decide (v6.1 < v5.1.2.2.2.2.1) then some (.inl ((153 : Int), v5.2.2)) else some (.inr (v5.2.2, v5.1)))
def zcV (o : Ops) (v0 : Bs) (v1 : Bs) (v2 : Int) (v3 : List zaJ) : Option ((Int × List zaJ)) :=
 (zbS o v2).bind fun v4 => bif (!v4) then some ((1 : Int), v3) else ((zaH o v0 v3).bind fun v5 => bif (!v5.2.1) then some ((150 : Int), v5.2.2) else (bif (v5.1.2.2.2.1 == ([] : Bs)) then some ((154 : Int), v5.2.2) else ((chk (((30 : Int) != 0))).bind fun _ => (ztG o v5.1.2.2.2.1 v1 (w64 (Int.tdiv v2 (30 : Int))) (1 : Int)).bind fun v6 => (zhH o v5 v6).bind fun v7 => match v7 with
 | .inl v8 => some v8
 | .inr v9 => ((zaF o (v9.2.1, v9.2.2.1, v9.2.2.2.1, v9.2.2.2.2.1, w64 (v6.1 + 1), v9.2.2.2.2.2.2) v9.1).bind fun v10 => some ((0 : Int), v10)))))
def zhD (o : Ops) : SC := ⟨⟨[(0, (.ptr 0 0)), (1, hS), (2, hS), (3, hI)], [zeQ]⟩, 1, [(none, ⟨[(0, hI)], [zeQ]⟩)], fun x => zcV o x.1 x.2.1 x.2.2.1 x.2.2.2⟩
theorem zmY : SCok Tryz.prog tabs 68 (zhD o) := zgC (o := o) (η := [(2000011, .join [] [11] [(some 1000000, ⟨[(8, hI)], [zeQ]⟩), (none, ⟨[(0, (.ptr 0 0)), (9, (.ptr 1 0))], [zeQ, ygS]⟩)])]) (Γ := ⟨[(102, (zdR o)), (103, (zxR o))], [(31, (zaQ o)), (101, (zaU o))], false⟩) (ctok ⟨zfD, ⟨yeV, trivial⟩⟩ ⟨zaX, ⟨zbH, trivial⟩⟩) Tryz.func68
def zgJ (o : Ops) (v1 : zmA) (v3 : (zaJ × Bool × List zaJ)) : Option ((Int × List zaJ) ⊕ ((List zaJ) × Bs × Bs × Bs × Int × zaJ)) :=
 (zeG o v1).bind fun v4 => bif (!v4) then some (.inl ((155 : Int), v3.2.2)) else ((zaN o v3.1.2.2.2.2.2.2.2 v1.1).bind fun v5 => bif decide (v5 ≥ 0) then some (.inl ((155 : Int), v3.2.2)) else some (.inr (v3.2.2, v1.1, v1.2.1, v1.2.2.1, v1.2.2.2, v3.1)))
def zcF (o : Ops) (v0 : Bs) (v1 : zmA) (v2 : List zaJ) : Option ((Int × List zaJ)) :=
 (zaH o v0 v2).bind fun v3 => bif (!v3.2.1) then some ((150 : Int), v3.2.2) else ((zgJ o v1 v3).bind fun v6 => match v6 with
 | .inl v7 => some v7
 | .inr v8 => (let v9 : Bool := decide ((v8.2.2.2.2.2.2.2.2.2.2.2.2.length : Int) ≥ 4)
 bif v9 then some ((156 : Int), v8.1) else ((app ([] : List zmA) v8.2.2.2.2.2.2.2.2.2.2.2.2).bind fun v10 => (app v10 ([(v8.2.1, v8.2.2.1, v8.2.2.2.1, v8.2.2.2.2.1)] : List zmA)).bind fun v11 => (zaF o (v8.2.2.2.2.2.1, v8.2.2.2.2.2.2.1, v8.2.2.2.2.2.2.2.1, v8.2.2.2.2.2.2.2.2.1, v8.2.2.2.2.2.2.2.2.2.1, v8.2.2.2.2.2.2.2.2.2.2.1, v8.2.2.2.2.2.2.2.2.2.2.2.1, v11) v8.1).bind fun v12 => some ((0 : Int), v12))))
def zgI (o : Ops) : SC := ⟨⟨[(0, (.ptr 0 0)), (1, hS), (2, (.h ycX))], [zeQ]⟩, 1, [(none, ⟨[(0, hI)], [zeQ]⟩)], fun x => zcF o x.1 x.2.1 x.2.2⟩
theorem zlZ : SCok Tryz.prog tabs 69 (zgI o) := zgC (o := o) (η := [(2000006, .join [] [] [(some 1000000, ⟨[(6, hI)], [zeQ]⟩), (none, ⟨[(0, (.ptr 0 0)), (5, (.ptr 1 0)), (7, (.ptr 2 0))], [zeQ, .blk 58 [hS, hS, hS, hI], ygS]⟩)]),
 xaX]) (Γ := ⟨[(83, (ziT o)), (84, (zbQ o))], [(31, (zaQ o)), (101, (zaU o))], false⟩) (ctok ⟨zmK, ⟨zcG, trivial⟩⟩ ⟨zaX, ⟨zbH, trivial⟩⟩) Tryz.func69
def zdF (o : Ops) (v0 : Bs) (v1 : Bs) (v2 : List zaJ) : Option ((zmA × Bool × List zaJ)) :=
 (zaH o v0 v2).bind fun v3 => (zaN o v3.1.2.2.2.2.2.2.2 v1).bind fun v4 => bif decide (v4 < 0) then some ((([] : Bs), ([] : Bs), ([] : Bs), (0 : Int)), false, v3.2.2) else ((idx v3.1.2.2.2.2.2.2.2 v4).bind fun v5 => some (v5, true, v3.2.2))
def zhZ (o : Ops) : SC := ⟨⟨[(0, (.ptr 0 0)), (1, hS), (2, hS)], [zeQ]⟩, 2, [(none, ⟨[(0, (.h ycX)), (1, hB)], [zeQ]⟩)], fun x => zdF o x.1 x.2.1 x.2.2⟩
theorem znV : SCok Tryz.prog tabs 70 (zhZ o) := zgC (o := o) (η := []) (Γ := ⟨[(84, (zbQ o))], [(31, (zaQ o))], false⟩) (ctok ⟨zcG, trivial⟩ ⟨zaX, trivial⟩) Tryz.func70
def zcK (o : Ops) (v2 : Int) (v4 : (zaJ × Bool × List zaJ)) (v6 : zmA) : Option ((Int × List zaJ) ⊕ ((List zaJ) × zaJ)) :=
 bif decide (v2 > 4294967295) then some (.inl ((153 : Int), v4.2.2)) else (bif decide (v2 ≤ v6.2.2.2) then (bif (v2 == 0) then (bif (!(v6.2.2.2 == 0)) then some (.inl ((153 : Int), v4.2.2)) else some (.inr (v4.2.2, v4.1))) else some (.inl ((153 : Int), v4.2.2))) else some (.inr (v4.2.2, v4.1)))
def zcM (o : Ops) (v0 : Bs) (v1 : Bs) (v2 : Int) (v3 : List zaJ) : Option ((Int × List zaJ)) :=
 (zaH o v0 v3).bind fun v4 => bif (!v4.2.1) then some ((150 : Int), v4.2.2) else ((zaN o v4.1.2.2.2.2.2.2.2 v1).bind fun v5 => bif decide (v5 < 0) then some ((154 : Int), v4.2.2) else ((idx v4.1.2.2.2.2.2.2.2 v5).bind fun v6 => (zcK o v2 v4 v6).bind fun v7 => match v7 with
 | .inl v8 => some v8
 | .inr v9 => ((app ([] : List zmA) v9.2.2.2.2.2.2.2.2).bind fun v10 => (chk (decide ((0 : Int) ≤ v5) && decide (v5 < (v10.length : Int)))).bind fun _ => (idx v10 v5).bind fun v11 => (setL v10 v5 (v11.1, v11.2.1, v11.2.2.1, v2)).bind fun v12 => (zaF o (v9.2.1, v9.2.2.1, v9.2.2.2.1, v9.2.2.2.2.1, v9.2.2.2.2.2.1, v9.2.2.2.2.2.2.1, v9.2.2.2.2.2.2.2.1, v12) v9.1).bind fun v13 => some ((0 : Int), v13))))
def zgN (o : Ops) : SC := ⟨⟨[(0, (.ptr 0 0)), (1, hS), (2, hS), (3, hI)], [zeQ]⟩, 1, [(none, ⟨[(0, hI)], [zeQ]⟩)], fun x => zcM o x.1 x.2.1 x.2.2.1 x.2.2.2⟩
theorem zmT : SCok Tryz.prog tabs 71 (zgN o) := zgC (o := o) (η := [(2000010, .join [] [3, 11] [(some 1000000, ⟨[(8, hI)], [zeQ]⟩), (none, ⟨[(0, (.ptr 0 0)), (9, (.ptr 1 0))], [zeQ, ygS]⟩)])]) (Γ := ⟨[(84, (zbQ o))], [(31, (zaQ o)), (101, (zaU o))], false⟩) (ctok ⟨zcG, trivial⟩ ⟨zaX, ⟨zbH, trivial⟩⟩) Tryz.func71
def zfB (o : Ops) (v0 : ztE) (v1 : List zaJ) (v2 : List zqI) : Option ((Bool × (List zaJ) × List zqI)) :=
 bif (v0.2.1 == 0) then ((zeP o v0.2.2.2.1 v0.2.2.2.2.1 v0.2.2.2.2.2.1 v2).bind fun v3 => (zdG o v0.2.2.2.1 v0.2.2.2.2.1 v0.2.2.2.2.2.1 v1).bind fun v4 => some ((v3.1 == v4.1), v4.2, v3.2)) else (bif (v0.2.1 == 1) then ((zfM o v0.2.2.2.1 v2).bind fun v5 => (zcU o v0.2.2.2.1 v1).bind fun v6 => some ((v5.1 == v6.1), v6.2, v5.2)) else (bif (v0.2.1 == 2) then ((zaY o v0.2.2.2.1 v0.2.2.2.2.2.1 v0.2.2.1 v2).bind fun v7 => (zcL o v0.2.2.2.1 v0.2.2.2.2.2.1 v0.2.2.1 v1).bind fun v8 => some ((v7.1 == v8.1), v8.2, v7.2)) else (bif (v0.2.1 == 3) then ((zdS o v0.2.2.2.1 v0.2.2.2.2.2.1 v2).bind fun v9 => (zcI o v0.2.2.2.1 v0.2.2.2.2.2.1 v1).bind fun v10 => some ((v9.1 == v10.1), v10.2, v9.2)) else (bif (v0.2.1 == 4) then ((zdW o v0).bind fun v11 => (zcE o v0.2.2.2.1 v11 v0.2.2.1 v2).bind fun v12 => (zcV o v0.2.2.2.1 v11 v0.2.2.1 v1).bind fun v13 => some ((v12.1 == v13.1), v13.2, v12.2)) else (bif (v0.2.1 == 5) then ((zcD o v0.2.2.2.1 v0.2.2.2.2.2.2 v2).bind fun v14 => (zcF o v0.2.2.2.1 v0.2.2.2.2.2.2 v1).bind fun v15 => some ((v14.1 == v15.1), v15.2, v14.2)) else (bif (v0.2.1 == 6) then ((zgD o v0.2.2.2.1 v0.2.2.2.2.2.2.1 v2).bind fun v16 => (zdF o v0.2.2.2.1 v0.2.2.2.2.2.2.1 v1).bind fun v17 => let v18 : Bool := ((v16.1.1 == v17.1.1) && ((v16.1.2.1 == v17.1.2.1) && ((v16.1.2.2.1 == v17.1.2.2.1) && (decide (v16.1.2.2.2 = v17.1.2.2.2)))))
 bif v18 then (bif (v16.2.1 == v17.2.1) then ((zbK o v0.2.2.2.1 v0.2.2.2.2.2.2.1 v0.2.2.1 v16.2.2).bind fun v19 => (zcM o v0.2.2.2.1 v0.2.2.2.2.2.2.1 v0.2.2.1 v17.2.2).bind fun v20 => some ((v19.1 == v20.1), v20.2, v19.2)) else some (false, v17.2.2, v16.2.2)) else some (false, v17.2.2, v16.2.2)) else some (true, v1, v2)))))))
def zlA (o : Ops) : SC := ⟨⟨[(0, (.ptr 0 0)), (1, (.ptr 1 0)), (2, (.h zwS))], [yjQ, zeQ, zwX]⟩, 1, [(none, ⟨[(0, hB)], [yjQ, zeQ, .mp false .s zvN]⟩)], fun x => zfB o x.1 x.2.1 x.2.2⟩
theorem zrU : SCok Tryz.prog tabs 28 (zlA o) := zgC (o := o) (η := [xaQ,
 xaY,
 yzX,
 xbD,
 xbA,
 ysT,
 yrB]) (Γ := ⟨[(67, (zhP o))], [(17, (zhX o)), (62, (ziB o)), (63, (zjV o)), (64, (zhC o)), (19, (zfX o)), (65, (zgP o)), (20, (zfV o)), (66, (zgQ o)), (22, (zgU o)), (68, (zhD o)), (25, (zfL o)), (69, (zgI o)), (26, (zkS o)), (70, (zhZ o)), (27, (zfY o)), (71, (zgN o))], false⟩) (ctok ⟨zlI, trivial⟩ ⟨zkG, ⟨znX, ⟨zoS, ⟨zmX, ⟨zjG, ⟨zmG, ⟨zjK, ⟨zmU, ⟨zjS, ⟨zmY, ⟨ziI, ⟨zlZ, ⟨zqC, ⟨znV, ⟨zjE, ⟨zmT, trivial⟩⟩⟩⟩⟩⟩⟩⟩⟩⟩⟩⟩⟩⟩⟩⟩) Tryz.func28
def zcA (o : Ops) (v0 : List (Bs × Bs)) (v1 : List (Bs × Bs)) (v2 : Int) : Option (Int ⊕ (Bool ⊕ Unit)) :=
 bif decide (v2 < (v0.length : Int)) then ((idx v0 v2).bind fun v3 => (idx v1 v2).bind fun v4 => bif (!((v3.1 == v4.1) && (v3.2 == v4.2))) then some (.inr (.inl false)) else some (.inl (w64 (v2 + 1)))) else some (.inr (.inr ()))
def zcH (o : Ops) (v0 : List (Bs × Bs)) (v1 : List (Bs × Bs)) : Option (Bool) :=
 bif ((v0.length : Int) != (v1.length : Int)) then (some false) else ((iter (zcA o v0 v1) (0 : Int)).bind fun v5 => match v5 with
 | .inl v6 => (some v6)
 | .inr v7 => (some true))
def zjA (o : Ops) : PC := ⟨[(.h (.sl (.pr .s .s))), (.h (.sl (.pr .s .s)))], [.b], fun x => zcH o x.1 x.2, false⟩
theorem zpH : PCok Tryz.prog tabs 11 (zjA o) := zsW (o := o) (η := [(200004, .loop [] ⟨[(5, hI)], []⟩ [0, 1] [(some 1000000, ⟨[(4, hB)], []⟩), (some 0, ⟨[], []⟩)]),
 (4000006, .sch [(.pu, 0, []), (.pu, 1, []), (.pu, 2, []), (.pu, 3, []), (.pu, 4, []), (.pu, 5, []), (.pu, 6, []), (.pu, 7, []), (.pu, 8, [])])]) (Γ := ⟨[], [], false⟩) (ctok trivial trivial) Tryz.func11
def zdE (o : Ops) (v0 : List ztE) (v3 : Int) (v4 : List zaJ) (v5 : List zqI) : Option ((Int × (List zaJ) × List zqI) ⊕ ((List zqI))) :=
 bif decide (v3 < (v0.length : Int)) then ((idx v0 v3).bind fun v6 => (zfB o v6 v4 v5).bind fun v7 => some (.inl (w64 (v3 + 1), v7.2))) else some (.inr v5)
def zoX (o : Ops) : Option (Bool) :=
 some false
def ziM (o : Ops) (v9 : ((List (Bs × Bs)) × List zqI)) (v12 : (Int × List zqI)) : Option (Bool ⊕ ((List zqI) × List zqI)) :=
 bif (v12.1 != 0) then some (.inl false) else some (.inr (v9.2, v12.2))
def zdH (o : Ops) (v1 : List ztE) (v17 : Int) (v18 : List zqI) (v19 : List zqI) : Option ((Int × (List zqI) × List zqI) ⊕ (Bool ⊕ ((List zqI) × List zqI))) :=
 bif decide (v17 < (v1.length : Int)) then ((idx v1 v17).bind fun v20 => (zdY o v20 v18).bind fun v21 => (idx v1 v17).bind fun v22 => (zdY o v22 v19).bind fun v23 => (zbR o v21.2.2).bind fun v24 => (zbR o v23.2.2).bind fun v25 => (zcH o v24.1 v25.1).bind fun v26 => bif (!v26) then some (.inr (.inl false)) else some (.inl (w64 (v17 + 1), v24.2, v25.2))) else some (.inr (.inr (v18, v19)))
def zdM (o : Ops) (v0 : List ztE) (v1 : List ztE) : Option (Bool) :=
 (zlV o).bind fun v2 => (iter (fun x => zdE o v0 x.1 x.2.1 x.2.2) ((0 : Int), ([] : List zaJ), v2)).bind fun v8 => (zbR o v8).bind fun v9 => (zmH o v9.1).bind fun v10 => match v10 with
 | .inl v11 => ((zoX o).bind fun v13 => some v13)
 | .inr v12 => ((ziM o v9 v12).bind fun v14 => match v14 with
 | .inl v15 => (some v15)
 | .inr v16 => ((iter (fun x => zdH o v1 x.1 x.2.1 x.2.2) ((0 : Int), v16)).bind fun v27 => match v27 with
 | .inl v28 => (some v28)
 | .inr v29 => ((zbR o v29.1).bind fun v30 => (zbR o v29.2).bind fun v31 => (zcH o v30.1 v31.1).bind fun v32 => bif v32 then ((some true).bind fun v33 => some v33) else (some false))))
def zoW (o : Ops) : PC := ⟨[(.h (.sl zwS)), (.h (.sl zwS))], [.b], fun x => zdM o x.1 x.2, false⟩
theorem yaJ : PCok Tryz.prog tabs 7 (zoW o) := zsW (o := o) (η := [(200006, .loop [] ⟨[(5, (.ptr 0 0)), (6, (.ptr 1 0)), (7, hI)], [yjQ, zeQ, zwX]⟩ [0, 1, 4] [(some 0, ⟨[(5, (.ptr 0 0))], [ysG, zwX]⟩)]),
 (2000012, .whn 8 1 (.join [] [] [(some 1000000, ⟨[(4, hB)], []⟩)])),
 (2000012, .whn 8 2 (.join [] [1] [(some 1000000, ⟨[(4, hB)], []⟩), (none, ⟨[(5, (.ptr 0 0)), (8, (.ptr 1 0))], [yjQ, xfB, zwX, zwX]⟩)])),
 (200013, .loop [] ⟨[(5, (.ptr 0 0)), (8, (.ptr 1 0)), (10, hI)], [yjQ, xfB, zwX, zwX]⟩ [1] [(some 1000000, ⟨[(4, hB)], []⟩), (some 2, ⟨[(5, (.ptr 0 0)), (8, (.ptr 1 0))], [yjQ, xfB, zwX, zwX]⟩)])]) (Γ := ⟨[(11, (zjA o)), (12, yoG)], [(28, (zlH o)), (16, (zpW o)), (28, (zlA o)), (15, (zjW o)), (9, (zrP o))], false⟩) (ctok ⟨zpH, ⟨yyK, trivial⟩⟩ ⟨ztD, ⟨ztH, ⟨zrU, ⟨zoN, ⟨zxA, trivial⟩⟩⟩⟩⟩) Tryz.func7
end
end Go.Proofs.YtmkomlbiaebddaaGreatDoor.Am
namespace Go.Proofs.YtmkomlbiaebddaaGreatDoor
open Go Go.RowKit
theorem zrV (u : Nat) : Lib.decDigits u = if u < 10 then [UInt8.ofNat (48 + u)] else Lib.decDigits (u / 10) ++ [UInt8.ofNat (48 + u % 10)] := by
 rw [Lib.decDigits]
 by_cases h : u < 10
 ·rw [dif_pos h, if_pos h]
 ·rw [dif_neg h, if_neg h]
theorem yhE {d : Nat} (h : d < 10) : (UInt8.ofNat (48 + d)).toNat = 48 + d := by
 simp [UInt8.toNat_ofNat]; omega
theorem ygN : ∀ (u : Nat), ∀ b ∈ Lib.decDigits u, 48 ≤ b.toNat ∧ b.toNat ≤ 57 := by
 intro u
 induction u using Nat.strongRecOn with
 | _ u ih =>
  intro b hb
  rw [zrV] at hb
  by_cases h : u < 10
  ·rw [if_pos h] at hb
   simp only [List.mem_singleton] at hb
   rw [hb, yhE h]; omega
  ·rw [if_neg h] at hb
   rcases List.mem_append.1 hb with hb | hb
   ·exact ih (u / 10) (by omega) b hb
   ·simp only [List.mem_singleton] at hb
    rw [hb, yhE (by omega)]; omega
theorem yrV (u : Nat) : Lib.decDigits u ≠ [] := by
 rw [zrV]
 by_cases h : u < 10 <;> simp [h]
theorem yhB : ∀ (u : Nat), u ≠ 0 → ∃ b l, Lib.decDigits u = b :: l ∧ b ≠ 48 := by
 intro u
 induction u using Nat.strongRecOn with
 | _ u ih =>
  intro hu
  rw [zrV]
  by_cases h : u < 10
  ·rw [if_pos h]
   refine ⟨_, _, rfl, fun e => ?_⟩
   have := congrArg UInt8.toNat e
   rw [yhE h] at this
   have : 48 + u = 48 := this
   omega
  ·rw [if_neg h]
   obtain ⟨b, l, h1, h2⟩ := ih (u / 10) (by omega) (by omega)
   exact ⟨b, l ++ _, by rw [h1]; rfl, h2⟩
theorem zpJ : ∀ (k u : Nat), 0 < k → u < 10 ^ k → (Lib.decDigits u).length ≤ k
 | 0, _, h, _ => absurd h (Nat.lt_irrefl 0)
 | k + 1, u, _, h => by
  rw [zrV]
  by_cases hu : u < 10
  ·rw [if_pos hu]; simp
  ·rw [if_neg hu]
   have hk : 0 < k := by
    rcases Nat.eq_zero_or_pos k with rfl | hk
    ·rw [Nat.zero_add, Nat.pow_one] at h; omega
    ·exact hk
   have := zpJ k (u / 10) hk (by rw [Nat.pow_succ] at h; omega)
   simp; omega
theorem yeH {b : UInt8} (hb : 48 ≤ b.toNat ∧ b.toNat ≤ 57) : ∀ (l : Bs) (acc v : Nat), Lib.parseUint10 acc l = .ok v → v < 1844674407370955161 → Lib.parseUint10 acc (l ++ [b]) = .ok (v * 10 + (b.toNat - 48))
 | [], acc, v, h, hv => by
  simp only [Lib.parseUint10] at h
  cases h
  simp only [List.nil_append, Lib.parseUint10]
  rw [if_pos hb, if_neg (by omega), if_neg (by omega)]
 | c :: l, acc, v, h, hv => by
  simp only [List.cons_append, Lib.parseUint10] at h ⊢
  split at h
  ·rename_i h1
   split at h
   ·cases h
   ·rename_i h2
    split at h
    ·cases h
    ·rename_i h3
     rw [if_pos h1, if_neg h2, if_neg h3]
     exact yeH hb l _ v h hv
  ·cases h
theorem yuC : ∀ (u : Nat), u < 9223372036854775808 → Lib.parseUint10 0 (Lib.decDigits u) = .ok u := by
 intro u
 induction u using Nat.strongRecOn with
 | _ u ih =>
  intro hu
  rw [zrV]
  by_cases h : u < 10
  ·rw [if_pos h]
   have e := yhE h
   simp only [Lib.parseUint10]
   rw [if_pos (by rw [e]; omega), if_neg (by omega), if_neg (by rw [e]; omega), e]
   congr 1; omega
  ·rw [if_neg h]
   have e := yhE (show u % 10 < 10 by omega)
   rw [yeH (by rw [e]; omega) _ _ _ (ih (u / 10) (by omega) (by omega)) (by omega), e]
   congr 1; omega
theorem yyG (u : Nat) (hu : u < 9223372036854775808) : Lib.atoiAll (Lib.decDigits u) = .ok (u : Int) := by
 have hne := yrV u
 cases hl : Lib.decDigits u with
 | nil => exact absurd hl hne
 | cons c r =>
  have hc := ygN u c (by rw [hl]; exact List.mem_cons_self)
  have hp := yuC u hu
  rw [hl] at hp
  unfold Lib.atoiAll
  simp only
  rw [if_neg (by omega)]
  unfold Lib.parseMag
  rw [if_neg (by simp), hp]
  simp only
  rw [if_neg (by omega), if_neg (by omega), if_neg (by omega)]
theorem yiH (u : Nat) (hu : u < 1000000000000000) : yqB (Lib.decDigits u) = some ((u : Int), false) := by
 have hl := zpJ 15 u (by decide) hu
 unfold yqB
 rw [decide_eq_true (show (Lib.decDigits u).length ≤ 9223372036854775806 by omega), yyG u (by omega)]
 rfl
theorem ybD (u : Nat) (hu : u < 9223372036854775808) : ycV (u : Int) = some (Lib.decDigits u) := by
 unfold ycV ycS
 rw [decide_eq_true (show (-9223372036854775808 : Int) ≤ (u : Int) by omega), decide_eq_true (show (u : Int) ≤ 9223372036854775807 by omega)]
 simp only [Bool.and_self, cond_true]
 rw [decide_eq_false (show ¬ (u : Int) < 0 by omega)]
 simp only [cond_false, Int.toNat_natCast]
 rw [ygR 20 u (by omega) (by decide)]
abbrev tenL : Bs := [48, 49, 50, 51, 52, 53, 54, 55, 56, 57]
theorem xcO {b : UInt8} (h : 48 ≤ b.toNat ∧ b.toNat ≤ 57) : tenL.contains b = true := by
 have e : b = UInt8.ofNat b.toNat := by simp
 rw [e]
 rcases (by omega : b.toNat = 48 ∨ b.toNat = 49 ∨ b.toNat = 50 ∨ b.toNat = 51 ∨ b.toNat = 52 ∨ b.toNat = 53 ∨ b.toNat = 54 ∨ b.toNat = 55 ∨ b.toNat = 56 ∨ b.toNat = 57) with h | h | h | h | h | h | h | h | h | h <;> rw [h] <;> decide
theorem ykA {p : UInt8 → Bool} : ∀ {l : Bs}, (∀ b ∈ l, p b = true) → l.dropWhile p = []
 | [], _ => rfl
 | b :: l, h => by
  rw [List.dropWhile_cons, if_pos (h b List.mem_cons_self)]
  exact ykA fun b hb => h b (List.mem_cons_of_mem _ hb)
theorem yzJ {l : Bs} (h : ∀ b ∈ l, 48 ≤ b.toNat ∧ b.toNat ≤ 57) : Lib.trimS l tenL = [] := by
 have h2 : l.reverse.dropWhile (tenL.contains ·) = [] := ykA fun b hb => xcO (h b (List.mem_reverse.1 hb))
 unfold Lib.trimS Lib.trimRightS
 rw [h2]; rfl
theorem yiQ (u : Nat) (hu : u < 1000000000000000) : yjC (Lib.decDigits u) tenL = some [] := by
 have hl := zpJ 15 u (by decide) hu
 unfold yjC
 rw [decide_eq_true (show (Lib.decDigits u).length ≤ 9223372036854775807 by omega), decide_eq_true (show tenL.length < 4294967281 by decide), show tenL.all (fun b => decide (b.toNat < 128)) = true by decide]
 simp only [Bool.and_self, cond_true]
 rw [yzJ (ygN u)]
theorem ydT (b : UInt8) (l sub : Bs) : Lib.index (b :: l) sub = if sub.isPrefixOf (b :: l) = true then 0 else (if Lib.index l sub = -1 then -1 else Lib.index l sub + 1) := by
 rw [Lib.index]
 split <;> simp_all
theorem yeN {m : UInt8} {r : Bs} : ∀ {d : Bs}, m ∉ d → Lib.index (d ++ m :: r) [m] = (d.length : Int)
 | [], _ => by
  rw [List.nil_append, ydT, if_pos (by simp [List.isPrefixOf])]; rfl
 | b :: d, h => by
  have hb : b ≠ m := fun e => h (by rw [e]; exact List.mem_cons_self)
  have ih := yeN (r := r) (d := d) fun hm => h (List.mem_cons_of_mem _ hm)
  rw [List.cons_append, ydT, if_neg (by simp [List.isPrefixOf]; exact fun e => hb e.symm), ih, if_neg (by omega)]
  simp
theorem yzG {m : UInt8} {d r : Bs} (h : m ∉ d) : Lib.cut (d ++ m :: r) [m] = (d, r, true) := by
 unfold Lib.cut
 rw [yeN h, if_pos (by omega)]
 simp [List.take_append, List.drop_append]
theorem yrM (u : Nat) : (58 : UInt8) ∉ Lib.decDigits u := fun h => by
 have := ygN u _ h
 have e : (58 : UInt8).toNat = 58 := rfl
 omega
theorem ywZ (u : Nat) (r : Bs) (h : (Lib.decDigits u ++ 58 :: r).length < 4294967281) : cutP (Lib.decDigits u ++ 58 :: r) [58] = some (Lib.decDigits u, r, true) := by
 unfold cutP
 rw [decide_eq_true h, yzG (yrM u)]; rfl
def zgF : List Bs → Bs
 | [] => []
 | t :: ts => Lib.decDigits t.length ++ 58 :: (t ++ zgF ts)
section
open Go Go.RowKit Go.ChangeShapes Go.WideShapes Go.ChangeAt
section
variable {H : Type} {enc : TypeId × Value → H} {P : Program} {W W' : World}
theorem ycH (hl : laidOutB P = true) (hx : Below W.heap.size W W') : ∀ {ts : List TypeId} {vs : LV} {ds : List (DataW H)} {ps : List MemPlace}, ts.all (fun t => P.readableRec t && decide (t < P.types.size)) = true →
  DataW.TrodAll enc P W 0 (fun _ => true) true ts vs ds ps → (∀ x ∈ ps, x.block < W.heap.size) → DataW.TrodAll enc P W' 0 (fun b => decide (b < W.heap.size)) true ts vs ds ps
 | [], vs, ds, ps, _, h, _ => by
  obtain ⟨rfl, rfl, rfl⟩ := trodAll_nil h
  exact trodAll_mk0
 | t :: ts, vs, ds, ps, ha, h, hlt => by
  obtain ⟨v, vs', d, ds', p, q, rfl, rfl, rfl, h0, hr⟩ := trodAll_cons h
  simp only [List.all_cons, Bool.and_eq_true, decide_eq_true_eq] at ha
  exact trodAll_cons_mk (Below.trod hl ha.1.1 ha.1.2 h0 hx fun x hx => hlt x (List.mem_append.2 (.inl hx)))
   (ycH hl hx ha.2 hr fun x hx => hlt x (List.mem_append.2 (.inr hx)))
theorem trodAll_length : ∀ {ts : List TypeId} {vs : LV} {ds : List (DataW H)} {ps : List MemPlace} {w : World} {b : Nat} {sp : Nat → Bool} {hd : Bool}, DataW.TrodAll enc P w b sp hd ts vs ds ps → vs.length = ts.length ∧ ds.length = ts.length
 | [], vs, ds, ps, _, _, _, _, h => by
  obtain ⟨rfl, rfl, rfl⟩ := trodAll_nil h
  exact ⟨rfl, rfl⟩
 | t :: ts, vs, ds, ps, _, _, _, _, h => by
  obtain ⟨v, vs', d, ds', p, q, rfl, rfl, rfl, h0, hr⟩ := trodAll_cons h
  have := trodAll_length hr
  simp [this.1, this.2]
theorem yyY {f : Func} {s : ChangeSpec} {args : Array Value} {ds gs : List (DataW H)} {before : List MemPlace} {B : TypeId} {n : Nat} (hl : laidOutB P = true) (hv : s.vars = [])
  (hp : f.params.toList.all (fun t => P.readableRec t && decide (t < P.types.size)) = true) (hn : f.params.toList.length = n) (hB : P.underlying B = some .bool) (hr : f.resultTypes = #[B])
  (hfn : ∀ ds : List (DataW H), ds.length = n → (s.fn H (ds ++ [])).results = [.lit (.bool true)] ∧ (s.fn H (ds ++ [])).args = ds ∧ (s.fn H (ds ++ [])).vars = [])
  (hW : DataW.Whole enc P f.params.toList s.vars false W args.toList ds gs before) (hx : Ext W W') : s.post enc P f false true false false W args (.bool true) W' := by
 have hW' := hW
 obtain ⟨p, q, hA, hV, rfl, _, _⟩ := hW
 rw [hv] at hV
 obtain ⟨rfl, rfl⟩ := trodVars_none hV
 have hA : DataW.TrodAll enc P W 0 (fun _ => true) true f.params.toList args.toList ds p := hA
 have hlen := trodAll_length hA
 obtain ⟨f1, f2, f3⟩ := hfn ds (hlen.2.trans hn)
 refine ⟨ds, [], p ++ [], [], p, [], hW', ?_, ?_, ?_, Below.frame hx _, fun h => by cases h⟩
 ·rw [f1, hr]
  exact trodAll_mk1 (shut_bool hB _)
 ·rw [f2]
  exact ycH hl hx hp hA fun x hxp => by simpa using hW'.lt x (by simp [hxp])
 ·rw [f3, hv]; exact rfl
variable {b0 : Nat} {T E : TypeId} {v : Value}
theorem yxM {fits : TypeId → Bool} : ∀ {d : Nat} {e : TypeId} {count off n : Nat}, rowAt P fits d e count off n = true → off ≤ count * P.cellsOf e
 | 0, _, _, _, _, h => by simp [rowAt] at h
 | d + 1, e, count, off, n, h => by
  unfold rowAt at h
  by_cases hs : P.cellsOf e = 0
  ·simp [hs] at h
  ·have hd := Nat.div_add_mod off (P.cellsOf e)
   have hm := Nat.mod_lt off (Nat.pos_of_ne_zero hs)
   simp only [hs, if_false, Bool.or_eq_true, Bool.and_eq_true, decide_eq_true_eq, beq_iff_eq] at h
   rcases h with ⟨⟨h1, h2⟩, _⟩ | ⟨h1, _⟩
   ·have h3 : P.cellsOf e * (off / P.cellsOf e) ≤ P.cellsOf e * count := Nat.mul_le_mul_left _ (by omega)
    rw [Nat.mul_comm count]; omega
   ·have h3 : P.cellsOf e * (off / P.cellsOf e + 1) ≤ P.cellsOf e * count := Nat.mul_le_mul_left _ (by omega)
    rw [Nat.mul_add, Nat.mul_one] at h3
    rw [Nat.mul_comm count]; omega
theorem yhD : ∀ {d : Nat} {e : TypeId} {count off : Nat} {u : TypeId} {n : Nat}, liesAt P d e count off u n = true → off ≤ count * P.cellsOf e
 | 0, _, _, _, _, _, h => by simp [liesAt] at h
 | d + 1, e, count, off, u, n, h => by
  unfold liesAt at h
  rw [Bool.or_eq_true] at h
  rcases h with h | h
  ·exact yxM h
  ·split at h
   ·exact yhD h
   ·cases h
theorem yxJ {a : Addr} {len cap : Nat} (hu : P.underlying T = some (.slice E)) (h : Value.okWide P W .any b0 T (.slice (some a) len cap)) :
  a.spot = none ∧ ∃ cs R fz, W.heap[a.block]? = some (.cells cs R fz) ∧ a.off ≤ cs.size := by
 simp only [Value.okWide, Cell.okWide, Cell.ok, hu] at h
 obtain ⟨_, _, _, h2, row, cells, h3, h4⟩ := h
 refine ⟨h2, ?_⟩
 unfold World.shape? at h3
 split at h3
 ·rename_i c elem fz hb
  simp only [Option.some.injEq, Prod.mk.injEq] at h3
  obtain ⟨rfl, rfl⟩ := h3
  have h5 := yhD h4
  have h6 := Nat.div_mul_le_self c.size (P.cellsOf elem)
  exact ⟨c, _, fz, hb, by omega⟩
 ·cases h3
theorem ok_slice (hu : P.underlying T = some (.slice E)) (h : Value.okWide P W .any b0 T v) : v = .slice none 0 0 ∨ ∃ a len cap, v = .slice (some a) len cap := by
 simp only [Value.okWide, Cell.okWide, Cell.ok, hu] at h
 cases v with
 | slice a len cap =>
  cases a with
  | none =>
   left
   cases len with
   | zero => cases cap with
    | zero => rfl
    | succ n => simp at h
   | succ n => simp at h
  | some a => exact .inr ⟨a, len, cap, rfl⟩
 | _ => simp at h
theorem yyR {l r : List (DataW H)} : Rows.uptoBulkAll (l ++ r) = Rows.uptoBulkAll l + Rows.uptoBulkAll r := by
 induction l with
 | nil => simp [Rows.uptoBulkAll]
 | cons x l ih => simp only [List.cons_append, Rows.uptoBulkAll, ih]; omega
end
end
end Go.Proofs.YtmkomlbiaebddaaGreatDoor
namespace Go.Proofs.YtmkomlbiaebddaaGreatDoor.Am
open Go Go.RowKit Go.ChangeShapes Go.WideShapes Go.ChangeAt
def dsz : (t : Ty) → den t → Nat
 | .s, x => List.length x + 1
 | .pr a c, x => dsz a x.1 + dsz c x.2
 | .un, _ => 0
 | .sl e, x => (List.map (dsz e) x).sum + 1
 | _, _ => 1
def fOk (q : TypeId → Ty → Bool) (c : TypeId → Nat) : List Field → Nat → Ty → Bool
 | [], _, t => match t with
  | .un => true
  | _ => false
 | [f], off, t => (q f.type t && (Nat.beq f.offset off && Nat.beq (c f.type) (tsz t))) || (match t with
  | .pr a .un => q f.type a && (Nat.beq f.offset off && Nat.beq (c f.type) (tsz a))
  | _ => false)
 | f :: g :: fs, off, t => match t with
  | .pr a r => (q f.type a && (Nat.beq f.offset off && Nat.beq (c f.type) (tsz a))) && fOk q c (g :: fs) (off + tsz a) r
  | _ => false
def tyOk (P : Program) : Nat → TypeId → Ty → Bool
 | 0, _, _ => false
 | n + 1, T, t => match P.underlying T, t with
  | some (.int k), .i k' => (ikEq k k').isSome
  | some .bool, .b => true
  | some .string, .s => true
  | some (.struct fs), t => (Nat.beq (P.cellsOf T) (tsz t) && !(one t)) && fOk (tyOk P n) P.cellsOf fs.toList 0 t
  | _, _ => false
section
variable {H : Type} {enc : TypeId × Value → H} {P : Program} {W : World} {sp : Nat → Bool} {S : Mem}
theorem toI_wf : ∀ {k : IntKind} {n : Int}, (Lit.int k n).wf = true → toI k (ofI k n) = n := fun {k n} h => by
 rw [ysR]
 cases k <;> simp [Lit.wf, IntKind.has, IntKind.min, IntKind.max, IntKind.signed, IntKind.bits] at h <;> simp [IntKind.wrap, IntKind.signed, IntKind.bits] <;> omega
theorem yhN {a c : Ty} {cs : LV} {x : den a} {y : den c} (hx : rep a S (cs.take (tsz a)) x) (hy : rep c S (cs.drop (tsz a)) y) : rep (.pr a c) S cs (x, y) :=
 ⟨_, _, (List.take_append_drop (tsz a) cs).symm, hx, hy⟩
theorem xaH : rep .un S ([] : LV) () := rfl
theorem yjH {q : TypeId → Ty → Bool} {fuel : Nat} (hq : ∀ (T : TypeId) (t : Ty), q T t = true → ∀ cs d ps, DataW.trod enc P W 0 sp true fuel T cs = some (d, ps) → ∃ x : den t, rep t S cs x ∧ dsz t x ≤ Rows.uptoBulk d) {cs : LV} :
  ∀ (fs : List Field) (off : Nat) (t : Ty) (xs : List (DataW H × List MemPlace)), fOk q P.cellsOf fs off t = true → cs.length = off + tsz t →
   A2 (fun (f : Field) y => DataW.trod enc P W 0 sp true fuel f.type ((cs.drop f.offset).take (P.cellsOf f.type)) = some y) fs xs →
   ∃ x : den t, rep t S (cs.drop off) x ∧ dsz t x ≤ Rows.uptoBulkAll (xs.map (·.1))
 | [], off, t, xs, h, hl, hA => by
  cases t <;> simp only [fOk] at h <;> try (cases h; done)
  cases hA
  refine ⟨(), ?_, Nat.zero_le _⟩
  rw [List.drop_eq_nil_of_le (by rw [hl]; exact Nat.le_refl _)]
  exact xaH
 | [f], off, t, xs, h, hl, hA => by
  cases hA with
  | @cons _ y _ _ h1 h2 =>
   cases h2
   simp only [fOk, Bool.or_eq_true] at h
   rcases h with h | h
   ·rw [Bool.and_eq_true, Bool.and_eq_true] at h
    obtain ⟨h0, h2, h3⟩ := h
    have h2 := Nat.eq_of_beq_eq_true h2
    have h3 := Nat.eq_of_beq_eq_true h3
    obtain ⟨x, hx, hd⟩ := hq _ _ h0 _ _ _ h1
    refine ⟨x, ?_, by simp only [List.map_cons, List.map_nil, Rows.uptoBulkAll]; omega⟩
    rw [h2, h3, List.take_of_length_le (by rw [List.length_drop]; omega)] at hx
    exact hx
   ·cases t with
    | pr a c =>
     cases c with
     | un =>
      rw [Bool.and_eq_true, Bool.and_eq_true] at h
      obtain ⟨h0, h2, h3⟩ := h
      have h2 := Nat.eq_of_beq_eq_true h2
      have h3 := Nat.eq_of_beq_eq_true h3
      obtain ⟨x, hx, hd⟩ := hq _ _ h0 _ _ _ h1
      rw [h2, h3] at hx
      have hl : cs.length = off + tsz a := hl
      refine ⟨(x, ()), yhN hx ?_, by simp only [List.map_cons, List.map_nil, Rows.uptoBulkAll]; show dsz a x + 0 ≤ _; omega⟩
      rw [List.drop_eq_nil_of_le (by rw [List.length_drop]; omega)]
      exact xaH
     | _ => simp at h
    | _ => simp at h
 | f :: g :: fs, off, t, xs, h, hl, hA => by
  cases t with
  | pr a r =>
   simp only [fOk] at h
   rw [Bool.and_eq_true, Bool.and_eq_true, Bool.and_eq_true] at h
   obtain ⟨⟨h1, h2, h3⟩, h4⟩ := h
   have h2 := Nat.eq_of_beq_eq_true h2
   have h3 := Nat.eq_of_beq_eq_true h3
   have hl : cs.length = off + (tsz a + tsz r) := hl
   cases hA with
   | @cons _ y _ ys g1 g2 =>
    obtain ⟨x, hx, hd⟩ := hq _ _ h1 _ _ _ g1
    obtain ⟨z, hz, he⟩ := yjH hq (g :: fs) (off + tsz a) r ys h4 (by omega) g2
    rw [h2, h3] at hx
    refine ⟨(x, z), yhN hx (by rw [List.drop_drop]; exact hz), ?_⟩
    simp only [List.map_cons, Rows.uptoBulkAll]
    show dsz a x + dsz r z ≤ _
    omega
  | _ => simp [fOk] at h
theorem yzZ {α β : Type} {R : α → β → Prop} : ∀ {l : List α} {m : List β}, l.length = m.length → (∀ (i : Nat) (a : α) (b : β), l[i]? = some a → m[i]? = some b → R a b) → A2 R l m
 | [], [], _, _ => .nil
 | [], _ :: _, h, _ => by cases h
 | _ :: _, [], h, _ => by cases h
 | a :: l, b :: m, h, hR => .cons (hR 0 a b rfl rfl) (yzZ (by simpa using h) fun i a b ha hb => hR (i + 1) a b (by simpa using ha) (by simpa using hb))
theorem ymR : ∀ (n : Nat) (T : TypeId) (t : Ty), tyOk P n T t = true → ∀ (fuel : Nat) (cs : LV) (d : DataW H) (ps : List MemPlace), DataW.trod enc P W 0 sp true fuel T cs = some (d, ps) → ∃ x : den t, rep t S cs x ∧ dsz t x ≤ Rows.uptoBulk d
 | 0, _, _, h, _, _, _, _, _ => by cases h
 | n + 1, T, t, h, fuel, cs, d, ps, hd => by
  unfold tyOk at h
  split at h
  ·rename_i k k' hu
   obtain ⟨hk, _⟩ := Option.isSome_iff_exists.1 h
   obtain rfl := hk.down
   obtain ⟨m, rfl, he, hw⟩ := DataW.trod_int hu hd
   cases he
   exact ⟨ofI _ m, (by show [Value.int _ m] = [.int _ (toI _ (ofI _ m))]; rw [toI_wf hw]), Nat.le_refl 1⟩
  ·rename_i hu
   obtain ⟨b, rfl, he⟩ := DataW.trod_bool hu hd
   cases he
   exact ⟨b, rfl, Nat.le_refl 1⟩
  ·rename_i hu
   obtain ⟨s, rfl, he, _⟩ := DataW.trod_string hu hd
   cases he
   exact ⟨s.data.toList, (by show [Value.string s] = [str s.data.toList]; simp [str]), Nat.le_refl _⟩
  ·rename_i fs hu
   rw [Bool.and_eq_true, Bool.and_eq_true] at h
   obtain ⟨⟨h1, _⟩, h2⟩ := h
   have h1 := Nat.eq_of_beq_eq_true h1
   obtain ⟨xs, fuel, rfl, he, hl, hxl, hm⟩ := DataW.trod_struct hu hd
   cases he
   obtain ⟨x, hx, hb⟩ := yjH (S := S) (fuel := fuel) (fun T' t' hq cs d ps => ymR n T' t' hq fuel cs d ps) fs.toList 0 _ xs h2 (by rw [hl, h1]; omega) (yzZ (by simp [hxl]) fun i f y hf hy => (hm i f (by simpa using hf)).trans hy)
   exact ⟨x, by simpa using hx, by simp only [Rows.uptoBulk]; omega⟩
  ·cases h
theorem yzY {e : Ty} : ∀ {xs : List (den e)} {cs ds : LV} {x : den e}, @RL (den e) (rpD e) S cs xs → rep e S ds x → @RL (den e) (rpD e) S (cs ++ ds) (xs ++ [x])
 | [], cs, ds, x, h, hx => by
  have h : cs = [] := h
  subst h
  exact ⟨ds, [], by simp, hx, rfl⟩
 | y :: xs, cs, ds, x, h, hx => by
  obtain ⟨c, d, rfl, h1, h2⟩ := h
  exact ⟨c, d ++ ds, by simp, h1, yzY h2 hx⟩
variable {b0 : Nat} {T E : TypeId} {v : Value}
theorem yyS {n : Nat} {e : Ty} (hu : P.underlying T = some (.slice E)) (he : tyOk P n E e = true) (hc : P.cellsOf E = tsz e) (hz : 0 < tsz e) (h : Value.okWide P W .any b0 T v) {d : DataW H} {ps : List MemPlace} (hd : DataW.Trod enc P W 0 (fun _ => true) true T v d ps) :
  ∃ xs : List (den e), @RdS (den e) (rpD e) (ztC W) v xs ∧ dsz (.sl e) xs ≤ Rows.uptoBulk d := by
 obtain ⟨fuel, hf⟩ := hd
 have hv := ok_slice hu h
 have hcells : v.cells.toList = [v] := by
  rcases hv with rfl | ⟨a, len, cap, rfl⟩ <;> rfl
 rw [hcells] at hf
 rcases DataW.trod_slice hu hf with ⟨h1, h2⟩ | ⟨a, len, cap, elems, rest, m, rfl, h1, h2, _, hlc, _, hel, hget, _, _⟩
 ·simp only [List.cons.injEq, and_true] at h1
  subst h1
  cases h2
  exact ⟨[], ⟨[], .inl ⟨rfl, rfl, rfl⟩, rfl⟩, Nat.le_refl _⟩
 ·simp only [List.cons.injEq, and_true] at h1
  subst h1
  cases h2
  obtain ⟨hsp, cs, R, fz, hb, ho⟩ := yxJ hu h
  obtain ⟨blk, off, spot⟩ := a
  dsimp only at hsp hb ho
  subst hsp
  have ad : ∀ j, (⟨blk, off, none⟩ : Addr).add j = ⟨blk, off + j, none⟩ := fun j => by simp [Addr.add]
  have each : ∀ i, i < len → ∃ y x, elems[i]? = some y ∧ rep e (ztC W) (piece cs.toList (off + i * tsz e) (tsz e)) x ∧ dsz e x ≤ Rows.uptoBulk y.1 ∧ off + (i + 1) * tsz e ≤ cs.toList.length := fun i hi => by
   have hg := hget i hi
   obtain ⟨y, hy⟩ : ∃ y, elems[i]? = some y := ⟨_, List.getElem?_eq_getElem (by omega)⟩
   rw [hy] at hg
   obtain ⟨us, hus, hg⟩ := Option.bind_eq_some_iff.1 hg
   obtain ⟨_, hul, huc⟩ := World.cells?_some hus
   obtain ⟨x, hx, hdx⟩ := ymR (S := ztC W) n E e he m us y.1 y.2 hg
   rw [hc, ad] at huc
   rw [hc] at hul
   have hcell : ∀ j, j < tsz e → cs.toList[off + i * tsz e + j]? = us[j]? := fun j hj => by
    have := huc j hj
    rw [show (⟨blk, off + i * tsz e, none⟩ : Addr).add j = ⟨blk, off + i * tsz e + j, none⟩ by simp [Addr.add]] at this
    simp only [World.cell?, hb, Option.isSome_none, if_neg (show ¬ (false = true) by decide)] at this
    simpa using this
   have hlen : off + (i + 1) * tsz e ≤ cs.toList.length := by
    have h1 := hcell (tsz e - 1) (by omega)
    rw [List.getElem?_eq_getElem (by omega : tsz e - 1 < us.length)] at h1
    have := (List.getElem?_eq_some_iff.1 h1).1
    rw [Nat.add_mul]; omega
   refine ⟨y, x, hy, ?_, hdx, hlen⟩
   have : piece cs.toList (off + i * tsz e) (tsz e) = us := by
    apply List.ext_getElem?
    intro j
    rw [zaM, List.getElem?_take]
    by_cases hj : j < tsz e
    ·rw [if_pos hj, List.getElem?_drop]; exact hcell j hj
    ·rw [if_neg hj, List.getElem?_eq_none (by omega)]
   rw [this]; exact hx
  have key : ∀ k, k ≤ len → ∃ xs : List (den e), xs.length = k ∧ @RL (den e) (rpD e) (ztC W) (piece cs.toList off (k * tsz e)) xs ∧ (List.map (dsz e) xs).sum ≤ Rows.uptoBulkAll ((elems.take k).map (·.1)) := by
   intro k
   induction k with
   | zero => intro _; exact ⟨[], rfl, by simp [piece, RL], Nat.zero_le _⟩
   | succ k ih =>
    intro hk
    obtain ⟨xs, h1, h2, h3⟩ := ih (by omega)
    obtain ⟨y, x, g1, g2, g3, _⟩ := each k (by omega)
    refine ⟨xs ++ [x], by simp [h1], ?_, ?_⟩
    ·have e2 : piece cs.toList off ((k + 1) * tsz e) = piece cs.toList off (k * tsz e) ++ piece cs.toList (off + k * tsz e) (tsz e) := by
      rw [zaM, zaM, zaM, Nat.add_mul, Nat.one_mul, List.take_add, List.drop_drop]
     rw [e2]
     exact yzY h2 g2
    ·rw [List.take_add_one, g1]
     simp only [Option.toList_some, List.map_append, List.map_cons, List.map_nil, List.sum_append, List.sum_cons, List.sum_nil, yyR, Rows.uptoBulkAll]
     omega
  obtain ⟨xs, h1, h2, h3⟩ := key len (Nat.le_refl _)
  have hfit : off + len * tsz e ≤ cs.toList.length := by
   rcases Nat.eq_zero_or_pos len with h0 | h0
   ·subst h0; rw [Array.length_toList]; omega
   ·obtain ⟨_, _, _, _, _, h4⟩ := each (len - 1) (by omega)
    rwa [Nat.sub_add_cancel h0] at h4
  refine ⟨xs, ⟨piece cs.toList off (len * tsz e), ?_, h2⟩, ?_⟩
  ·right
   refine ⟨blk, off, cap, cs.toList, R, fz, ?_, by rw [h1]; exact hlc, by simpa [ztC] using hb, ?_, ?_⟩
   ·rw [h1]
   ·rw [h1]; show _ + _ * (rpD e).sz ≤ _; rw [znW]; exact hfit
   ·rw [h1]; show piece _ _ (_ * (rpD e).sz) = _; rw [znW]
  ·rw [List.take_of_length_le (by omega)] at h3
   show (List.map (dsz e) xs).sum + 1 ≤ _
   simp only [Rows.uptoBulk]
   omega
def argOk (P : Program) (T : TypeId) (t : Ty) : Bool := match P.underlying T, t with
 | some (.slice E), .sl e => tyOk P 8 E e && (Nat.beq (P.cellsOf E) (tsz e) && Nat.blt 0 (tsz e))
 | _, t => tyOk P 8 T t
theorem argD_ok {t : Ty} (ha : argOk P T t = true) (h : Value.okWide P W .any b0 T v) {d : DataW H} {ps : List MemPlace} (hd : DataW.Trod enc P W 0 (fun _ => true) true T v d ps) :
  ∃ x : den t, rep1 t (ztC W) v x ∧ dsz t x ≤ Rows.uptoBulk d := by
 unfold argOk at ha
 split at ha
 ·rename_i E e hu
  rw [Bool.and_eq_true, Bool.and_eq_true] at ha
  obtain ⟨h1, h2, h3⟩ := ha
  obtain ⟨xs, g1, g2⟩ := yyS hu h1 (Nat.eq_of_beq_eq_true h2) (by rw [zlX] at h3; simpa using h3) h hd
  exact ⟨xs, ⟨v, rfl, g1⟩, g2⟩
 ·obtain ⟨fuel, hf⟩ := hd
  obtain ⟨x, hx, hb⟩ := ymR (S := ztC W) 8 T _ ha fuel _ _ _ hf
  refine ⟨x, ?_, hb⟩
  unfold rep1
  unfold tyOk at ha
  split at ha
  ·rename_i hu
   have hv : v.cells.toList = [v] := by
    simp only [Value.okWide, hu, Cell.okWide, Cell.ok] at h
    cases v <;> simp_all <;> rfl
   rw [hv] at hx
   rw [if_pos (show one (.i _) = true from rfl)]; exact hx
  ·rename_i hu
   have hv : v.cells.toList = [v] := by
    simp only [Value.okWide, hu, Cell.okWide, Cell.ok] at h
    cases v <;> simp_all <;> rfl
   rw [hv] at hx
   rw [if_pos (show one .b = true from rfl)]; exact hx
  ·rename_i hu
   have hv : v.cells.toList = [v] := by
    simp only [Value.okWide, hu, Cell.okWide, Cell.ok] at h
    cases v <;> simp_all <;> rfl
   rw [hv] at hx
   rw [if_pos (show one .s = true from rfl)]; exact hx
  ·rename_i fs hu _
   rw [Bool.and_eq_true, Bool.and_eq_true] at ha
   simp only [Value.okWide, hu] at h
   obtain ⟨cs, rfl, _, _⟩ := h
   rw [if_neg (by simpa using ha.1.2)]
   exact ⟨cs.toList, by simp, hx⟩
  ·cases ha
def posT : Ty → Bool
 | .un => false
 | .pr a c => posT a || posT c
 | _ => true
theorem ymO : ∀ {e : Ty}, posT e = true → ∀ x : den e, 1 ≤ dsz e x
 | .i _, _, _ => Nat.le_refl 1
 | .b, _, _ => Nat.le_refl 1
 | .s, _, _ => Nat.le_add_left 1 _
 | .er, _, _ => Nat.le_refl 1
 | .sl _, _, _ => Nat.le_add_left 1 _
 | .mp _ _, _, _ => Nat.le_refl 1
 | .pr a c, h, x => by
  show 1 ≤ dsz a x.1 + dsz c x.2
  have h : (posT a || posT c) = true := h
  rw [Bool.or_eq_true] at h
  rcases h with h | h
  ·have := ymO h x.1; omega
  ·have := ymO h x.2; omega
theorem ymT {e : Ty} (he : posT e = true) : ∀ xs : List (den e), xs.length + 1 ≤ dsz (.sl e) xs
 | [] => Nat.le_refl 1
 | x :: xs => by
  have h1 := ymO he x
  have h2 : xs.length + 1 ≤ (List.map (dsz e) xs).sum + 1 := ymT he xs
  show (x :: xs).length + 1 ≤ (List.map (dsz e) (x :: xs)).sum + 1
  simp only [List.length_cons, List.map_cons, List.sum_cons]
  omega
theorem rep1_vr {t : Ty} {S : Mem} {E : List EI} {v : Value} {x : den t} (h : rep1 t S v x) : VR S E (svOf t x) v := yuI (l := [t]) h
end
end Go.Proofs.YtmkomlbiaebddaaGreatDoor.Am
namespace Go.Proofs.YtmkomlbiaebddaaGreatDoor.Am
open Go Go.RowKit
abbrev KeyT : Type := Bs × Bs × Bs × Int
abbrev CrT : Type := Bs × Bs × Bs × Bs × Int × Int × Int × List KeyT
theorem ygU (n a b : Int) : zhL zaC n a b = some (decide (a ≤ n) && decide (n ≤ b)) := by
 unfold zhL
 by_cases h : n ≥ a
 ·rw [zbE h]; simp [show a ≤ n from h]
 ·rw [zaV h]; simp [show ¬ a ≤ n from h]
theorem yrJ (u : Nat) (hu : u < 1000000000000000) : znL zaC (Lib.decDigits u) = some (.inr ()) := by
 have hl := zpJ 15 u (by decide) hu
 have ht : zaC.trim (Lib.decDigits u) tenL = some [] := yiQ u hu
 unfold znL
 by_cases h0 : u = 0
 ·subst h0
  rw [show Lib.decDigits 0 = [48] by rw [zrV]; rfl] at ht ⊢
  rw [show zaC.trim ([48] : Bs) ([48, 49, 50, 51, 52, 53, 54, 55, 56, 57] : Bs) = some [] from ht]
  rfl
 ·obtain ⟨b, l, h1, h2⟩ := yhB u h0
  rw [h1] at hl ht ⊢
  rw [show ((b :: l : Bs) == []) = false from rfl]
  simp only [cond_false]
  rw [zaV (by simp only [List.length_cons] at hl ⊢; omega), show idx (b :: l) 0 = some b from rfl, zaA]
  have : ((b.toNat : Int) == ((48 : UInt8).toNat : Int)) = false := beq_eq_false_iff_ne.2 fun e => h2 (UInt8.toNat_inj.1 (by exact_mod_cast e))
  rw [this]
  simp only [cond_false]
  rw [show zaC.trim (b :: l) ([48, 49, 50, 51, 52, 53, 54, 55, 56, 57] : Bs) = some [] from ht, zaA]
  rfl
theorem yuE (u : Nat) (hu : u < 1000000000000000) : zkQ zaC (Lib.decDigits u) = some ((u : Int), true) := by
 unfold zkQ
 rw [yrJ u hu, zaA]
 simp only []
 rw [show zaC.atoi (Lib.decDigits u) = some ((u : Int), false) from yiH u hu, zaA]
 rfl
theorem ypV (u : Nat) (hu : u < 1000000000000000) : zpA zaC (Lib.decDigits u) = some (.inr ()) := by
 have hl := zpJ 15 u (by decide) hu
 have ht : zaC.trim (Lib.decDigits u) tenL = some [] := yiQ u hu
 unfold zpA
 by_cases h0 : u = 0
 ·subst h0
  rw [show Lib.decDigits 0 = [48] by rw [zrV]; rfl] at ht ⊢
  rw [show zaC.trim ([48] : Bs) ([48, 49, 50, 51, 52, 53, 54, 55, 56, 57] : Bs) = some [] from ht]
  rfl
 ·obtain ⟨b, l, h1, h2⟩ := yhB u h0
  rw [h1] at hl ht ⊢
  rw [show ((b :: l : Bs) == []) = false from rfl]
  simp only [cond_false]
  rw [zaV (by simp only [List.length_cons] at hl ⊢; omega), show idx (b :: l) 0 = some b from rfl, zaA]
  have : ((b.toNat : Int) == ((48 : UInt8).toNat : Int)) = false := beq_eq_false_iff_ne.2 fun e => h2 (UInt8.toNat_inj.1 (by exact_mod_cast e))
  rw [this]
  simp only [cond_false]
  rw [show zaC.trim (b :: l) ([48, 49, 50, 51, 52, 53, 54, 55, 56, 57] : Bs) = some [] from ht, zaA]
  rfl
theorem yeP (u : Nat) (hu : u < 1000000000000000) (most : Int) (hm : (u : Int) ≤ most) : zcY zaC (Lib.decDigits u) most = some (u : Int) := by
 unfold zcY
 rw [ypV u hu, zaA]
 simp only []
 rw [show zaC.atoi (Lib.decDigits u) = some ((u : Int), false) from yiH u hu, zaA, zaV (by simp only []; omega)]
theorem yzA (ts : List Bs) (hl : (zgF ts).length < 4294967281) (hn : ts.length < 4294967281) : zmD zaC (zgF ts) = some (ts, true) := by
 have key : ∀ (k : Nat), k ≤ ts.length → (zgF (ts.drop k)).length < 4294967281 := by
  intro k hk
  induction k with
  | zero => exact hl
  | succ k ih =>
   have := ih (by omega)
   rw [List.drop_eq_getElem_cons (by omega)] at this
   simp only [zgF, List.length_append, List.length_cons] at this
   omega
 have h : iter (fun x => zmV zaC x.1 x.2) (zgF (ts.drop 0), ts.take 0) = (some (.inr ts) : Option (Bool ⊕ List Bs)) := by
  refine zaW (fun k => (zgF (ts.drop k), ts.take k)) ts.length (by omega) (Sum.inr ts) (fun k hk => ?_) ?_
  ·have hd : ts.drop k = ts[k] :: ts.drop (k + 1) := List.drop_eq_getElem_cons hk
   have hlen := key k (by omega)
   have ht : ts.take (k + 1) = ts.take k ++ [ts[k]] := by rw [List.take_succ_eq_append_getElem hk]
   rw [hd] at hlen
   generalize ts[k] = t at hd hlen ht
   generalize ts.drop (k + 1) = r at hd hlen
   have hlen2 : (Lib.decDigits t.length ++ 58 :: (t ++ zgF r)).length < 4294967281 := hlen
   have htl : t.length < 4294967281 := by
    simp only [List.length_append, List.length_cons] at hlen2; omega
   have hne : (zgF (ts.drop k) != ([] : Bs)) = true := by
    rw [hd]
    cases he : zgF (t :: r) with
    | nil => exact absurd (List.append_eq_nil_iff.1 he).1 (yrV _)
    | cons a l => rfl
   unfold zmV
   simp only []
   rw [hne]
   simp only [cond_true]
   rw [hd, show zaC.cut (zgF (t :: r)) ([58] : Bs) = some (Lib.decDigits t.length, t ++ zgF r, true) from ywZ t.length (t ++ zgF r) hlen2, zaA]
   simp only []
   rw [yuE t.length (by omega), zaA]
   have hj : znA zaC (ts.take k) (Lib.decDigits t.length, t ++ zgF r, true) ((t.length : Int), true) = some (.inr (ts.take k)) := by
    unfold znA
    simp only [Bool.not_true, cond_false]
    rw [zaV (by rw [List.length_append]; omega)]
   rw [hj, zaA]
   simp only []
   rw [zvO (by rw [List.length_append]; omega), zaA, List.take_left, zbT (by rw [List.length_take]; simp; omega), zaA, ht]
   rw [show subL (t ++ zgF r) (t.length : Int) = some (zgF r) from ?_, zaA]
   unfold subL
   rw [List.length_append, show (decide ((0 : Int) ≤ (t.length : Int)) && decide ((t.length : Int) ≤ ((t.length + (zgF r).length : Nat) : Int))) = true by simp; omega]
   simp
  ·rw [List.drop_length, List.take_length]
   rfl
 unfold zmD
 rw [List.drop_zero, List.take_zero] at h
 rw [h, zaA]
theorem ybU : ∀ (a b : List Bs), zgF (a ++ b) = zgF a ++ zgF b
 | [], _ => rfl
 | t :: a, b => by
  show Lib.decDigits t.length ++ 58 :: (t ++ zgF (a ++ b)) = (Lib.decDigits t.length ++ 58 :: (t ++ zgF a)) ++ zgF b
  rw [ybU a b]; simp
theorem xcI (ts : List Bs) (hl : (zgF ts).length < 4294967281) (hn : ts.length < 1099511627776) : ziW ts = some (zgF ts) := by
 have key : ∀ (k : Nat), (zgF (ts.take k)).length ≤ (zgF ts).length := fun k => by
  have := ybU (ts.take k) (ts.drop k)
  rw [List.take_append_drop] at this
  rw [this, List.length_append]; omega
 have h : iter (zhK ts) ((((0 : Nat) : Int)), zgF (ts.take 0)) = some (zgF ts) := by
  refine zaW (fun k => ((k : Int), zgF (ts.take k))) ts.length hn (zgF ts) (fun k hk => ?_) ?_
  ·have ht : ts.take (k + 1) = ts.take k ++ [ts[k]] := by rw [List.take_succ_eq_append_getElem hk]
   have e : zgF (ts.take (k + 1)) = zgF (ts.take k) ++ (Lib.decDigits ts[k].length ++ 58 :: ts[k]) := by
    rw [ht, ybU]; simp [zgF]
   have h1 := key (k + 1)
   rw [e] at h1
   simp only [List.length_append, List.length_cons] at h1
   unfold zhK
   simp only []
   rw [zbE (by omega), zcN rfl hk, zaA, ybD _ (by omega), zaA, zbT (by simp only [List.length_cons, List.length_nil]; omega), zaA, zbT (by simp only [List.length_append, List.length_cons, List.length_nil]; omega), zaA]
   unfold zfG
   rw [show zjY (zgF (ts.take k)) = some _ from rfl, zaA, zbT (by simp only [List.length_append, List.length_cons, List.length_nil]; omega), zaA, zaA, zbB (by omega) (by omega), e]
   simp
  ·unfold zhK
   simp only []
   rw [zaV (by omega), List.take_length]
 unfold ziW
 have h : iter (zhK ts) ((0 : Int), ([] : Bs)) = some (zgF ts) := h
 rw [h, zaA, zaA, zgY (decide_eq_true (by omega)), zaA]
end Go.Proofs.YtmkomlbiaebddaaGreatDoor.Am
