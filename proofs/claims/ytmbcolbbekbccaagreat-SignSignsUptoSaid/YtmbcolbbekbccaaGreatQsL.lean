/- Digits of sixteen bits in lists of 32-bit words: plain laws of what the document reckons. Digits: sums, differences, products as the document reckons them: plain laws. Digits: what is left of a division, and what is reckoned modulo the primes: plain laws. Digits: numbers of four words, and bytes, there and back: plain laws. The document's layer 7: which points there are, and their bytes: plain laws. Digits: halves and inverses as the document reckons them: plain laws. The document's layer 7: opposites and sums are the group's: plain laws. The document's layer 7: multiples, bit by bit, and with one division at the end: plain laws. The document's layer 8: which private keys may be, and public ones: plain laws. Package sign: what is verified: plain laws. Package sign: what is signed: plain laws. Package sign: what is signed, whole: plain law. Conditions: as the theorem says. The document's layer 4: its sums and macs are package hash's: plain laws. Conditions: as each theorem says. -/
import Derived.KernelRfl
import Derived.Test.YtmbcolbbekbccaaGreatQsK
namespace Go.Proofs.YtmbcolbbekbccaaGreat
open Go Go.RowKit
section
def um (l : List Nat) : List UInt32 := l.map UInt32.ofNat
theorem zeS (l : List Nat) : (um l).length = l.length := by simp [um]
theorem un {d : Nat} (h : d < 4294967296) : (UInt32.ofNat d).toNat = d := by simp [UInt32.toNat_ofNat']; omega
theorem un16 {d : Nat} (h : d < 65536) : (UInt32.ofNat d).toNat = d := un (by omega)
theorem um_get {l : List Nat} {i d : Nat} (h : l[i]? = some d) : (um l)[i]? = some (UInt32.ofNat d) := by simp [um, h]
theorem zjZ {l : List Nat} {i d : Nat} {j : Int} (hj : j = (i : Int)) (h : l[i]? = some d) : idx (um l) j = some (UInt32.ofNat d) := by subst hj; rw [idx_nat]; exact um_get h
theorem um_set (l : List Nat) (i d : Nat) : (um l).set i (UInt32.ofNat d) = um (l.set i d) := by simp [um, List.map_set]
theorem setL_ok {α : Type} {l : List α} {i : Nat} {j : Int} {x : α} (hj : j = (i : Int)) (h : i < l.length) : setL l j x = some (l.set i x) := by
 subst hj
 have h1 : decide (0 ≤ (i : Int)) = true := by simp
 have h2 : decide ((i : Int) < (l.length : Int)) = true := by simpa using h
 simp only [setL, h1, h2, Bool.and_self, cond_true, Int.toNat_natCast]
theorem setL_um {l : List Nat} {i d : Nat} {j : Int} (hj : j = (i : Int)) (h : i < l.length) : setL (um l) j (UInt32.ofNat d) = some (um (l.set i d)) := by
 rw [setL_ok hj (by rw [zeS]; exact h), um_set]
theorem um_take (l : List Nat) (n : Nat) : (um l).take n = um (l.take n) := by simp [um, List.map_take]
theorem subH_um {l : List Nat} {n : Nat} {j : Int} (hj : j = (n : Int)) (h : n ≤ l.length) : subH (um l) j = some (um (l.take n)) := by
 subst hj; rw [subH_ok (by rw [zeS]; exact h), um_take]
theorem app_um {l : List Nat} {d : Nat} (h : l.length + 1 ≤ 68719476736) : app (um l) [UInt32.ofNat d] = some (um (l ++ [d])) := by
 rw [zeH (by rw [zeS]; exact h)]; simp [um]
theorem um_rep (n : Nat) : List.replicate n (0 : UInt32) = um (fl (fun _ => 0) n) := by simp [um, fl, List.map_const']
theorem i32_n (n : Nat) : i32 (n : Int) = UInt32.ofNat n := by
 apply UInt32.toNat_inj.1
 rw [i32]; simp [UInt32.toNat_ofNat']; omega
theorem i64_n (n : Nat) : i64 (n : Int) = UInt64.ofNat n := by
 apply UInt64.toNat_inj.1
 rw [i64]; simp [UInt64.toNat_ofNat']; omega
theorem un64 {d : Nat} (h : d < 18446744073709551616) : (UInt64.ofNat d).toNat = d := by simp [UInt64.toNat_ofNat']; omega
theorem and16_32 {n : Nat} (h : n < 4294967296) : UInt32.ofNat n &&& 65535 = UInt32.ofNat (n % 65536) := by
 apply UInt32.toNat_inj.1
 rw [UInt32.toNat_and, un h, un (by omega)]
 exact Nat.and_two_pow_sub_one_eq_mod n 16
theorem and16_64 {n : Nat} (h : n < 18446744073709551616) : UInt64.ofNat n &&& 65535 = UInt64.ofNat (n % 65536) := by
 apply UInt64.toNat_inj.1
 rw [UInt64.toNat_and, un64 h, un64 (by omega)]
 exact Nat.and_two_pow_sub_one_eq_mod n 16
theorem shr_n {k : IntKind} {n b : Nat} (hb : b ≤ k.bits) : shrI k (n : Int) (b : Int) = ((n / 2 ^ b : Nat) : Int) := by
 unfold shrI
 rw [Int.toNat_natCast, Nat.min_eq_left hb]; exact fdiv_pow b
theorem w64_n {n : Nat} {x : Int} (hx : x = (n : Int)) (h : n < 9223372036854775808) : w64 x = (n : Int) := by subst hx; exact zjD (by omega) (by omega)
theorem w64_i {x : Int} (h : -9223372036854775808 ≤ x) (h2 : x < 9223372036854775808) : w64 x = x := zjD h (by omega)
abbrev ud (n : Nat) : List UInt32 := um (digs n)
abbrev lim (l : List Nat) : Prop := l.length ≤ 1099511627
theorem trim_step' {l : List Nat} (hl : lim l) {n : Nat} (hn : n ≤ l.length) (h0 : 0 < n) {d : Nat} (hd : l[n - 1]? = some d) (hD : DL l) :
  r6_trim_b0 (um l) (n : Int) = some (bif d == 0 then .inl ((n - 1 : Nat) : Int) else .inr (n : Int)) := by
 have hdl := hD.get hd
 unfold r6_trim_b0
 rw [zdE (by omega : (0 : Int) < (n : Int)), w64_n (n := n - 1) (by omega) (by omega), zjZ rfl hd]
 simp only [Option.bind_some, un16 hdl]
 by_cases hz : d = 0
 ·subst hz; simp
 ·have h1 : ((d : Int) == 0) = false := by rw [beq_false_of_ne]; omega
  have h2 : (d == 0) = false := by simpa using hz
  simp only [h1, h2, cond_false]
theorem trim_ok {l : List Nat} (hl : lim l) (hD : DL l) : zfS (um l) = some (ud (dval l)) := by
 unfold zfS
 obtain ⟨b, hb, n, rfl, hn, hz, ht⟩ := zfI (body := r6_trim_b0 (um l)) (fun s => ∃ n : Nat, s = (n : Int) ∧ n ≤ l.length ∧ ∀ i d, n ≤ i → l[i]? = some d → d = 0) (fun s => s.toNat)
  (fun b => ∃ n : Nat, b = (n : Int) ∧ n ≤ l.length ∧ (∀ i d, n ≤ i → l[i]? = some d → d = 0) ∧ (n = 0 ∨ l[n - 1]? ≠ some 0)) ((um l).length : Int)
  ⟨l.length, by rw [zeS], Nat.le_refl _, fun i d hi hd => by rw [List.getElem?_eq_none hi] at hd; cases hd⟩ (by rw [zeS]; omega) (by
   rintro s ⟨n, rfl, hn, hz⟩
   by_cases h0 : n = 0
   ·subst h0
    exact .inr ⟨(0 : Nat), by unfold r6_trim_b0; rw [zdA (by omega)]; rfl, 0, rfl, Nat.zero_le _, hz, .inl rfl⟩
   ·have hlt : n - 1 < l.length := by omega
    have hd : l[n - 1]? = some l[n - 1] := List.getElem?_eq_getElem hlt
    rw [trim_step' hl hn (by omega) hd hD]
    by_cases hz0 : l[n - 1] = 0
    ·refine .inl ⟨_, by rw [hz0]; rfl, ⟨n - 1, rfl, by omega, trim_step hz hd hz0⟩, by simp; omega⟩
    ·refine .inr ⟨_, by rw [show (l[n - 1] == 0) = false by simpa using hz0]; rfl, n, rfl, hn, hz, .inr fun e => hz0 ?_⟩
     rw [hd] at e; exact osi e)
 rw [hb]
 simp only [Option.bind_some]
 rw [subH_um rfl hn, digs_trim hD hn hz ht]
 rfl
theorem digs_lim {A k : Nat} (h : A < 65536 ^ k) (hk : k ≤ 1099511627) : lim (digs A) := Nat.le_trans (ziE h) hk
theorem trim_ud {A : Nat} (hl : lim (digs A)) : zfS (ud A) = some (ud A) := by rw [trim_ok hl (digs_DL A), dval_digs]
theorem cmp_step {A B k : Nat} (hA : k < (digs A).length) (hB : k < (digs B).length) (hl : lim (digs A)) : r6_Cmp_b0 (ud A) (ud B) (k : Int) =
  some (bif decide (dg A k < dg B k) then .inr (.inl (-1)) else bif decide (dg B k < dg A k) then .inr (.inl 1) else .inl ((k : Int) - 1)) := by
 have h1 := zkH A k
 have h2 := zkH B k
 unfold r6_Cmp_b0
 rw [zdE (by omega : (0 : Int) ≤ (k : Int)), zjZ rfl (zfO hA), zjZ rfl (zfO hB)]
 simp only [Option.bind_some]
 rw [show A / 65536 ^ k % 65536 = dg A k from rfl, show B / 65536 ^ k % 65536 = dg B k from rfl, un16 h1, un16 h2, w64_i (by omega) (by omega)]
 by_cases ha : dg A k < dg B k
 ·simp [ha]
 ·by_cases hb : dg B k < dg A k <;> simp [ha, hb]
theorem cmp_ok {A B : Nat} (hA : lim (digs A)) (hB : lim (digs B)) : zfC (ud A) (ud B) = some (cmpI A B) := by
 unfold zfC
 rw [trim_ud hA, trim_ud hB]
 simp only [Option.bind_some, zeS]
 by_cases hne : (digs A).length = (digs B).length
 ·rw [show (((digs A).length : Int) != ((digs B).length : Int)) = false by rw [hne]; simp]
  simp only [cond_false]
  rw [w64_i (by omega) (by omega)]
  obtain ⟨b, hb, hG⟩ := zfI (body := r6_Cmp_b0 (ud A) (ud B)) (fun s => ∃ k : Nat, s = (k : Int) - 1 ∧ k ≤ (digs A).length ∧ A / 65536 ^ k = B / 65536 ^ k) (fun s => (s + 1).toNat)
   (fun b => b = (bif decide (A = B) then .inr () else .inl (cmpI A B))) (((digs A).length : Int) - 1)
   ⟨_, rfl, Nat.le_refl _, by rw [above_top (Nat.le_refl _), above_top (by omega)]⟩ (by omega) (by
    rintro s ⟨k, rfl, hk, he⟩
    by_cases h0 : k = 0
    ·subst h0
     have hAB : A = B := by simpa using he
     refine .inr ⟨_, by unfold r6_Cmp_b0; rw [zdA (by omega)], by simp [hAB]⟩
    ·obtain ⟨j, rfl⟩ := Nat.exists_eq_succ_of_ne_zero h0
     rw [show ((j + 1 : Nat) : Int) - 1 = (j : Int) by omega, cmp_step (by omega) (by omega) hA]
     by_cases ha : dg A j < dg B j
     ·have hlt := top_lt he rfl rfl ha
      refine .inr ⟨_, by rw [zdE ha], ?_⟩
      rw [zdA (by omega), cmpI_l hlt]
     ·by_cases hb : dg B j < dg A j
      ·have hlt := top_lt he.symm rfl rfl hb
       refine .inr ⟨_, by rw [zdA ha, zdE hb], ?_⟩
       rw [zdA (by omega), cmpI_g hlt]
      ·refine .inl ⟨_, by rw [zdA ha, zdA hb], ⟨j, rfl, by omega, top_eq he rfl rfl (show dg A j = dg B j by omega)⟩, by omega⟩)
  rw [hb, hG]
  by_cases hAB : A = B
  ·subst hAB; simp [jn, jnO, cmpI_e]
  ·simp [hAB, jn, jnO]
 ·rw [show (((digs A).length : Int) != ((digs B).length : Int)) = true by rw [bne_iff_ne]; omega]
  simp only [cond_true]
  by_cases hlt : (digs A).length < (digs B).length
  ·rw [zdE (by omega), cmpI_l (cmpI_len hlt)]
  ·rw [zdA (by omega), cmpI_g (cmpI_len (by omega))]
end
section
theorem shr16_32 {n : Nat} (h : n < 4294967296) : i32 (shrI .u32 ((UInt32.ofNat n).toNat : Int) 16) = UInt32.ofNat (n / 65536) := by
 rw [un h, show (16 : Int) = ((16 : Nat) : Int) from rfl, shr_n (by decide), i32_n]
theorem add_dig {A i c : Nat} (hA : lim (digs A)) (hc : c < 200000) : (bif decide (((i : Nat) : Int) < ((ud A).length : Int)) then (Option.bind (idx (ud A) (i : Int)) fun y1 => some ((i32 (((UInt32.ofNat c).toNat : Int) + ((y1).toNat : Int))))) else (some (UInt32.ofNat c))) = some (UInt32.ofNat (c + dg A i)) := by
 have h1 := zkH A i
 rw [zeS]
 by_cases h : i < (digs A).length
 ·rw [zdE (by omega), zjZ rfl (zfO h)]
  simp only [Option.bind_some]
  rw [show A / 65536 ^ i % 65536 = dg A i from rfl, un16 h1, un (by omega), ← Int.natCast_add, i32_n]
 ·rw [zdA (by omega), dg_top (by omega), Nat.add_zero]
theorem add_body {A B i c : Nat} {ls : List Nat} (hA : lim (digs A)) (hB : lim (digs B)) (hi : i < (digs A).length ∨ i < (digs B).length) (hc : c ≤ 1) (hl : ls.length = i) :
  r6_Add_b0 (ud A) (ud B) (UInt32.ofNat c, (i : Int), um ls) = some (.inl (UInt32.ofNat ((c + dg A i + dg B i) / 65536), ((i + 1 : Nat) : Int), um (ls ++ [(c + dg A i + dg B i) % 65536]))) := by
 have h1 := zkH A i
 have h2 := zkH B i
 have hA' : (digs A).length ≤ 1099511627 := hA
 have hB' : (digs B).length ≤ 1099511627 := hB
 unfold r6_Add_b0
 have hb : (bif decide ((i : Int) < ((ud A).length : Int)) then true else decide ((i : Int) < ((ud B).length : Int))) = true := by
  rw [zeS, zeS]
  by_cases h : i < (digs A).length
  ·rw [zdE (by omega)]
  ·rw [zdA (by omega)]; simp; omega
 simp only [hb, cond_true]
 rw [add_dig hA (by omega)]
 simp only [Option.bind_some]
 rw [add_dig hB (by omega)]
 simp only [Option.bind_some]
 rw [and16_32 (by omega), app_um (by omega), shr16_32 (by omega), w64_n (n := i + 1) (by omega) (by omega)]
 rfl
theorem add_ok {A B : Nat} (hA : lim (digs A)) (hB : lim (digs B)) (hAB : max (digs A).length (digs B).length < 1099511627) : r6_Add_p (ud A) (ud B) = some (ud (A + B)) := by
 have hA' : (digs A).length ≤ 1099511627 := hA
 have hB' : (digs B).length ≤ 1099511627 := hB
 unfold r6_Add_p
 obtain ⟨b, hb, c, ls, rfl, hc, hd, hll, hv⟩ := zfI (body := r6_Add_b0 (ud A) (ud B)) (fun s => ∃ (i c : Nat) (ls : List Nat), s = (UInt32.ofNat c, (i : Int), um ls) ∧ i ≤ max (digs A).length (digs B).length ∧ c ≤ 1 ∧ DL ls ∧ ls.length = i ∧ dval ls + c * 65536 ^ i = A % 65536 ^ i + B % 65536 ^ i)
  (fun s => (max (digs A).length (digs B).length + 1 - s.2.1).toNat)
  (fun b => ∃ (c : Nat) (ls : List Nat), b = (UInt32.ofNat c, um ls) ∧ c ≤ 1 ∧ DL ls ∧ ls.length ≤ max (digs A).length (digs B).length ∧ dval (ls ++ [c]) = A + B) ((0 : UInt32), 0, ([] : List UInt32))
  ⟨0, 0, [], rfl, Nat.zero_le _, Nat.zero_le _, DL.nil, rfl, by simp [dval, Nat.mod_one]⟩ (by simp; omega) (by
   rintro s ⟨i, c, ls, rfl, hi, hc, hd, hl, hv⟩
   by_cases h : i < (digs A).length ∨ i < (digs B).length
   ·refine .inl ⟨_, add_body hA hB h hc hl, ⟨i + 1, _, _, rfl, by omega, ?_, hd.snoc (Nat.mod_lt _ (by decide)), by simp [hl], add_step hl hv⟩, ?_⟩
    ·have h1 := zkH A i; have h2 := zkH B i; omega
    ·show (((max (digs A).length (digs B).length : Nat) : Int) + 1 - ((i + 1 : Nat) : Int)).toNat < (((max (digs A).length (digs B).length : Nat) : Int) + 1 - (i : Int)).toNat
     omega
   ·refine .inr ⟨_, ?_, c, ls, rfl, hc, hd, by omega, add_end hl (by omega) (by omega) hv⟩
    unfold r6_Add_b0
    have hb : (bif decide ((i : Int) < ((ud A).length : Int)) then true else decide ((i : Int) < ((ud B).length : Int))) = false := by
     rw [zeS, zeS, zdA (by omega)]; simp; omega
    simp only [hb, cond_false])
 rw [hb]
 simp only [Option.bind_some]
 rw [app_um (by omega)]
 simp only [Option.bind_some]
 rw [trim_ok (by show (ls ++ [c]).length ≤ _; simp; omega) (hd.snoc (by omega)), hv]
 rfl
theorem sub_body {A B i c : Nat} {ls : List Nat} (hA : lim (digs A)) (hi : i < (digs A).length) (hc : c ≤ 1) (hl : ls.length = i) :
  r6_Sub_b0 (ud A) (ud B) (UInt32.ofNat c, (i : Int), um ls) = some (.inl (UInt32.ofNat (1 - (65536 + dg A i - c - dg B i) / 65536), ((i + 1 : Nat) : Int), um (ls ++ [(65536 + dg A i - c - dg B i) % 65536]))) := by
 have h1 := zkH A i
 have h2 := zkH B i
 have hA' : (digs A).length ≤ 1099511627 := hA
 unfold r6_Sub_b0
 simp only [zeS]
 rw [zdE (by omega), zjZ rfl (zfO hi)]
 simp only [Option.bind_some]
 rw [show A / 65536 ^ i % 65536 = dg A i from rfl, un16 h1]
 have e1 : i32 ((65536 : Int) + (dg A i : Int)) = UInt32.ofNat (65536 + dg A i) := by rw [show (65536 : Int) + (dg A i : Int) = ((65536 + dg A i : Nat) : Int) by omega, i32_n]
 have e2 : i32 (((UInt32.ofNat (65536 + dg A i)).toNat : Int) - ((UInt32.ofNat c).toNat : Int)) = UInt32.ofNat (65536 + dg A i - c) := by
  rw [un (by omega), un (by omega), show ((65536 + dg A i : Nat) : Int) - (c : Int) = ((65536 + dg A i - c : Nat) : Int) by omega, i32_n]
 rw [e1, e2]
 have e3 : (bif decide ((i : Int) < ((digs B).length : Int)) then (Option.bind (idx (ud B) (i : Int)) fun y2 => some (i32 (((UInt32.ofNat (65536 + dg A i - c)).toNat : Int) - ((y2).toNat : Int)))) else some (UInt32.ofNat (65536 + dg A i - c))) = some (UInt32.ofNat (65536 + dg A i - c - dg B i)) := by
  by_cases h : i < (digs B).length
  ·rw [zdE (by omega), zjZ rfl (zfO h)]
   simp only [Option.bind_some]
   rw [show B / 65536 ^ i % 65536 = dg B i from rfl, un16 h2, un (by omega), show ((65536 + dg A i - c : Nat) : Int) - (dg B i : Int) = ((65536 + dg A i - c - dg B i : Nat) : Int) by omega, i32_n]
  ·rw [zdA (by omega), dg_top (i := i) (A := B) (by omega), Nat.sub_zero]
 rw [e3]
 simp only [Option.bind_some]
 rw [and16_32 (by omega), app_um (by omega), shr16_32 (by omega), un (by omega), w64_n (n := i + 1) (by omega) (by omega)]
 simp only [Option.bind_some]
 rw [show (1 : Int) - (((65536 + dg A i - c - dg B i) / 65536 : Nat) : Int) = ((1 - (65536 + dg A i - c - dg B i) / 65536 : Nat) : Int) by omega, i32_n]
theorem sub_ok {A B : Nat} (hA : lim (digs A)) (hB : B ≤ A) : r6_Sub_p (ud A) (ud B) = some (ud (A - B)) := by
 have hA' : (digs A).length ≤ 1099511627 := hA
 unfold r6_Sub_p
 obtain ⟨b, hb, ls, rfl, hd, hll, hv⟩ := zfI (body := r6_Sub_b0 (ud A) (ud B)) (fun s => ∃ (i c : Nat) (ls : List Nat), s = (UInt32.ofNat c, (i : Int), um ls) ∧ i ≤ (digs A).length ∧ c ≤ 1 ∧ DL ls ∧ ls.length = i ∧ dval ls + B % 65536 ^ i = A % 65536 ^ i + c * 65536 ^ i)
  (fun s => (((digs A).length : Int) + 1 - s.2.1).toNat)
  (fun b => ∃ (ls : List Nat), b = um ls ∧ DL ls ∧ ls.length = (digs A).length ∧ dval ls = A - B) ((0 : UInt32), 0, ([] : List UInt32))
  ⟨0, 0, [], rfl, Nat.zero_le _, Nat.zero_le _, DL.nil, rfl, by simp [dval, Nat.mod_one]⟩ (by simp; omega) (by
   rintro s ⟨i, c, ls, rfl, hi, hc, hd, hl, hv⟩
   by_cases h : i < (digs A).length
   ·refine .inl ⟨_, sub_body hA h hc hl, ⟨i + 1, _, _, rfl, by omega, by omega, hd.snoc (Nat.mod_lt _ (by decide)), by simp [hl], sub_step hc hl hv⟩, ?_⟩
    show (((digs A).length : Int) + 1 - ((i + 1 : Nat) : Int)).toNat < (((digs A).length : Int) + 1 - (i : Int)).toNat
    omega
   ·refine .inr ⟨_, ?_, ls, rfl, hd, by omega, sub_end hd hc hl (by omega) hB hv⟩
    unfold r6_Sub_b0
    rw [zeS, zdA (by simp; omega)])
 rw [hb]
 simp only [Option.bind_some]
 rw [trim_ok (by show ls.length ≤ _; omega) hd, hv]
 rfl
theorem mk_um {n : Nat} {x : Int} (hx : x = (n : Int)) (h : n ≤ 68719476736) : mkL x (0 : UInt32) = some (um (fl (fun _ => 0) n)) := by subst hx; rw [mkL_ok h, um_rep]
theorem fl_setG (f : Nat → Nat) {n i d : Nat} {j : Int} (hj : j = (i : Int)) (h : i < n) : setL (um (fl f n)) j (UInt32.ofNat d) = some (um (fl (fup f i d) n)) := by rw [setL_um hj (by rw [zkA]; exact h), fl_set]
theorem fl_idx (f : Nat → Nat) {n i : Nat} {j : Int} (hj : j = (i : Int)) (h : i < n) : idx (um (fl f n)) j = some (UInt32.ofNat (f i)) := zjZ hj (fl_get f h)
theorem mul_in_body {A B i k c n : Nat} {g : Nat → Nat} (hA : lim (digs A)) (hB : lim (digs B)) (hi : i < (digs A).length) (hk : k < (digs B).length) (hn : n = (digs A).length + (digs B).length) (hc : c < 65536) (hg : ∀ p, g p < 65536) (l0 : List UInt32) :
  r6_Mul_b1 (ud A) (ud B) ((i : Int), l0) (UInt64.ofNat c, (k : Int), um (fl g n)) = some (.inl (UInt64.ofNat ((c + (g (i + k) + dg A i * dg B k)) / 65536), ((k + 1 : Nat) : Int), um (fl (fup g (i + k) ((c + (g (i + k) + dg A i * dg B k)) % 65536)) n))) := by
 have h1 := zkH A i
 have h2 := zkH B k
 have hA' : (digs A).length ≤ 1099511627 := hA
 have hB' : (digs B).length ≤ 1099511627 := hB
 have hgk := hg (i + k)
 obtain ⟨b1, b2, b3, b4⟩ := mul_bound hc hgk h1 h2
 unfold r6_Mul_b1
 simp only [zeS]
 rw [zdE (by omega), w64_n (n := i + k) (by omega) (by omega), fl_idx g rfl (by omega), zjZ rfl (zfO hi), zjZ rfl (zfO hk)]
 simp only [Option.bind_some]
 rw [show A / 65536 ^ i % 65536 = dg A i from rfl, show B / 65536 ^ k % 65536 = dg B k from rfl, un16 h1, un16 h2, un16 hgk]
 simp only [i64_n]
 rw [un64 (by omega : dg A i < _), un64 (by omega : dg B k < _), un64 (by omega : g (i + k) < _), ← Int.natCast_mul, i64_n, un64 (d := dg A i * dg B k) (by omega), ← Int.natCast_add (g (i + k)) (dg A i * dg B k), i64_n, un64 (d := g (i + k) + dg A i * dg B k) (by omega), un64 (d := c) (by omega), ← Int.natCast_add, i64_n]
 rw [and16_64 (by omega), un64 (by omega), un64 (by omega), i32_n, fl_setG g rfl (by omega)]
 simp only [Option.bind_some]
 rw [show (16 : Int) = ((16 : Nat) : Int) from rfl, shr_n (by decide), i64_n, w64_n (n := k + 1) (by omega) (by omega)]
theorem mul_in_ok {A B i n : Nat} {f : Nat → Nat} (hA : lim (digs A)) (hB : lim (digs B)) (hi : i < (digs A).length) (hn : n = (digs A).length + (digs B).length) (hf : ∀ p, f p < 65536) :
  ∃ (c : Nat) (g : Nat → Nat), iter (r6_Mul_b1 (ud A) (ud B) ((i : Int), um (fl f n))) ((0 : UInt64), 0, um (fl f n)) = some (UInt64.ofNat c, um (fl g n)) ∧ c < 65536 ∧ (∀ p, g p < 65536) ∧ (∀ p, i + (digs B).length ≤ p → g p = f p) ∧
   dval (fl g n) + c * 65536 ^ (i + (digs B).length) = dval (fl f n) + dg A i * (B % 65536 ^ (digs B).length) * 65536 ^ i := by
 have hA' : (digs A).length ≤ 1099511627 := hA
 have hB' : (digs B).length ≤ 1099511627 := hB
 obtain ⟨b, hb, c, g, rfl, hc, hg, hgf, hv⟩ := zfI (body := r6_Mul_b1 (ud A) (ud B) ((i : Int), um (fl f n)))
  (fun s => ∃ (k c : Nat) (g : Nat → Nat), s = (UInt64.ofNat c, (k : Int), um (fl g n)) ∧ k ≤ (digs B).length ∧ c < 65536 ∧ (∀ p, g p < 65536) ∧ (∀ p, i + k ≤ p → g p = f p) ∧ dval (fl g n) + c * 65536 ^ (i + k) = dval (fl f n) + dg A i * (B % 65536 ^ k) * 65536 ^ i)
  (fun s => (((digs B).length : Int) + 1 - s.2.1).toNat)
  (fun b => ∃ (c : Nat) (g : Nat → Nat), b = (UInt64.ofNat c, um (fl g n)) ∧ c < 65536 ∧ (∀ p, g p < 65536) ∧ (∀ p, i + (digs B).length ≤ p → g p = f p) ∧ dval (fl g n) + c * 65536 ^ (i + (digs B).length) = dval (fl f n) + dg A i * (B % 65536 ^ (digs B).length) * 65536 ^ i)
  ((0 : UInt64), 0, um (fl f n)) ⟨0, 0, f, rfl, Nat.zero_le _, by decide, hf, fun _ _ => rfl, by simp [Nat.mod_one]⟩ (by simp; omega) (by
   rintro s ⟨k, c, g, rfl, hk, hc, hg, hgf, hv⟩
   by_cases h : k < (digs B).length
   ·have hbd := mul_bound hc (hg (i + k)) (zkH A i) (zkH B k)
    refine .inl ⟨_, mul_in_body hA hB hi h hn hc hg _, ⟨k + 1, _, _, rfl, by omega, hbd.2.2.2, fup_lt hg (Nat.mod_lt _ (by decide)), fun p hp => by rw [fup_ne (by omega)]; exact hgf p (by omega), mul_in (by omega) hv⟩, ?_⟩
    show (((digs B).length : Int) + 1 - ((k + 1 : Nat) : Int)).toNat < (((digs B).length : Int) + 1 - (k : Int)).toNat
    omega
   ·obtain rfl : k = (digs B).length := by omega
    refine .inr ⟨_, ?_, c, g, rfl, hc, hg, hgf, hv⟩
    unfold r6_Mul_b1
    rw [zeS, zdA (by simp)])
 exact ⟨c, g, hb, hc, hg, hgf, hv⟩
theorem mul_ok {A B : Nat} (hA : lim (digs A)) (hB : lim (digs B)) (hAB : (digs A).length + (digs B).length ≤ 1099511627) : r6_Mul_p (ud A) (ud B) = some (ud (A * B)) := by
 have hA' : (digs A).length ≤ 1099511627 := hA
 have hB' : (digs B).length ≤ 1099511627 := hB
 obtain ⟨n, hn⟩ : ∃ n, n = (digs A).length + (digs B).length := ⟨_, rfl⟩
 unfold r6_Mul_p
 simp only [zeS]
 rw [w64_n (n := n) (by omega) (by omega), mk_um rfl (by omega)]
 simp only [Option.bind_some]
 obtain ⟨b, hb, f, rfl, hf, hv⟩ := zfI (body := r6_Mul_b0 (ud A) (ud B))
  (fun s => ∃ (i : Nat) (f : Nat → Nat), s = ((i : Int), um (fl f n)) ∧ i ≤ (digs A).length ∧ (∀ p, f p < 65536) ∧ (∀ p, i + (digs B).length ≤ p → f p = 0) ∧ dval (fl f n) = A % 65536 ^ i * B)
  (fun s => (((digs A).length : Int) + 1 - s.1).toNat)
  (fun b => ∃ (f : Nat → Nat), b = um (fl f n) ∧ (∀ p, f p < 65536) ∧ dval (fl f n) = A * B)
  ((0 : Int), um (fl (fun _ => 0) n)) ⟨0, fun _ => 0, rfl, Nat.zero_le _, fun _ => Nat.zero_lt_succ _, fun _ _ => rfl, by rw [dval_fl_zero (fun _ _ => rfl), Nat.pow_zero, Nat.mod_one, Nat.zero_mul]⟩ (by simp; omega) (by
   rintro s ⟨i, f, rfl, hi, hf, hz, hv⟩
   by_cases h : i < (digs A).length
   ·obtain ⟨c, g, e, hc, hg, hgf, hv2⟩ := mul_in_ok hA hB h hn hf
    refine .inl ⟨(((i + 1 : Nat) : Int), um (fl (fup g (i + (digs B).length) c) n)), ?_, ⟨i + 1, _, rfl, by omega, fup_lt hg hc, fun p hp => by rw [fup_ne (by omega), hgf p (by omega)]; exact hz p (by omega), mul_out (by omega) (by rw [hgf _ (Nat.le_refl _)]; exact hz _ (Nat.le_refl _)) hv hv2⟩, ?_⟩
    ·unfold r6_Mul_b0
     simp only [zeS]
     rw [zdE (by omega), e]
     simp only [Option.bind_some]
     rw [w64_n (n := i + (digs B).length) (by omega) (by omega), fl_idx g rfl (by omega)]
     simp only [Option.bind_some]
     rw [un64 (by omega), i32_n, fl_setG g rfl (by omega), w64_n (n := i + 1) (by omega) (by omega)]
     rfl
    ·show (((digs A).length : Int) + 1 - ((i + 1 : Nat) : Int)).toNat < (((digs A).length : Int) + 1 - (i : Int)).toNat
     omega
   ·obtain rfl : i = (digs A).length := by omega
    refine .inr ⟨_, ?_, f, rfl, hf, by rw [hv, mod_len (Nat.le_refl _)]⟩
    unfold r6_Mul_b0
    rw [zeS, zdA (by simp)])
 rw [hb]
 simp only [Option.bind_some]
 rw [trim_ok (by show (fl f n).length ≤ _; rw [zkA]; omega) (DL_fl hf n), hv]
 rfl
end
section
theorem lb1_body {g : Nat → Nat} {j : Nat} (hg : ∀ p, g p < 65536) (hj : 0 < j) (hj2 : j ≤ 16) : zlF ((j : Int), um (fl g 17)) = some (.inl (((j - 1 : Nat) : Int), um (fl (fup g j (g (j - 1))) 17))) := by
 unfold zlF
 simp only
 rw [zdE (by omega), w64_n (n := j - 1) (by omega) (by omega), fl_idx g rfl (by omega), fl_idx g rfl (by omega)]
 simp only [Option.bind_some]
 rw [fl_setG g rfl (by omega)]
 rfl
theorem lb1_ok {f : Nat → Nat} (hf : ∀ p, f p < 65536) : ∃ g : Nat → Nat, iter zlF ((16 : Int), um (fl f 17)) = some (um (fl g 17)) ∧ (∀ p, g p < 65536) ∧ ∀ p, 0 < p → p < 17 → g p = f (p - 1) := by
 obtain ⟨b, hb, g, rfl, hg, hs⟩ := zfI (body := zlF)
  (fun s => ∃ (j : Nat) (g : Nat → Nat), s = ((j : Int), um (fl g 17)) ∧ j ≤ 16 ∧ (∀ p, g p < 65536) ∧ (∀ p, p ≤ j → g p = f p) ∧ ∀ p, j < p → p < 17 → g p = f (p - 1))
  (fun s => s.1.toNat) (fun b => ∃ g : Nat → Nat, b = um (fl g 17) ∧ (∀ p, g p < 65536) ∧ ∀ p, 0 < p → p < 17 → g p = f (p - 1)) ((16 : Int), um (fl f 17))
  ⟨16, f, rfl, Nat.le_refl _, hf, fun _ _ => rfl, fun p h1 h2 => absurd h1 (by omega)⟩ (by simp) (by
   rintro s ⟨j, g, rfl, hj, hg, hs1, hs2⟩
   by_cases h : 0 < j
   ·refine .inl ⟨_, lb1_body hg h hj, ⟨j - 1, _, rfl, by omega, fup_lt hg (hg _), fun p hp => by rw [fup_ne (by omega)]; exact hs1 p (by omega), fun p h1 h2 => ?_⟩, by simp; omega⟩
    by_cases hpj : p = j
    ·subst hpj; rw [fup_at]; exact hs1 _ (by omega)
    ·rw [fup_ne hpj]; exact hs2 p (by omega) h2
   ·obtain rfl : j = 0 := by omega
    refine .inr ⟨_, ?_, g, rfl, hg, hs2⟩
    unfold zlF
    rw [zdA (by simp)])
 exact ⟨g, hb, hg, hs⟩
theorem lb3_body {M t q c : Nat} {g : Nat → Nat} (hM : (digs M).length = 16) (ht : t < 65536) (hq : q ≤ 16) (hc : c ≤ 131072) (hg : ∀ p, g p < 65536) :
  zjP (ud M) (UInt32.ofNat t) (UInt64.ofNat c, (q : Int), um (fl g 17)) =
   some (.inl (UInt64.ofNat (16777216 - (g q + 1099511627776 - (c + t * dg M q)) / 65536), ((q + 1 : Nat) : Int), um (fl (fup g q ((g q + 1099511627776 - (c + t * dg M q)) % 65536)) 17))) := by
 have hgq := hg q
 have hmq := zkH M q
 have htm := tm_bound ht hmq
 unfold zjP
 simp only [zeS, hM]
 rw [zdE (by omega)]
 have e1 : (bif decide ((q : Int) < ((16 : Nat) : Int)) then (Option.bind (idx (ud M) (q : Int)) fun y12 => some ((i64 (((UInt64.ofNat c).toNat : Int) + (((i64 ((((i64 (((UInt32.ofNat t)).toNat : Int))).toNat : Int) * (((i64 ((y12).toNat : Int))).toNat : Int)))).toNat : Int))))) else (some (UInt64.ofNat c))) = some (UInt64.ofNat (c + t * dg M q)) := by
  by_cases h : q < 16
  ·rw [zdE (by omega), zjZ rfl (zfO (by omega))]
   simp only [Option.bind_some]
   rw [show M / 65536 ^ q % 65536 = dg M q from rfl, un16 hmq, un16 ht, i64_n, i64_n, un64 (d := t) (by omega), un64 (d := dg M q) (by omega), ← Int.natCast_mul, i64_n, un64 (d := t * dg M q) (by omega), un64 (d := c) (by omega), ← Int.natCast_add, i64_n]
  ·rw [zdA (by omega), dg_top (i := q) (A := M) (by omega), Nat.mul_zero, Nat.add_zero]
 rw [e1]
 simp only [Option.bind_some]
 rw [fl_idx g rfl (by omega)]
 simp only [Option.bind_some]
 have e3 : (((i64 ((((i64 (((UInt32.ofNat (g q))).toNat : Int))).toNat : Int) + 1099511627776))).toNat : Int) - ((UInt64.ofNat (c + t * dg M q)).toNat : Int) = ((g q + 1099511627776 - (c + t * dg M q) : Nat) : Int) := by
  rw [un16 hgq, i64_n, un64 (d := g q) (by omega), show ((g q : Nat) : Int) + 1099511627776 = ((g q + 1099511627776 : Nat) : Int) by omega, i64_n, un64 (d := g q + 1099511627776) (by omega), un64 (d := c + t * dg M q) (by omega)]
  omega
 rw [e3, i64_n, and16_64 (by omega), un64 (d := (g q + 1099511627776 - (c + t * dg M q)) % 65536) (by omega), un64 (d := g q + 1099511627776 - (c + t * dg M q)) (by omega), i32_n, fl_setG g rfl (by omega)]
 simp only [Option.bind_some]
 rw [show (16 : Int) = ((16 : Nat) : Int) from rfl, shr_n (by decide), i64_n, show (2 : Nat) ^ 16 = 65536 from rfl, un64 (d := (g q + 1099511627776 - (c + t * dg M q)) / 65536) (by omega), show (16777216 : Int) - (((g q + 1099511627776 - (c + t * dg M q)) / 65536 : Nat) : Int) = ((16777216 - (g q + 1099511627776 - (c + t * dg M q)) / 65536 : Nat) : Int) by omega, i64_n, w64_n (n := q + 1) (by omega) (by omega)]
theorem lb3_ok {M t : Nat} {f : Nat → Nat} (hM : (digs M).length = 16) (ht : t < 65536) (hf : ∀ p, f p < 65536) (hle : t * M ≤ dval (fl f 17)) :
  ∃ g : Nat → Nat, iter (zjP (ud M) (UInt32.ofNat t)) ((0 : UInt64), 0, um (fl f 17)) = some (um (fl g 17)) ∧ (∀ p, g p < 65536) ∧ dval (fl g 17) + t * M = dval (fl f 17) := by
 obtain ⟨b, hb, g, rfl, hg, hv⟩ := zfI (body := zjP (ud M) (UInt32.ofNat t))
  (fun s => ∃ (q c : Nat) (g : Nat → Nat), s = (UInt64.ofNat c, (q : Int), um (fl g 17)) ∧ q ≤ 17 ∧ c ≤ 131072 ∧ (∀ p, g p < 65536) ∧ (∀ p, q ≤ p → g p = f p) ∧ dval (fl g q) + t * (M % 65536 ^ q) = dval (fl f q) + c * 65536 ^ q)
  (fun s => ((18 : Int) - s.2.1).toNat) (fun b => ∃ g : Nat → Nat, b = um (fl g 17) ∧ (∀ p, g p < 65536) ∧ dval (fl g 17) + t * M = dval (fl f 17)) ((0 : UInt64), 0, um (fl f 17))
  ⟨0, 0, f, rfl, Nat.zero_le _, Nat.zero_le _, hf, fun _ _ => rfl, by simp [fl, Nat.mod_one]⟩ (by simp) (by
   rintro s ⟨q, c, g, rfl, hq, hc, hg, hge, hv⟩
   by_cases h : q ≤ 16
   ·have hgq := hg q
    have htm := tm_bound ht (zkH M q)
    refine .inl ⟨_, lb3_body hM ht h hc hg, ⟨q + 1, _, _, rfl, by omega, by omega, fup_lt hg (Nat.mod_lt _ (by decide)), fun p hp => by rw [fup_ne (by omega)]; exact hge p (by omega), left_step hc htm hgq (hge q (Nat.le_refl _)) hv⟩, ?_⟩
    show ((18 : Int) - ((q + 1 : Nat) : Int)).toNat < ((18 : Int) - (q : Int)).toNat
    omega
   ·obtain rfl : q = 17 := by omega
    refine .inr ⟨_, ?_, g, rfl, hg, left_end rfl hM hg hle hv⟩
    unfold zjP
    simp only [zeS, hM]
    rw [zdA (by decide)])
 exact ⟨g, hb, hg, hv⟩
theorem fl_lim (f : Nat → Nat) {n : Nat} (h : n ≤ 1000) : lim (fl f n) := by show (fl f n).length ≤ _; rw [zkA]; omega
theorem cmp_fl {f : Nat → Nat} {n B : Nat} (hn : n ≤ 1000) (hf : ∀ p, f p < 65536) (hB : lim (digs B)) : zfC (um (fl f n)) (ud B) = some (cmpI (dval (fl f n)) B) := by
 have h1 : lim (digs (dval (fl f n))) := digs_lim (k := n) (dval_fl_lt hf n) (by omega)
 have := cmp_ok h1 hB
 unfold zfC at this ⊢
 rw [trim_ok (fl_lim f hn) (DL_fl hf n)]
 rw [trim_ud h1] at this
 exact this
def nm (l : List UInt32) : List Nat := l.map UInt32.toNat
theorem nm_um {l : List Nat} (h : DL l) : nm (um l) = l := by
 unfold nm um
 rw [List.map_map]
 conv => rhs; rw [← List.map_id l]
 exact List.map_congr_left fun d hd => un16 (h d hd)
theorem lb2_ok {M X : Nat} {f : Nat → Nat} (hM : (digs M).length = 16) (hMp : 0 < M) (hf : ∀ p, f p < 65536) (hX : dval (fl f 17) % M = X) :
  ∃ g : Nat → Nat, iter (r6_Left_b2 (ud M)) (um (fl f 17)) = some (um (fl g 17)) ∧ (∀ p, g p < 65536) ∧ dval (fl g 17) = X := by
 have hML : lim (digs M) := by show _ ≤ _; omega
 have hbig : 65536 ^ 15 ≤ M := by have := digs_ge (n := M) (by omega); rwa [hM] at this
 obtain ⟨b, hb, g, rfl, hg, hv⟩ := zfI (body := r6_Left_b2 (ud M)) (fun s => ∃ g : Nat → Nat, s = um (fl g 17) ∧ (∀ p, g p < 65536) ∧ dval (fl g 17) % M = X)
  (fun s => dval (nm s) / M) (fun b => ∃ g : Nat → Nat, b = um (fl g 17) ∧ (∀ p, g p < 65536) ∧ dval (fl g 17) = X) (um (fl f 17)) ⟨f, rfl, hf, hX⟩ (by
   rw [nm_um (DL_fl hf 17)]
   have h1 := dval_fl_lt hf 17
   refine Nat.lt_of_lt_of_le (Nat.div_lt_of_lt_mul (k := 65536 ^ 2) ?_) (by decide)
   refine Nat.lt_of_lt_of_le h1 ?_
   rw [show (65536 : Nat) ^ 17 = 65536 ^ 15 * 65536 ^ 2 by rw [← Nat.pow_add]]
   exact Nat.mul_le_mul_right _ hbig) (by
   rintro s ⟨g, rfl, hg, hv⟩
   have hg16 := hg 16
   have hcmp := cmp_fl (f := g) (n := 16) (by decide) hg hML
   have key : ∀ t : Nat, 0 < t → t < 65536 → t * M ≤ dval (fl g 17) → ∃ g2 : Nat → Nat, iter (zjP (ud M) (UInt32.ofNat t)) ((0 : UInt64), 0, um (fl g 17)) = some (um (fl g2 17)) ∧ (∃ g : Nat → Nat, um (fl g2 17) = um (fl g 17) ∧ (∀ p, g p < 65536) ∧ dval (fl g 17) % M = X) ∧ dval (nm (um (fl g2 17))) / M < dval (nm (um (fl g 17))) / M := by
    intro t ht ht2 hle
    obtain ⟨g2, e, hg2, hend⟩ := lb3_ok hM ht2 hg hle
    refine ⟨g2, e, ⟨g2, rfl, hg2, (left_mod hend).trans hv⟩, ?_⟩
    rw [nm_um (DL_fl hg2 17), nm_um (DL_fl hg 17), ← hend, Nat.add_mul_div_right _ _ hMp]
    omega
   unfold r6_Left_b2
   simp only [zeS, hM]
   rw [fl_idx g rfl (by omega)]
   simp only [Option.bind_some]
   rw [un16 hg16]
   by_cases h0 : 0 < g 16
   ·rw [zdE (by omega)]
    simp only [Option.bind_some, cond_true]
    obtain ⟨g2, e, hI, hlt⟩ := key (g 16) h0 hg16 (left_t2 hM)
    refine .inl ⟨_, ?_, hI, hlt⟩
    rw [show (((g 16 : Nat) : Int) == 0) = false by rw [beq_false_of_ne]; omega]
    simp only [cond_false, Option.bind_some]
    rw [e]; rfl
   ·have hz : g 16 = 0 := by omega
    rw [zdA (by omega), subH_um (n := 16) rfl (by rw [zkA]; omega), fl_take g (by omega)]
    simp only [Option.bind_some]
    rw [hcmp]
    simp only [Option.bind_some]
    by_cases hc : M ≤ dval (fl g 16)
    ·rw [show decide ((0 : Int) ≤ cmpI (dval (fl g 16)) M) = true from decide_eq_true (cmpI_ge.2 hc)]
     simp only [cond_true]
     obtain ⟨g2, e, hI, hlt⟩ := key 1 (by decide) (by decide) (left_t1 (.inr hc) hz)
     refine .inl ⟨_, ?_, hI, hlt⟩
     rw [show (((g 16 : Nat) : Int) == 0) = true by rw [hz]; rfl]
     simp only [cond_true, Option.bind_some]
     rw [show (1 : UInt32) = UInt32.ofNat 1 from rfl, e]; rfl
    ·rw [show decide ((0 : Int) ≤ cmpI (dval (fl g 16)) M) = false from decide_eq_false fun h => hc (cmpI_ge.1 h)]
     simp only [cond_false]
     exact .inr ⟨_, rfl, g, rfl, hg, left_out hz (by omega) hv⟩)
 exact ⟨g, hb, hg, hv⟩
theorem left_ok {A M : Nat} (hA : lim (digs A)) (hM : (digs M).length = 16) : zhV (ud A) (ud M) = some (ud (A % M)) := by
 have hA' : (digs A).length ≤ 1099511627 := hA
 have hMp : 0 < M := Nat.pos_of_ne_zero fun h0 => by subst h0; rw [zjG] at hM; cases hM
 unfold zhV
 simp only [zeS, hM]
 rw [w64_n (n := 17) (by omega) (by omega), mk_um rfl (by omega), w64_i (by omega) (by omega)]
 simp only [Option.bind_some]
 obtain ⟨b, hb, f, rfl, hf, hv⟩ := zfI (body := r6_Left_b0 (ud A) (ud M))
  (fun s => ∃ (k : Nat) (f : Nat → Nat), s = ((k : Int) - 1, um (fl f 17)) ∧ k ≤ (digs A).length ∧ (∀ p, f p < 65536) ∧ dval (fl f 17) = A / 65536 ^ k % M)
  (fun s => (s.1 + 1).toNat) (fun b => ∃ f : Nat → Nat, b = um (fl f 17) ∧ (∀ p, f p < 65536) ∧ dval (fl f 17) = A % M) (((digs A).length : Int) - 1, um (fl (fun _ => 0) 17))
  ⟨_, _, rfl, Nat.le_refl _, fun _ => Nat.zero_lt_succ _, by rw [above_top (Nat.le_refl _), dval_fl_zero (fun _ _ => rfl), Nat.zero_mod]⟩ (by simp; omega) (by
   rintro s ⟨k, f, rfl, hk, hf, hv⟩
   by_cases h : 0 < k
   ·obtain ⟨g, e1, hg, hs⟩ := lb1_ok hf
    obtain ⟨g2, e2, hg2, hv2⟩ := lb2_ok (f := fup g 0 (dg A (k - 1))) hM hMp (fup_lt hg (zkH _ _)) (left_shift h hM hMp hs hv)
    refine .inl ⟨(((k - 1 : Nat) : Int) - 1, um (fl g2 17)), ?_, ⟨k - 1, g2, rfl, by omega, hg2, hv2⟩, ?_⟩
    ·unfold r6_Left_b0
     simp only [zeS, hM]
     rw [zdE (by omega), show (((16 : Nat) : Int)) = (16 : Int) from rfl, e1]
     simp only [Option.bind_some]
     rw [zjZ (i := k - 1) (by omega) (zfO (by omega)), fl_idx (i := 0) (j := 0) g rfl (by omega)]
     simp only [Option.bind_some]
     rw [show A / 65536 ^ (k - 1) % 65536 = dg A (k - 1) from rfl, fl_setG (i := 0) (j := 0) g rfl (by omega)]
     simp only [Option.bind_some]
     rw [e2, w64_i (by omega) (by omega)]
     simp only [Option.bind_some]
     rw [show (k : Int) - 1 - 1 = ((k - 1 : Nat) : Int) - 1 by omega]
    ·show ((((k - 1 : Nat) : Int) - 1) + 1).toNat < (((k : Int) - 1) + 1).toNat
     omega
   ·obtain rfl : k = 0 := by omega
    refine .inr ⟨_, ?_, f, rfl, hf, by rw [hv, Nat.pow_zero, Nat.div_one]⟩
    unfold r6_Left_b0
    rw [zdA (by simp)])
 rw [hb]
 simp only [Option.bind_some]
 rw [trim_ok (fl_lim f (by decide)) (DL_fl hf 17), hv]
 rfl
theorem zjQ (m : Int) : zdN m = some (ud (modN m)) := by
 unfold zdN
 by_cases h : m = 0
 ·rw [show (m == 0) = true by rw [h]; rfl, show ud (modN m) = um [65535, 65535, 65535, 65535, 65535, 65535, 0, 0, 0, 0, 0, 0, 1, 0, 65535, 65535] from congrArg um (digs_modP h)]; rfl
 ·rw [show (m == 0) = false by simpa using h, show ud (modN m) = um [9553, 64611, 51906, 62393, 40580, 42775, 64173, 48358, 65535, 65535, 65535, 65535, 0, 0, 65535, 65535] from congrArg um (digs_modN h)]; rfl
theorem modN_two (m : Int) : modN m < zaE := (zbF m).lt
abbrev small (A : Nat) : Prop := (digs A).length < 1000
theorem zbS {A : Nat} (h : small A) : lim (digs A) := by have : (digs A).length < 1000 := h; show _ ≤ _; omega
theorem zeY {A : Nat} (h : A < zaE) : small A := Nat.lt_of_le_of_lt (ziE (k := 16) (show A < 65536 ^ 16 from h)) (by decide)
theorem sum_ok (m : Int) {A B : Nat} (hA : small A) (hB : small B) : r6_Sum_p m (ud A) (ud B) = some (ud ((A + B) % modN m)) := by
 have hA' : (digs A).length < 1000 := hA
 have hB' : (digs B).length < 1000 := hB
 unfold r6_Sum_p
 have h3 := len_add (k := 1000) (Nat.le_of_lt hA') (Nat.le_of_lt hB')
 rw [add_ok (zbS hA) (zbS hB) (by omega), zjQ]
 simp only [Option.bind_some]
 rw [left_ok (by show _ ≤ _; omega) (zjU m)]; rfl
theorem product_ok (m : Int) {A B : Nat} (hA : small A) (hB : small B) : ziI m (ud A) (ud B) = some (ud (A * B % modN m)) := by
 have hA' : (digs A).length < 1000 := hA
 have hB' : (digs B).length < 1000 := hB
 unfold ziI
 have h4 : ∀ K, 2000 ≤ K → (digs (A * B)).length ≤ K := fun K hK => by
  refine ziE (Nat.lt_of_lt_of_le (Nat.mul_lt_mul'' (digs_lt A) (digs_lt B)) ?_)
  rw [← Nat.pow_add]
  exact Nat.pow_le_pow_right (by decide) (by omega)
 have h5 := h4 1099511627 (by decide)
 rw [mul_ok (zbS hA) (zbS hB) (by omega), zjQ]
 simp only [Option.bind_some]
 rw [left_ok h5 (zjU m)]; rfl
theorem opposite_ok (m : Int) {A : Nat} (hA : small A) : zgF m (ud A) = some (ud ((modN m - A % modN m) % modN m)) := by
 have hle : A % modN m ≤ modN m := Nat.le_of_lt (Nat.mod_lt _ (zbF m).pos)
 have hl1 := zjU m
 have hl3 := digs_mono (Nat.sub_le (modN m) (A % modN m))
 unfold zgF
 rw [zjQ]
 simp only [Option.bind_some]
 rw [left_ok (zbS hA) (zjU m)]
 simp only [Option.bind_some]
 rw [sub_ok (by show _ ≤ _; omega) hle]
 simp only [Option.bind_some]
 rw [left_ok (by show _ ≤ _; omega) (zjU m)]; rfl
end
section
theorem dg_word (A i k : Nat) (hk : k < 4) : A / 2 ^ (64 * i) % 2 ^ 64 / 2 ^ (16 * k) % 65536 = dg A (4 * i + k) := by
 unfold dg
 have e2 : (65536 : Nat) ^ (4 * i + k) = 2 ^ (64 * i + 16 * k) := by rw [show (65536 : Nat) = 2 ^ 16 by rfl, ← Nat.pow_mul]; congr 1; omega
 rw [e2, Nat.pow_add, ← Nat.div_div_eq_div_mul]
 generalize A / 2 ^ (64 * i) = X
 rcases (by omega : k = 0 ∨ k = 1 ∨ k = 2 ∨ k = 3) with rfl | rfl | rfl | rfl
 all_goals simp only [Nat.reduceMul, Nat.reducePow]
 all_goals omega
theorem in_dig (x : W4) {i k : Nat} (hi : i < 4) (hk : k < 4) {b : Int} (hb : b = ((16 * k : Nat) : Int)) : i32 ((((i64 (shrI .u64 ((wd x i).toNat : Int) b)) &&& (65535 : UInt64))).toNat : Int) = UInt32.ofNat (dg (nv x) (4 * i + k)) := by
 subst hb
 have h0 := (wd x i).toNat_lt
 have h1 : (wd x i).toNat / 2 ^ (16 * k) < 18446744073709551616 := Nat.lt_of_le_of_lt (Nat.div_le_self _ _) h0
 rw [shr_n (by show 16 * k ≤ 64; omega), i64_n, and16_64 h1, un64 (by omega), i32_n, ← nv_wd x hi, dg_word _ _ _ hk]
theorem in_inner (x : W4) {i : Nat} (hi : i < 4) : iter (r6_In_b1 x ((i : Int), um (dl (nv x) (4 * i)))) ((0 : Int), um (dl (nv x) (4 * i))) = some (um (dl (nv x) (4 * (i + 1)))) :=
 zcS (fun k => ((k : Int), um (dl (nv x) (4 * i + k)))) 4 (by decide) _ (fun k hk => by
  unfold r6_In_b1
  simp only
  rw [zdE (by omega), wd_get x rfl hi, w64_n (n := 16 * k) (by omega) (by omega), zhS (decide_eq_true (Int.natCast_nonneg _))]
  simp only [Option.bind_some]
  rw [in_dig x hi hk rfl, app_um (by rw [dl_length]; omega), ← dl_succ, w64_n (n := k + 1) (by omega) (by omega)]
  rfl) (by
  unfold r6_In_b1
  simp only
  rw [zdA (by decide), show 4 * i + 4 = 4 * (i + 1) by omega])
theorem in_ok (x : W4) : r6_In_p x = some (ud (nv x)) := by
 unfold r6_In_p
 have key : iter (r6_In_b0 x) ((0 : Int), ([] : List UInt32)) = some (um (dl (nv x) (4 * 4))) :=
  zcS (fun i => ((i : Int), um (dl (nv x) (4 * i)))) 4 (by decide) _ (fun i hi => by
   unfold r6_In_b0
   simp only
   rw [zdE (by omega), in_inner x hi, w64_n (n := i + 1) (by omega) (by omega)]
   rfl) (by
   unfold r6_In_b0
   simp only
   rw [zdA (by decide)])
 rw [key]
 simp only [Option.bind_some]
 rw [trim_ok (by show (dl (nv x) 16).length ≤ _; rw [dl_length]; decide) (DL_dl _ _), in_fin (nv_lt x) rfl]
 rfl
theorem word_add {X d q r j : Nat} (hX : X < 2 ^ (64 * q + 16 * r)) (hr : r < 4) (hd : d < 65536) :
  (X + d * 2 ^ (64 * q + 16 * r)) / 2 ^ (64 * j) % 2 ^ 64 = if j = q then X / 2 ^ (64 * q) + d * 2 ^ (16 * r) else X / 2 ^ (64 * j) % 2 ^ 64 := by
 by_cases hj : j = q
 ·subst hj
  rw [if_pos rfl, Nat.pow_add, Nat.mul_comm (2 ^ (64 * j)), ← Nat.mul_assoc, Nat.add_mul_div_right _ _ (Nat.two_pow_pos _)]
  refine Nat.mod_eq_of_lt ?_
  have h1 : X / 2 ^ (64 * j) < 2 ^ (16 * r) := Nat.div_lt_of_lt_mul (by rwa [← Nat.pow_add])
  rcases (by omega : r = 0 ∨ r = 1 ∨ r = 2 ∨ r = 3) with rfl | rfl | rfl | rfl
  all_goals simp only [Nat.reduceMul, Nat.reducePow] at h1 ⊢
  all_goals omega
 ·rw [if_neg hj]
  by_cases hlt : j < q
  ·obtain ⟨e, rfl⟩ : ∃ e, q = j + 1 + e := ⟨q - (j + 1), by omega⟩
   have e1 : d * 2 ^ (64 * (j + 1 + e) + 16 * r) = 2 ^ 64 * (d * 2 ^ (64 * e + 16 * r)) * 2 ^ (64 * j) := by
    rw [Nat.mul_assoc (2 ^ 64), Nat.mul_assoc d, ← Nat.pow_add, Nat.mul_left_comm, ← Nat.pow_add]
    congr 2; omega
   rw [e1, Nat.add_mul_div_right _ _ (Nat.two_pow_pos _), Nat.add_mul_mod_self_left]
  ·have h1 : 2 ^ (64 * q + 16 * r + 16) ≤ 2 ^ (64 * j) := Nat.pow_le_pow_right (by decide) (by omega)
   have h2 : X + d * 2 ^ (64 * q + 16 * r) < 2 ^ (64 * q + 16 * r + 16) := by
    rw [Nat.pow_add (n := 16)]
    have : d * 2 ^ (64 * q + 16 * r) ≤ 65535 * 2 ^ (64 * q + 16 * r) := Nat.mul_le_mul_right _ (by omega)
    generalize 2 ^ (64 * q + 16 * r) = Y at *
    omega
   rw [Nat.div_eq_of_lt (Nat.lt_of_lt_of_le h2 h1), Nat.div_eq_of_lt (Nat.lt_of_lt_of_le (Nat.lt_of_le_of_lt (Nat.le_add_right _ _) h2) h1)]
theorem pow65 (i : Nat) : (65536 : Nat) ^ i = 2 ^ (64 * (i / 4) + 16 * (i % 4)) := by
 rw [show (65536 : Nat) = 2 ^ 16 from rfl, ← Nat.pow_mul]; congr 1; omega
theorem of64 {a b : Nat} (h : a % 2 ^ 64 = b % 2 ^ 64) : UInt64.ofNat a = UInt64.ofNat b := by
 apply UInt64.toNat_inj.1
 simp only [UInt64.toNat_ofNat']; exact h
theorem out_word {A i j : Nat} : UInt64.ofNat (A % 65536 ^ (i + 1) / 2 ^ (64 * j)) = if j = i / 4 then UInt64.ofNat (A % 65536 ^ i / 2 ^ (64 * (i / 4)) + dg A i * 2 ^ (16 * (i % 4))) else UInt64.ofNat (A % 65536 ^ i / 2 ^ (64 * j)) := by
 have hX : A % 65536 ^ i < 2 ^ (64 * (i / 4) + 16 * (i % 4)) := by rw [← pow65]; exact Nat.mod_lt _ (Nat.pow_pos (by decide))
 have h := word_add (d := dg A i) (q := i / 4) (r := i % 4) (j := j) hX (Nat.mod_lt _ (by decide)) (zkH A i)
 rw [zkV]
 conv at h => lhs; rw [← pow65 i]
 by_cases hj : j = i / 4
 ·rw [if_pos hj] at h ⊢
  refine of64 ?_
  rw [h]
  refine (Nat.mod_eq_of_lt ?_).symm
  rw [← h]
  exact Nat.mod_lt _ (by decide)
 ·rw [if_neg hj] at h ⊢
  exact of64 h
theorem out_or {A i : Nat} {b : Int} (hi : i < 16) (hb : b = ((16 * (i % 4) : Nat) : Int)) :
  UInt64.ofNat (A % 65536 ^ i / 2 ^ (64 * (i / 4))) ||| i64 (shlI .u64 (((i64 (((UInt32.ofNat (dg A i)).toNat : Int))).toNat : Int)) b) = UInt64.ofNat (A % 65536 ^ i / 2 ^ (64 * (i / 4)) + dg A i * 2 ^ (16 * (i % 4))) := by
 subst hb
 have hd := zkH A i
 have hX : A % 65536 ^ i < 2 ^ (64 * (i / 4)) * 2 ^ (16 * (i % 4)) := by rw [← Nat.pow_add, ← pow65]; exact Nat.mod_lt _ (Nat.pow_pos (by decide))
 have h1 : A % 65536 ^ i / 2 ^ (64 * (i / 4)) < 2 ^ (16 * (i % 4)) := Nat.div_lt_of_lt_mul hX
 have hr : i % 4 < 4 := Nat.mod_lt _ (by decide)
 generalize A % 65536 ^ i / 2 ^ (64 * (i / 4)) = Y at *
 generalize i % 4 = r at *
 generalize dg A i = d at *
 have h2 : Y + d * 2 ^ (16 * r) < 2 ^ 64 ∧ d * 2 ^ (16 * r) < 2 ^ 64 ∧ Y < 2 ^ 64 := by
  rcases (by omega : r = 0 ∨ r = 1 ∨ r = 2 ∨ r = 3) with rfl | rfl | rfl | rfl
  all_goals simp only [Nat.reduceMul, Nat.reducePow] at h1 ⊢
  all_goals omega
 have h3 : i64 (shlI .u64 (((i64 (((UInt32.ofNat d).toNat : Int))).toNat : Int)) ((16 * r : Nat) : Int)) = UInt64.ofNat (d * 2 ^ (16 * r)) := by
  rw [un16 hd, i64_n, un64 (by omega)]
  unfold shlI
  rw [Int.toNat_natCast, Nat.min_eq_left (show 16 * r ≤ IntKind.u64.bits by show 16 * r ≤ 64; omega)]
  have e : ((d : Int) * 2 ^ (16 * r)) = ((d * 2 ^ (16 * r) : Nat) : Int) := by rw [Int.natCast_mul, Int.natCast_pow]; rfl
  rw [e, wrapS rfl h2.2.1, i64_n]
 rw [h3]
 apply UInt64.toNat_inj.1
 rw [UInt64.toNat_or, un64 h2.2.2, un64 h2.2.1, un64 h2.1, Nat.or_comm, Nat.mul_comm, ← Nat.two_pow_add_eq_or_of_lt h1, Nat.add_comm]
theorem out_set (x : W4) {q : Nat} {j : Int} (u : UInt64) (hj : j = (q : Int)) (hq : q < 4) : ∃ l, setL ([x.1, x.2.1, x.2.2.1, x.2.2.2] : List UInt64) j u = some l ∧ ∀ p, p < 4 → l.getD p (0 : UInt64) = if p = q then u else wd x p := by
 subst hj
 refine ⟨_, setL_ok rfl (by simpa using hq), fun p hp => ?_⟩
 rcases (by omega : q = 0 ∨ q = 1 ∨ q = 2 ∨ q = 3) with rfl | rfl | rfl | rfl <;> rcases (by omega : p = 0 ∨ p = 1 ∨ p = 2 ∨ p = 3) with rfl | rfl | rfl | rfl <;> rfl
theorem out_body {A i : Nat} (hi : i < (digs A).length) (hA : A < zaE) : r6_Out_b0 (ud A) ((i : Int), tv (A % 65536 ^ i)) = some (.inl (((i + 1 : Nat) : Int), tv (A % 65536 ^ (i + 1)))) := by
 have h16 : (digs A).length ≤ 16 := ziE (k := 16) hA
 have hq : w64 (Int.tdiv (i : Int) 4) = ((i / 4 : Nat) : Int) := by
  rw [show (4 : Int) = ((4 : Nat) : Int) from rfl, ← Int.ofNat_tdiv]; exact w64_n rfl (by omega)
 have hr : Int.tmod (i : Int) 4 = ((i % 4 : Nat) : Int) := by rw [show (4 : Int) = ((4 : Nat) : Int) from rfl, ← Int.ofNat_tmod]
 unfold r6_Out_b0
 simp only [zeS]
 rw [zdE (by omega), hq, wd_get (tv (A % 65536 ^ i)) rfl (by omega), zjZ rfl (zfO hi), hr, w64_n (n := 16 * (i % 4)) (by omega) (by omega), zhS (decide_eq_true (Int.natCast_nonneg _))]
 simp only [Option.bind_some]
 rw [show A / 65536 ^ i % 65536 = dg A i from rfl, wd_tv _ (by omega), out_or (by omega) rfl]
 obtain ⟨l, e, hl⟩ := out_set (tv (A % 65536 ^ i)) (q := i / 4) (UInt64.ofNat (A % 65536 ^ i / 2 ^ (64 * (i / 4)) + dg A i * 2 ^ (16 * (i % 4)))) rfl (by omega)
 rw [e]
 simp only [Option.bind_some]
 have key : ∀ p, p < 4 → l.getD p (0 : UInt64) = UInt64.ofNat (A % 65536 ^ (i + 1) / 2 ^ (64 * p)) := fun p hp => by
  rw [hl p hp, out_word, wd_tv _ hp]
 rw [key 0 (by decide), key 1 (by decide), key 2 (by decide), key 3 (by decide), w64_n (n := i + 1) (by omega) (by omega)]
 rfl
theorem tv_0 : tv 0 = ((0 : UInt64), (0 : UInt64), (0 : UInt64), (0 : UInt64)) := by rfl
theorem out_ok {A : Nat} (hA : A < zaE) : r6_Out_p (ud A) = some (tv A) := by
 have h16 : (digs A).length ≤ 16 := ziE (k := 16) hA
 unfold r6_Out_p
 have key : iter (r6_Out_b0 (ud A)) ((0 : Int), (0 : UInt64), (0 : UInt64), (0 : UInt64), (0 : UInt64)) = some (tv A) := by
  have := zcS (body := r6_Out_b0 (ud A)) (fun i => ((i : Int), tv (A % 65536 ^ i))) (digs A).length (by omega) (tv A) (fun i hi => out_body hi hA) (by
   unfold r6_Out_b0
   simp only [zeS]
   rw [zdA (by omega), mod_len (Nat.le_refl _)])
  rw [show ((0 : Int), (0 : UInt64), (0 : UInt64), (0 : UInt64), (0 : UInt64)) = (((0 : Nat) : Int), tv (A % 65536 ^ 0)) by rw [Nat.pow_zero, Nat.mod_one, tv_0]; rfl]
  exact this
 rw [key]; rfl
end
theorem sm0 {a : Nat} (h : a < PP) : small a := zeY (Nat.lt_trans h PP_lt)
theorem fs_mod (a b : Nat) : (a + (modN 0 - b % modN 0) % modN 0) % modN 0 = fs a b := by rw [fs, Nat.add_mod_mod]
theorem times_ok {a b : Nat} (ha : small a) (hb : small b) : zaZ (ud a) (ud b) = some (ud (fm a b)) := by
 unfold zaZ; rw [product_ok 0 ha hb]; rfl
theorem plus_ok {a b : Nat} (ha : small a) (hb : small b) : ziQ (ud a) (ud b) = some (ud (fa a b)) := by
 unfold ziQ; rw [sum_ok 0 ha hb]; rfl
theorem minus_ok {a b : Nat} (ha : small a) (hb : small b) : zcF (ud a) (ud b) = some (ud (fs a b)) := by
 unfold zcF
 rw [opposite_ok 0 hb]
 simp only [Option.bind_some]
 rw [sum_ok 0 ha (B := (modN 0 - b % modN 0) % modN 0) (sm0 (Nat.mod_lt _ (zhL 0))), fs_mod]; rfl
theorem ud_k {k : Nat} (h0 : k ≠ 0) (h : k < 65536) : ([UInt32.ofNat k] : List UInt32) = ud k := by
 show _ = um (digs k)
 rw [zlA h0, Nat.mod_eq_of_lt h, Nat.div_eq_of_lt h, zjG]; rfl
theorem ud_3 : ([(3 : UInt32)] : List UInt32) = ud 3 := ud_k (by decide) (by decide)
theorem half_body {A k c : Nat} {ol : List Nat} (hl : lim (digs A)) (hk : 0 < k) (hkl : k ≤ (digs A).length) (hol : ol.length = (digs A).length) (hc : c ≤ 1) :
  r6_half_b0 (ud A) (UInt32.ofNat c, (k : Int) - 1, um ol) = some (.inl (UInt32.ofNat ((c * 65536 + dg A (k - 1)) % 2), ((k - 1 : Nat) : Int) - 1, um (ol.set (k - 1) ((c * 65536 + dg A (k - 1)) / 2)))) := by
 have hd := zkH A (k - 1)
 have hl' : (digs A).length ≤ 1099511627 := hl
 unfold r6_half_b0
 simp only
 rw [zdE (by omega), show (k : Int) - 1 = ((k - 1 : Nat) : Int) by omega, zjZ rfl (zfO (by omega))]
 simp only [Option.bind_some]
 obtain ⟨z, hz⟩ : ∃ z, ol[k - 1]? = some z := ⟨_, List.getElem?_eq_getElem (by omega)⟩
 rw [zjZ rfl hz]
 simp only [Option.bind_some]
 rw [show A / 65536 ^ (k - 1) % 65536 = dg A (k - 1) from rfl]
 have e1 : i32 (shlI .u32 ((UInt32.ofNat c).toNat : Int) 16) ||| UInt32.ofNat (dg A (k - 1)) = UInt32.ofNat (c * 65536 + dg A (k - 1)) := by
  have : i32 (shlI .u32 ((UInt32.ofNat c).toNat : Int) 16) = UInt32.ofNat (c * 65536) := by
   rw [un (by omega)]
   unfold shlI
   rw [shl16 hc, i32_n]
  rw [this]
  apply UInt32.toNat_inj.1
  rw [UInt32.toNat_or, un (by omega), un (by omega), un (by omega), show c * 65536 = 2 ^ 16 * c by omega, ← Nat.two_pow_add_eq_or_of_lt (by omega)]
 rw [e1]
 have e2 : i32 (shrI .u32 ((UInt32.ofNat (c * 65536 + dg A (k - 1))).toNat : Int) 1) = UInt32.ofNat ((c * 65536 + dg A (k - 1)) / 2) := by
  rw [un (by omega), show (1 : Int) = ((1 : Nat) : Int) from rfl, shr_n (by decide), i32_n]
 have e3 : UInt32.ofNat (c * 65536 + dg A (k - 1)) &&& 1 = UInt32.ofNat ((c * 65536 + dg A (k - 1)) % 2) := by
  apply UInt32.toNat_inj.1
  rw [UInt32.toNat_and, un (by omega), un (by omega)]
  exact Nat.and_two_pow_sub_one_eq_mod _ 1
 rw [e2, e3, setL_um rfl (by omega), w64_i (by omega) (by omega)]
 rfl
theorem half_ok {A : Nat} (hl : lim (digs A)) : zjB (ud A) = some (ud (A / 2)) := by
 have hl' : (digs A).length ≤ 1099511627 := hl
 unfold zjB
 simp only [zeS]
 rw [mk_um rfl (by omega), w64_i (by omega) (by omega)]
 simp only [Option.bind_some]
 obtain ⟨b, hb, ol, rfl, hol, hd, hv⟩ := zfI (body := r6_half_b0 (ud A))
  (fun s => ∃ (k c : Nat) (ol : List Nat), s = (UInt32.ofNat c, (k : Int) - 1, um ol) ∧ k ≤ (digs A).length ∧ ol.length = (digs A).length ∧ DL ol ∧ c ≤ 1 ∧ c = A / 65536 ^ k % 2 ∧ dval (ol.drop k) = A / 65536 ^ k / 2)
  (fun s => (s.2.1 + 1).toNat) (fun b => ∃ ol : List Nat, b = um ol ∧ ol.length = (digs A).length ∧ DL ol ∧ dval ol = A / 2) ((0 : UInt32), ((digs A).length : Int) - 1, um (fl (fun _ => 0) (digs A).length))
  ⟨(digs A).length, 0, _, rfl, Nat.le_refl _, zkA _ _, DL_fl (fun _ => Nat.zero_lt_succ _) _, by decide, by rw [above_top (Nat.le_refl _)], by rw [above_top (Nat.le_refl _), List.drop_eq_nil_of_le (by rw [zkA]; exact Nat.le_refl _)]; rfl⟩ (by simp; omega) (by
   rintro s ⟨k, c, ol, rfl, hk, hol, hd, hc, hcv, hv⟩
   by_cases h : 0 < k
   ·have hs := half_step h (by omega) hcv hv
    have hdg := zkH A (k - 1)
    refine .inl ⟨_, half_body hl h hk hol hc, ⟨k - 1, _, _, rfl, by omega, by rw [List.length_set]; exact hol, ?_, by omega, hs.1, hs.2⟩, ?_⟩
    ·intro d hdm
     rcases List.mem_or_eq_of_mem_set hdm with h2 | h2
     ·exact hd d h2
     ·rw [h2]; omega
    ·show (((k - 1 : Nat) : Int) - 1 + 1).toNat < ((k : Int) - 1 + 1).toNat
     omega
   ·obtain rfl : k = 0 := by omega
    refine .inr ⟨_, ?_, ol, rfl, hol, hd, by simpa using hv⟩
    unfold r6_half_b0
    rw [zdA (by simp)])
 rw [hb]
 simp only [Option.bind_some]
 rw [trim_ok (by show ol.length ≤ _; omega) hd, hv]
 rfl
theorem odd_ok {A : Nat} (hl : lim (digs A)) : zkY (ud A) = some (decide (A % 2 = 1)) := by
 unfold zkY
 simp only [zeS]
 by_cases h : 0 < (digs A).length
 ·rw [zdE (by omega), zjZ (i := 0) (j := 0) rfl (zfO h)]
  simp only [Option.bind_some]
  have hd := zkH A 0
  rw [show A / 65536 ^ 0 % 65536 = dg A 0 from rfl, un16 hd, rem2, i32_n, un (by omega), odd_fin h]
 ·rw [zdA (by omega)]
  simp only [Option.bind_some]
  rw [odd_fin0 h]
theorem halved_ok {A p : Nat} (hA : small A) (hp : small p) : zgX (ud A) (ud p) = some (ud (hav p A)) := by
 have hA' : (digs A).length < 1000 := hA
 have hp' : (digs p).length < 1000 := hp
 unfold zgX hav
 rw [odd_ok (zbS hA)]
 simp only [Option.bind_some]
 by_cases h : A % 2 = 1
 ·have h3 := len_add (k := 1000) (Nat.le_of_lt hA') (Nat.le_of_lt hp')
  rw [zdE h, add_ok (zbS hA) (zbS hp) (by omega), if_pos h]
  simp only [Option.bind_some]
  rw [half_ok (by show _ ≤ _; omega)]; rfl
 ·rw [zdA h, if_neg h]
  simp only [Option.bind_some]
  rw [half_ok (zbS hA)]; rfl
theorem less_ok {A B p : Nat} (hA : small A) (hB : small B) (hp : small p) (hBp : B ≤ p) : r6_less_p (ud A) (ud B) (ud p) = some (ud (lev p A B)) := by
 have hA' : (digs A).length < 1000 := hA
 have hp' : (digs p).length < 1000 := hp
 unfold r6_less_p lev
 rw [cmp_ok (zbS hA) (zbS hB)]
 simp only [Option.bind_some]
 by_cases h : A < B
 ·have h3 := len_add (k := 1000) (Nat.le_of_lt hA') (Nat.le_of_lt hp')
  rw [zdE (cmpI_lt.2 h), add_ok (zbS hA) (zbS hp) (by omega), if_pos h]
  simp only [Option.bind_some]
  rw [sub_ok (by show _ ≤ _; omega) (by omega)]; rfl
 ·rw [zdA (fun h2 => h (cmpI_lt.1 h2)), if_neg h]
  simp only [Option.bind_some]
  rw [sub_ok (zbS hA) (by omega)]; rfl
theorem log_half {u : Nat} (hu : u % 2 ≠ 1) (h0 : 0 < u) : Nat.log2 (u / 2) < Nat.log2 u := by
 rw [Nat.log2_def u, if_pos (by omega)]; omega
theorem log_mono {a b : Nat} (h : a ≤ b) : Nat.log2 a ≤ Nat.log2 b := by
 by_cases ha : a = 0
 ·subst ha; simp
 ·refine (Nat.le_log2 (by omega)).2 (Nat.le_trans (Nat.log2_self_le ha) h)
theorem log_lt {u : Nat} (h : u < zaE) : Nat.log2 u < 256 := by
 by_cases hu : u = 0
 ·subst hu; decide
 ·exact (Nat.log2_lt hu).2 h
theorem small_mod (m : Int) {x : Nat} (h : x ≤ modN m) : small x := Nat.lt_of_le_of_lt (digs_mono h) (by rw [zjU]; decide)
theorem InvI.sm {m : Int} {A u v x y : Nat} (h : InvI m A u v x y) : small u ∧ small v ∧ small x ∧ small y := ⟨small_mod m h.ul, small_mod m h.vl, small_mod m (Nat.le_of_lt h.xl), small_mod m (Nat.le_of_lt h.yl)⟩
theorem nm_ud (A : Nat) : dval (nm (ud A)) = A := by rw [nm_um (digs_DL A), dval_digs]
theorem inv_halves {m : Int} {A u v x y : Nat} (b : List UInt32 × List UInt32 → Option ((List UInt32 × List UInt32) ⊕ (List UInt32 × List UInt32)))
  (hb : ∀ s, b s = Option.bind (zkY s.1) fun y5 => bif (!y5) then (Option.bind (zjB s.1) fun y6 => Option.bind (zgX s.2 (ud (modN m))) fun y7 => some (.inl ((y6, y7)))) else (some (.inr ((s.1, s.2)))))
  (h : InvI m A u v x y) : ∃ u' x', iter b (ud u, ud x) = some (ud u', ud x') ∧ InvI m A u' v x' y ∧ u' % 2 = 1 ∧ u' ≤ u ∧ (u' = u ∨ u % 2 ≠ 1 ∧ Nat.log2 u' < Nat.log2 u) := by
 obtain ⟨r, hr, u', x', rfl, hI, ho, hle, hlg⟩ := zfI (body := b)
  (fun s => ∃ u' x', s = (ud u', ud x') ∧ InvI m A u' v x' y ∧ u' ≤ u ∧ (u' = u ∨ u % 2 ≠ 1 ∧ Nat.log2 u' < Nat.log2 u)) (fun s => Nat.log2 (dval (nm s.1)))
  (fun r => ∃ u' x', r = (ud u', ud x') ∧ InvI m A u' v x' y ∧ u' % 2 = 1 ∧ u' ≤ u ∧ (u' = u ∨ u % 2 ≠ 1 ∧ Nat.log2 u' < Nat.log2 u)) (ud u, ud x) ⟨u, x, rfl, h, Nat.le_refl _, .inl rfl⟩ (by
   show Nat.log2 (dval (nm (ud u))) < _
   rw [nm_ud]
   have := log_lt (Nat.lt_of_le_of_lt h.ul (modN_two m)); omega) (by
   rintro s ⟨u', x', rfl, hI, hle, hlg⟩
   rw [hb]
   simp only
   have hs := hI.sm
   rw [odd_ok (zbS hs.1)]
   simp only [Option.bind_some]
   by_cases ho : u' % 2 = 1
   ·refine .inr ⟨(ud u', ud x'), ?_, u', x', rfl, hI, ho, hle, hlg⟩
    rw [show decide (u' % 2 = 1) = true from decide_eq_true ho]; rfl
   ·have hl2 := log_half ho hI.u0
    refine .inl ⟨(ud (u' / 2), ud (hav (modN m) x')), ?_, ⟨u' / 2, _, rfl, hI.half ho, by omega, .inr ?_⟩, ?_⟩
    ·rw [show decide (u' % 2 = 1) = false from decide_eq_false ho, half_ok (zbS hs.1), halved_ok hs.2.2.1 (small_mod m (Nat.le_refl _))]; rfl
    ·rcases hlg with rfl | ⟨h4, h3⟩
     ·exact ⟨ho, hl2⟩
     ·exact ⟨h4, by omega⟩
    ·show Nat.log2 (dval (nm (ud (u' / 2)))) < Nat.log2 (dval (nm (ud u')))
     rw [nm_ud, nm_ud]; exact hl2)
 exact ⟨u', x', hr, hI, ho, hle, hlg⟩
theorem b1_shape {p : Nat} (s : List UInt32 × List UInt32) : r6_Inverse_b1 (ud p) s = Option.bind (zkY s.1) fun y5 => bif (!y5) then (Option.bind (zjB s.1) fun y6 => Option.bind (zgX s.2 (ud p)) fun y7 => some (.inl ((y6, y7)))) else (some (.inr ((s.1, s.2)))) := rfl
theorem b2_shape {p : Nat} (s : List UInt32 × List UInt32) : r6_Inverse_b2 (ud p) s = Option.bind (zkY s.1) fun y5 => bif (!y5) then (Option.bind (zjB s.1) fun y6 => Option.bind (zgX s.2 (ud p)) fun y7 => some (.inl ((y6, y7)))) else (some (.inr ((s.1, s.2)))) := rfl
theorem ud_1 : ([(1 : UInt32)] : List UInt32) = ud 1 := by
 show _ = um (digs 1)
 rw [zlA (by decide)]; simp [zjG, um]
def invM (u v : Nat) : Nat := 2 * (Nat.log2 u + Nat.log2 v) + (if u % 2 = 1 ∧ v % 2 = 1 then 1 else 0)
theorem inverse_body {m : Int} {A u v x y : Nat} (h : InvI m A u v x y) :
  (∃ u' v' x' y', ziW (ud (modN m)) (ud u, ud v, ud x, ud y) = some (.inl (ud u', ud v', ud x', ud y')) ∧ InvI m A u' v' x' y' ∧ invM u' v' < invM u v) ∨
   (ziW (ud (modN m)) (ud u, ud v, ud x, ud y) = some (.inr (ud u, ud x, ud y)) ∧ (u = 1 ∨ v = 1)) := by
 have hs := h.sm
 have hl1 : lim (digs 1) := zbS (zeY (by decide))
 unfold ziW
 simp only
 rw [ud_1, cmp_ok (zbS hs.1) hl1]
 simp only [Option.bind_some]
 by_cases hu : u = 1
 ·refine .inr ⟨?_, .inl hu⟩
  rw [show (cmpI u 1 != 0) = false by simp [cmpI_eq.2 hu]]; rfl
 ·rw [show (cmpI u 1 != 0) = true by rw [bne_iff_ne]; exact fun e => hu (cmpI_eq.1 e), cmp_ok (zbS hs.2.1) hl1]
  simp only [cond_true, Option.bind_some]
  by_cases hv : v = 1
  ·refine .inr ⟨?_, .inr hv⟩
   rw [show (cmpI v 1 != 0) = false by simp [cmpI_eq.2 hv]]; rfl
  ·rw [show (cmpI v 1 != 0) = true by rw [bne_iff_ne]; exact fun e => hv (cmpI_eq.1 e)]
   simp only [cond_true]
   refine .inl ?_
   obtain ⟨u1, x1, e1, hI1, ho1, hle1, hlg1⟩ := inv_halves (r6_Inverse_b1 (ud (modN m))) b1_shape h
   obtain ⟨v1, y1, e2, hI2, ho2, hle2, hlg2⟩ := inv_halves (r6_Inverse_b2 (ud (modN m))) b2_shape hI1.swap
   have hI := hI2.swap
   have hs2 := hI.sm
   rw [e1, e2]
   simp only [Option.bind_some]
   rw [cmp_ok (zbS hs2.1) (zbS hs2.2.1)]
   simp only [Option.bind_some]
   have hyp := Nat.le_of_lt hI.yl
   have hxp := Nat.le_of_lt hI.xl
   have ml1 := log_mono hle1
   have ml2 := log_mono hle2
   have hne : u1 ≠ v1 := hI.ne (by
    by_cases h1 : u % 2 = 1
    ·rcases hlg1 with e | ⟨h2, _⟩
     ·exact .inl (by rw [e]; exact hu)
     ·exact absurd h1 h2
    ·have h3 := h.odd h1
     rcases hlg2 with e | ⟨h2, _⟩
     ·exact .inr (by rw [e]; exact hv)
     ·exact absurd h3 h2)
   have hbase : 2 * (Nat.log2 u1 + Nat.log2 v1) < invM u v := by
    unfold invM
    by_cases h1 : u % 2 = 1 ∧ v % 2 = 1
    ·rw [if_pos h1]; omega
    ·rw [if_neg h1]
     by_cases h2 : u % 2 = 1
     ·have h4 : v % 2 ≠ 1 := fun e => h1 ⟨h2, e⟩
      rcases hlg2 with e | ⟨_, h3⟩
      ·exact absurd (e ▸ ho2) h4
      ·omega
     ·rcases hlg1 with e | ⟨_, h3⟩
      ·exact absurd (e ▸ ho1) h2
      ·omega
   by_cases hlt : v1 < u1
   ·refine ⟨u1 - v1, v1, lev (modN m) x1 y1, y1, ?_, hI.sub hlt, ?_⟩
    ·rw [zdE (cmpI_ge.2 (by omega)), sub_ok (zbS hs2.1) (by omega), less_ok hs2.2.2.1 hs2.2.2.2 (small_mod m (Nat.le_refl _)) hyp]; rfl
    ·have := log_mono (Nat.sub_le u1 v1)
     have hev : ¬ ((u1 - v1) % 2 = 1 ∧ v1 % 2 = 1) := fun e => by omega
     show invM (u1 - v1) v1 < invM u v
     rw [invM, if_neg hev]; omega
   ·refine ⟨u1, v1 - u1, x1, lev (modN m) y1 x1, ?_, (hI.swap.sub (by omega)).swap, ?_⟩
    ·rw [zdA (fun e => hlt (by have := cmpI_ge.1 e; omega)), sub_ok (zbS hs2.2.1) (by omega), less_ok hs2.2.2.2 hs2.2.2.1 (small_mod m (Nat.le_refl _)) hxp]; rfl
    ·have := log_mono (Nat.sub_le v1 u1)
     have hev : ¬ (u1 % 2 = 1 ∧ (v1 - u1) % 2 = 1) := fun e => by omega
     show invM u1 (v1 - u1) < invM u v
     rw [invM, if_neg hev]; omega
theorem inverse_ok (m : Int) {A : Nat} (hA : small A) (h0 : A % modN m ≠ 0) : zeU m (ud A) = some (ud (A ^ (modN m - 2) % modN m)) := by
 unfold zeU
 rw [zjQ]
 simp only [Option.bind_some]
 rw [left_ok (zbS hA) (zjU m)]
 simp only [Option.bind_some]
 rw [ud_1, show ([] : List UInt32) = ud 0 by simp [zjG, um]]
 obtain ⟨b, hb, u, v, x, y, rfl, hI, h1⟩ := zfI (body := ziW (ud (modN m)))
  (fun s => ∃ u v x y, s = (ud u, ud v, ud x, ud y) ∧ InvI m A u v x y) (fun s => invM (dval (nm s.1)) (dval (nm s.2.1)))
  (fun b => ∃ u v x y, b = (ud u, ud x, ud y) ∧ InvI m A u v x y ∧ (u = 1 ∨ v = 1)) (ud (A % modN m), ud (modN m), ud 1, ud 0) ⟨_, _, _, _, rfl, InvI.init h0⟩ (by
   show invM (dval (nm (ud _))) (dval (nm (ud _))) < _
   rw [nm_ud, nm_ud]
   have h1 := log_lt (modN_two m)
   have h2 := log_mono (Nat.le_of_lt (Nat.mod_lt A (zhL m)))
   unfold invM
   split <;> omega) (by
   rintro s ⟨u, v, x, y, rfl, hI⟩
   rcases inverse_body hI with ⟨u', v', x', y', e, hI', hlt⟩ | ⟨e, h1⟩
   ·refine .inl ⟨_, e, ⟨u', v', x', y', rfl, hI'⟩, ?_⟩
    show invM (dval (nm (ud u'))) (dval (nm (ud v'))) < invM (dval (nm (ud u))) (dval (nm (ud v)))
    rw [nm_ud, nm_ud, nm_ud, nm_ud]; exact hlt
   ·exact .inr ⟨_, e, u, v, x, y, rfl, hI, h1⟩)
 rw [hb]
 simp only [Option.bind_some]
 rw [cmp_ok (zbS hI.sm.1) (zbS (zeY (by decide)))]
 simp only [Option.bind_some]
 by_cases hu : u = 1
 ·rw [show (cmpI u 1 == 0) = true by simp [cmpI_eq.2 hu]]
  simp only [cond_true]
  rw [hI.fin h0 hu]
 ·rw [show (cmpI u 1 == 0) = false by rw [beq_false_of_ne]; exact fun e => hu (cmpI_eq.1 e)]
  simp only [cond_false]
  rw [hI.swap.fin h0 (h1.resolve_left hu)]
abbrev R7P : Type := Bool × List UInt32 × List UInt32
abbrev fd (x : Fp) : List UInt32 := ud x.val
def rq : Pt → R7P
 | none => (true, [], [])
 | some (x, y) => (false, fd x, fd y)
theorem rq_x (x y : Fp) : (rq (some (x, y))).2.1 = fd x := rfl
theorem rq_y (x y : Fp) : (rq (some (x, y))).2.2 = fd y := rfl
theorem sv (x : Fp) : small x.val := sm0 x.isLt
theorem fm_v (x y : Fp) : fm x.val y.val = (x * y).val := val_cl (fm_lt _ _) (by rw [zfB, zgU, zgU])
theorem fa_v (x y : Fp) : fa x.val y.val = (x + y).val := val_cl (fa_lt _ _) (by rw [cl_fa, zgU, zgU])
theorem fs_v (x y : Fp) : fs x.val y.val = (x - y).val := val_cl (fs_lt _ _) (by rw [cl_fs, zgU, zgU])
theorem zeE (x y : Fp) : zaZ (fd x) (fd y) = some (fd (x * y)) := by rw [times_ok (sv x) (sv y), fm_v]
theorem plusF (x y : Fp) : ziQ (fd x) (fd y) = some (fd (x + y)) := by rw [plus_ok (sv x) (sv y), fa_v]
theorem zkB (x y : Fp) : zcF (fd x) (fd y) = some (fd (x - y)) := by rw [minus_ok (sv x) (sv y), fs_v]
theorem oppF (x : Fp) : zgF 0 (fd x) = some (fd (-x)) := by
 rw [opposite_ok 0 (sv x)]
 show _ = some (ud (-x).val)
 rw [← neg_val x]; rfl
theorem invF {x : Fp} (h : x ≠ 0) : zeU 0 (fd x) = some (fd (fi x)) := by
 have h0 : x.val % modN 0 ≠ 0 := fun e => h (by
  have := (cl_eq0 (a := x.val)).2 e
  rwa [zgU] at this)
 rw [inverse_ok 0 (sv x) h0]; rfl
theorem cmpF (x y : Fp) : ∃ c : Int, zfC (fd x) (fd y) = some c ∧ (c == 0) = decide (x = y) := by
 refine ⟨_, cmp_ok (zbS (sv x)) (zbS (sv y)), ?_⟩
 rw [Bool.eq_iff_iff, beq_iff_eq, decide_eq_true_iff, cmpI_eq]
 exact ⟨fun h => Fin.ext h, fun h => by rw [h]⟩
theorem v3 : (3 : Fp).val = 3 := by rfl
theorem fd_3 : ([(3 : UInt32)] : List UInt32) = fd 3 := by rw [ud_3, ← v3]
theorem opp_ok (P : Pt) : zfZ (rq P) = some (rq (aneg P)) := by
 unfold zfZ
 match P with
 | none => rfl
 | some (x, y) =>
  show (bif false then _ else Option.bind (zgF 0 (fd y)) fun y1 => some (false, fd x, y1)) = _
  rw [cond_false, bind_ok (oppF y)]; rfl
theorem same_ok (P Q : Pt) : zfQ (rq P) (rq Q) = some (decide (P = Q)) := by
 unfold zfQ
 match P, Q with
 | none, none => rfl
 | none, some (x, y) => rfl
 | some (x, y), none => rfl
 | some (x1, y1), some (x2, y2) =>
  obtain ⟨c, e, hc⟩ := cmpF x1 x2
  obtain ⟨d, e2, hd⟩ := cmpF y1 y2
  show Option.bind (Option.bind (some false) fun t1 => _) _ = _
  simp only [rq, cond_false, Option.bind_some, Bool.not_false, cond_true]
  rw [bind_ok e]
  simp only [Option.bind_some]
  rw [hc]
  by_cases hx : x1 = x2
  ·rw [show decide (x1 = x2) = true from decide_eq_true hx, cond_true, bind_ok e2]
   simp only [Option.bind_some]
   rw [hd]
   refine congrArg some ?_
   rw [Bool.eq_iff_iff, decide_eq_true_iff, decide_eq_true_iff]
   exact ⟨fun h => by rw [hx, h], fun h => by injection h with h; injection h⟩
  ·rw [show decide (x1 = x2) = false from decide_eq_false hx, cond_false]
   simp only [Option.bind_some, cond_false]
   refine congrArg some (Eq.symm (decide_eq_false fun h => hx ?_))
   injection h with h; injection h
theorem sumR_ok {P Q : Pt} (hP : onP P) (hQ : onP Q) : zjX (rq P) (rq Q) = some (rq (aadd P Q)) := by
 unfold zjX
 match P, Q with
 | none, Q => rw [zgJ]; rfl
 | some p, none => rw [zgL]; rfl
 | some (x1, y1), some (x2, y2) =>
  have h1 : onE x1 y1 := hP
  have h2 : onE x2 y2 := hQ
  show (bif false then _ else bif false then _ else _) = _
  rw [cond_false, cond_false, bind_ok (opp_ok _), bind_ok (same_ok _ _)]
  rw [zeW]
  by_cases hopp : x1 = x2 ∧ y1 = - y2
  ·rw [if_pos hopp, show decide ((some (x1, y1) : Pt) = aneg (some (x2, y2))) = true from decide_eq_true (by rw [hopp.1, hopp.2]; rfl)]
   rfl
  ·rw [if_neg hopp, show decide ((some (x1, y1) : Pt) = aneg (some (x2, y2))) = false from decide_eq_false fun h => hopp (by
    have h : some (x1, y1) = some (x2, - y2) := h
    injection h with h; injection h with a b; exact ⟨a, b⟩), cond_false]
   simp only [rq_x, rq_y]
   rw [bind_ok (zkB y2 y1), bind_ok (zkB x2 x1)]
   have key : ∃ u d : Fp, d ≠ 0 ∧ zkZ x1 y1 x2 y2 = u * fi d ∧ (Option.bind (zfQ (rq (some (x1, y1))) (rq (some (x2, y2)))) fun y5 => bif y5 then (Option.bind (zaZ (fd x1) (fd x1)) fun y6 => Option.bind (zaZ ([(3 : UInt32)] : List UInt32) y6) fun y7 => Option.bind (zcF y7 ([(3 : UInt32)] : List UInt32)) fun y8 => Option.bind (ziQ (fd y1) (fd y1)) fun y9 => some ((y8, y9))) else (some ((fd (y2 - y1), fd (x2 - x1))))) = some (fd u, fd d) := by
    by_cases hs : x1 = x2 ∧ y1 = y2
    ·refine ⟨3 * (x1 * x1) - 3, y1 + y1, fun h => hopp ⟨hs.1, ?_⟩, by rw [zkZ, if_pos hs], ?_⟩
     ·rw [← hs.2]; grobner
     ·rw [bind_ok (same_ok _ _), show decide ((some (x1, y1) : Pt) = some (x2, y2)) = true from decide_eq_true (by rw [hs.1, hs.2]), cond_true, fd_3, bind_ok (zeE _ _), bind_ok (zeE _ _), bind_ok (zkB _ _), bind_ok (plusF _ _)]
    ·refine ⟨y2 - y1, x2 - x1, fun h => ?_, by rw [zkZ, if_neg hs], ?_⟩
     ·have hx : x1 = x2 := (lin_0 h).symm ▸ rfl
      rcases ne_neg h1 h2 hx with h3 | h3
      ·exact hs ⟨hx, h3⟩
      ·exact hopp ⟨hx, h3⟩
     ·rw [bind_ok (same_ok _ _), show decide ((some (x1, y1) : Pt) = some (x2, y2)) = false from decide_eq_false fun h => hs (by injection h with h; injection h with a b; exact ⟨a, b⟩), cond_false]
   obtain ⟨u, d, hd, hsl, e⟩ := key
   rw [bind_ok e]
   show Option.bind (zeU 0 (fd d)) _ = _
   rw [bind_ok (invF hd)]
   show Option.bind (zaZ (fd u) (fd (fi d))) _ = _
   rw [bind_ok (zeE _ _), ← hsl, bind_ok (zeE _ _), bind_ok (zkB _ _), bind_ok (zkB _ _), bind_ok (zkB _ _), bind_ok (zeE _ _), bind_ok (zkB _ _)]
   rfl
def ofW (x : Pw) : Pt := ofA (apT x)
theorem inR_ok {x : Pw} (h : onT (apT x) = true) : r7_In_p x = some (rq (ofW x)) := by
 unfold r7_In_p
 rw [bind_ok (in_ok x.1), bind_ok (in_ok x.2.1)]
 have e := toA_ofA h
 unfold ofW
 cases ho : ofA (apT x) with
 | none =>
  rw [ho] at e
  have e1 : (0 : Nat) = nv x.1 := congrArg (fun t : Ap => t.1) e
  have e2 : (0 : Nat) = nv x.2.1 := congrArg (fun t : Ap => t.2.1) e
  have e3 : true = x.2.2 := congrArg (fun t : Ap => t.2.2) e
  rw [← e1, ← e2, ← e3, show ud 0 = [] by simp [zjG, um]]; rfl
 | some p =>
  obtain ⟨a, b⟩ := p
  rw [ho] at e
  have e1 : a.val = nv x.1 := congrArg (fun t : Ap => t.1) e
  have e2 : b.val = nv x.2.1 := congrArg (fun t : Ap => t.2.1) e
  have e3 : false = x.2.2 := congrArg (fun t : Ap => t.2.2) e
  rw [← e1, ← e2, ← e3]; rfl
theorem bit_ok {K i : Nat} {j : Int} (hj : j = (i : Int)) (hi : i < 16 * (digs K).length) (hl : (digs K).length ≤ 1000) : ∃ d : UInt32, idx (ud K) (w64 (Int.tdiv j 16)) = some d ∧ chk (decide (0 ≤ Int.tmod j 16)) = some () ∧
  (((((i32 (shrI .u32 ((d).toNat : Int) (Int.tmod j 16))) &&& (1 : UInt32))).toNat : Int) == 1) = decide (K / 2 ^ i % 2 = 1) ∧ (((((i32 (shrI .u32 ((d).toNat : Int) (Int.tmod j 16))) &&& (1 : UInt32))).toNat : Int) == 0) = decide (K / 2 ^ i % 2 ≠ 1) := by
 subst hj
 have hq : w64 (Int.tdiv (i : Int) 16) = ((i / 16 : Nat) : Int) := by
  rw [show (16 : Int) = ((16 : Nat) : Int) from rfl, ← Int.ofNat_tdiv]; exact w64_n rfl (by omega)
 have hr : Int.tmod (i : Int) 16 = ((i % 16 : Nat) : Int) := by rw [show (16 : Int) = ((16 : Nat) : Int) from rfl, ← Int.ofNat_tmod]
 have hdl := zkH K (i / 16)
 have hb : (((i32 (shrI .u32 (((UInt32.ofNat (dg K (i / 16))).toNat : Int)) ((i % 16 : Nat) : Int))) &&& (1 : UInt32))).toNat = K / 2 ^ i % 2 := by
  have hle : dg K (i / 16) / 2 ^ (i % 16) < 4294967296 := Nat.lt_of_le_of_lt (Nat.div_le_self _ _) (by omega)
  rw [un16 hdl, shr_n (by show i % 16 ≤ 32; omega), i32_n, UInt32.toNat_and, un hle, show (1 : UInt32).toNat = 2 ^ 1 - 1 from rfl, Nat.and_two_pow_sub_one_eq_mod, Nat.pow_one, bit_dg]
 refine ⟨UInt32.ofNat (dg K (i / 16)), by rw [hq]; exact zjZ rfl (zfO (by omega)), by rw [hr]; exact zhS (decide_eq_true (Int.natCast_nonneg _)), ?_, ?_⟩
 ·rw [hr, hb, Bool.eq_iff_iff, beq_iff_eq, decide_eq_true_iff]; omega
 ·rw [hr, hb, Bool.eq_iff_iff, beq_iff_eq, decide_eq_true_iff]; omega
theorem top_bits {K : Nat} : K / 2 ^ (16 * (digs K).length) = 0 := by
 have h1 := digs_lt K
 rw [show (65536 : Nat) = 2 ^ 16 from rfl, ← Nat.pow_mul] at h1
 exact Nat.div_eq_of_lt h1
theorem bits_up1 {K i : Nat} (h : K / 2 ^ i % 2 = 1) : K / 2 ^ i = K / 2 ^ (i + 1) + K / 2 ^ (i + 1) + 1 := by
 rw [Nat.pow_succ, ← Nat.div_div_eq_div_mul]; omega
theorem bits_up0 {K i : Nat} (h : K / 2 ^ i % 2 ≠ 1) : K / 2 ^ i = K / 2 ^ (i + 1) + K / 2 ^ (i + 1) := by
 rw [Nat.pow_succ, ← Nat.div_div_eq_div_mul]; omega
abbrev F3 : Type := Fp × Fp × Fp
def f3 (t : F3) : List UInt32 × List UInt32 × List UInt32 := (fd t.1, fd t.2.1, fd t.2.2)
def RF (t : F3) (P : Pt) : Prop := Rep (t.1.val, t.2.1.val, t.2.2.val) P
theorem rep_cl {s t : Tr} {P : Pt} (h : Rep s P) (h1 : cl s.1 = cl t.1) (h2 : cl s.2.1 = cl t.2.1) (h3 : cl s.2.2 = cl t.2.2) : Rep t P := by
 match P with
 | none => show cl t.2.2 = 0; rw [← h3]; exact h
 | some (x, y) =>
  obtain ⟨a, b, c⟩ := h
  exact ⟨by rw [← h3]; exact a, by rw [← h1, ← h3]; exact b, by rw [← h2, ← h3]; exact c⟩
def tw (t : F3) : F3 :=
 let a := 4 * (t.1 * (t.2.1 * t.2.1)); let b := 3 * (t.1 * t.1 - t.2.2 * t.2.2 * (t.2.2 * t.2.2)); let x := b * b - (a + a)
 (x, b * (a - x) - 8 * (t.2.1 * t.2.1 * (t.2.1 * t.2.1)), (t.2.1 + t.2.1) * t.2.2)
theorem v4 : (4 : Fp).val = 4 := by rfl
theorem v8 : (8 : Fp).val = 8 := by rfl
theorem fd_4 : ([(4 : UInt32)] : List UInt32) = fd 4 := by rw [show ([(4 : UInt32)] : List UInt32) = ud 4 from ud_k (by decide) (by decide), ← v4]
theorem fd_8 : ([(8 : UInt32)] : List UInt32) = fd 8 := by rw [show ([(8 : UInt32)] : List UInt32) = ud 8 from ud_k (by decide) (by decide), ← v8]
theorem fd_1 : ([(1 : UInt32)] : List UInt32) = fd 1 := by rw [show ([(1 : UInt32)] : List UInt32) = ud 1 from ud_k (by decide) (by decide)]; rfl
theorem fd_0 : ([] : List UInt32) = fd 0 := by show _ = um (digs 0); rw [zjG]; rfl
theorem twice_ok (t : F3) : zfU (f3 t) = some (f3 (tw t)) := by
 obtain ⟨x, y, z⟩ := t
 unfold zfU
 simp only [f3]
 rw [fd_4, fd_3, fd_8, bind_ok (zeE y y), bind_ok (zeE z z), bind_ok (zeE x _), bind_ok (zeE 4 _), bind_ok (zeE x x), bind_ok (zeE _ _), bind_ok (zkB _ _), bind_ok (zeE _ _), bind_ok (zeE _ _),
  bind_ok (plusF _ _), bind_ok (zkB _ _), bind_ok (zkB _ _), bind_ok (zeE _ _), bind_ok (zeE _ _), bind_ok (zeE _ _), bind_ok (zkB _ _), bind_ok (plusF _ _), bind_ok (zeE _ _)]
 rfl
theorem tw_1 (x y z : Fp) : 3 * ((x - z * z) * (x + z * z)) * (3 * ((x - z * z) * (x + z * z))) - (4 * (x * (y * y)) + 4 * (x * (y * y))) = 3 * (x * x - z * z * (z * z)) * (3 * (x * x - z * z * (z * z))) - (4 * (x * (y * y)) + 4 * (x * (y * y))) := by grobner
theorem tw_2 (x y z X : Fp) : 3 * ((x - z * z) * (x + z * z)) * (4 * (x * (y * y)) - X) - 8 * (y * y * (y * y)) = 3 * (x * x - z * z * (z * z)) * (4 * (x * (y * y)) - X) - 8 * (y * y * (y * y)) := by grobner
theorem tw_3 (y z : Fp) : 2 * (y * z) = (y + y) * z := by grobner
theorem RF_tw {t : F3} {P : Pt} (h : RF t P) (hP : onP P) : RF (tw t) (aadd P P) := by
 obtain ⟨x, y, z⟩ := t
 have hX : cl (jtwX x.val y.val z.val) = (tw (x, y, z)).1 := by rw [cl_jtwX, zgU, zgU, zgU, tw_1]; rfl
 refine rep_cl (rep_tw h hP) ?_ ?_ ?_
 ·show cl (jtwX x.val y.val z.val) = cl (tw (x, y, z)).1.val
  rw [hX, zgU]
 ·show cl (jtwY x.val y.val z.val) = cl (tw (x, y, z)).2.1.val
  rw [cl_jtwY, hX, zgU, zgU, zgU, zgU, tw_2]; rfl
 ·show cl (jtwZ y.val z.val) = cl (tw (x, y, z)).2.2.val
  rw [cl_jtwZ, zgU, zgU, zgU, tw_3]; rfl
def moh (t : F3) (qx : Fp) : Fp := qx * (t.2.2 * t.2.2) - t.1
def mo (t : F3) (qx qy : Fp) : F3 :=
 let h := moh t qx; let r := qy * (t.2.2 * t.2.2 * t.2.2) - t.2.1; let x := r * r - h * (h * h) - (t.1 * (h * h) + t.1 * (h * h))
 (x, r * (t.1 * (h * h) - x) - t.2.1 * (h * (h * h)), t.2.2 * h)
theorem len_fd (x : Fp) : (((fd x).length : Int) == 0) = decide (x = 0) := by
 rw [zeS, Bool.eq_iff_iff, beq_iff_eq, decide_eq_true_iff]
 constructor
 ·intro h
  have h2 := odd_none (A := x.val) (by omega)
  exact Fin.ext h2
 ·intro h; subst h
  have : (0 : Fp).val = 0 := rfl
  rw [this, zjG]; rfl
theorem more_ok (t : F3) (qx qy : Fp) : ∃ u, zhW (f3 t) (rq (some (qx, qy))) = some (u, decide (moh t qx ≠ 0)) ∧ (moh t qx ≠ 0 → u = f3 (mo t qx qy)) := by
 obtain ⟨x, y, z⟩ := t
 have e : ∃ u, zhW (fd x, fd y, fd z) (false, fd qx, fd qy) = some (u, decide (moh (x, y, z) qx ≠ 0)) ∧ (moh (x, y, z) qx ≠ 0 → u = f3 (mo (x, y, z) qx qy)) := by
  unfold zhW
  simp only
  rw [bind_ok (zeE z z), bind_ok (zeE qx _), bind_ok (zkB _ x), len_fd]
  by_cases h : moh (x, y, z) qx = 0
  ·have h' : qx * (z * z) - x = 0 := h
   refine ⟨([], [], []), ?_, fun h2 => absurd h h2⟩
   rw [show decide (qx * (z * z) - x = 0) = true from decide_eq_true h', cond_true, show decide (moh (x, y, z) qx ≠ 0) = false from decide_eq_false fun h2 => h2 h]
  ·have h' : ¬ qx * (z * z) - x = 0 := h
   refine ⟨f3 (mo (x, y, z) qx qy), ?_, fun _ => rfl⟩
   rw [show decide (qx * (z * z) - x = 0) = false from decide_eq_false h', cond_false, show decide (moh (x, y, z) qx ≠ 0) = true from decide_eq_true h]
   rw [bind_ok (zeE _ z), bind_ok (zeE qy _), bind_ok (zkB _ y), bind_ok (zeE _ _), bind_ok (zeE _ _), bind_ok (zeE x _), bind_ok (zeE _ _), bind_ok (zkB _ _), bind_ok (plusF _ _), bind_ok (zkB _ _),
    bind_ok (zkB _ _), bind_ok (zeE _ _), bind_ok (zeE y _), bind_ok (zkB _ _), bind_ok (zeE z _)]
   rfl
 exact e
theorem mo_1 (x y z qx qy : Fp) : qx * (z * z) - x * (1 * 1) = qx * (z * z) - x := by grobner
theorem mo_2 (x y z qx qy : Fp) : qy * (z * z * z) - y * (1 * 1 * 1) = qy * (z * z * z) - y := by grobner
theorem mo_x (x h r : Fp) : r * r - h * (h * h) - (x * (1 * 1) * (h * h) + x * (1 * 1) * (h * h)) = r * r - h * (h * h) - (x * (h * h) + x * (h * h)) := by grobner
theorem mo_y (x y h r X : Fp) : r * (x * (1 * 1) * (h * h) - X) - y * (1 * 1 * 1) * (h * (h * h)) = r * (x * (h * h) - X) - y * (h * (h * h)) := by grobner
theorem mo_z (z h : Fp) : h * (z * 1) = z * h := by grobner
theorem RF_of (x y : Fp) : RF (x, y, 1) (some (x, y)) := by
 have := rep_of (p := (x.val, y.val, false))
 show Rep (x.val, y.val, (1 : Fp).val) (some (x, y))
 have e : ofA (x.val, y.val, false) = some (x, y) := by show some (cl x.val, cl y.val) = _; rw [zgU, zgU]
 rw [e] at this
 exact this
theorem RF_0 : RF (0, 0, 0) none := by
 show cl (0 : Fp).val = 0
 rw [zgU]
theorem RF_z {t : F3} {P : Pt} (h : RF t P) : t.2.2 = 0 ↔ P = none := by
 match P with
 | none =>
  have h0 : cl t.2.2.val = 0 := h
  rw [zgU] at h0
  simp [h0]
 | some (x, y) =>
  have h0 : cl t.2.2.val ≠ 0 := h.1
  rw [zgU] at h0
  simp [h0]
theorem RF_mo {t : F3} {P : Pt} {qx qy : Fp} (h : RF t P) (hP : onP P) (hQ : onP (some (qx, qy))) (hz : t.2.2 ≠ 0) (hh : moh t qx ≠ 0) : RF (mo t qx qy) (aadd P (some (qx, qy))) := by
 obtain ⟨x, y, z⟩ := t
 have hz : z ≠ 0 := hz
 have hq : Rep (qx.val, qy.val, 1) (some (qx, qy)) := RF_of qx qy
 have hr := rep_add h hq hP hQ z.isLt (zjH 0)
 have hzv : ¬ z.val = 0 := fun e => hz (Fin.ext e)
 unfold jad at hr
 rw [if_neg (show ¬ (x.val, y.val, z.val).2.2 = 0 from hzv), if_neg (show ¬ (qx.val, qy.val, 1).2.2 = 0 from Nat.one_ne_zero)] at hr
 have eh : cl (fs (fm qx.val (fm z.val z.val)) (fm x.val (fm 1 1))) = moh (x, y, z) qx := by
  simp only [cl_fs, zfB, zgU, cl_1]; exact mo_1 x y z qx qy
 have er : cl (fs (fm qy.val (fm (fm z.val z.val) z.val)) (fm y.val (fm (fm 1 1) 1))) = qy * (z * z * z) - y := by
  simp only [cl_fs, zfB, zgU, cl_1]; exact mo_2 x y z qx qy
 have eu : cl (fm x.val (fm 1 1)) = x * (1 * 1) := by simp only [zfB, zgU, cl_1]
 have es : cl (fm y.val (fm (fm 1 1) 1)) = y * (1 * 1 * 1) := by simp only [zfB, zgU, cl_1]
 simp only at hr
 generalize fs (fm qx.val (fm z.val z.val)) (fm x.val (fm 1 1)) = H at hr eh
 generalize fs (fm qy.val (fm (fm z.val z.val) z.val)) (fm y.val (fm (fm 1 1) 1)) = R at hr er
 generalize fm x.val (fm 1 1) = U at hr eu
 generalize fm y.val (fm (fm 1 1) 1) = V at hr es
 have hH : ¬ H = 0 := fun e => hh (by rw [← eh, e]; rfl)
 unfold jad2 at hr
 rw [if_neg hH] at hr
 have ex : cl (fs (fs (fm R R) (fm H (fm H H))) (fa (fm U (fm H H)) (fm U (fm H H)))) = (mo (x, y, z) qx qy).1 := by
  simp only [cl_fs, zfB, cl_fa, er, eh, eu]; exact mo_x x _ _
 refine rep_cl hr ?_ ?_ ?_
 ·show cl (fs (fs (fm R R) (fm H (fm H H))) (fa (fm U (fm H H)) (fm U (fm H H)))) = _
  rw [ex, zgU]
 ·show cl (fs (fm R (fs (fm U (fm H H)) (fs (fs (fm R R) (fm H (fm H H))) (fa (fm U (fm H H)) (fm U (fm H H)))))) (fm V (fm H (fm H H)))) = _
  rw [cl_fs, zfB, cl_fs, ex, zgU]
  simp only [zfB, er, eh, eu, es]; exact mo_y x y _ _ _
 ·show cl (fm H (fm z.val 1)) = _
  rw [zgU]
  simp only [zfB, eh, zgU, cl_1]; exact mo_z z _
theorem end_ok {t : F3} {P : Pt} (h : RF t P) : zhM (f3 t) = some (rq P) := by
 obtain ⟨x, y, z⟩ := t
 have e : zhM (fd x, fd y, fd z) = some (rq P) := by
  unfold zhM
  simp only
  rw [len_fd]
  by_cases hz : z = 0
  ·rw [show decide (z = 0) = true from decide_eq_true hz, cond_true, (RF_z h).1 hz]; rfl
  ·rw [show decide (z = 0) = false from decide_eq_false hz, cond_false, bind_ok (invF hz), bind_ok (zeE _ _), bind_ok (zeE x _), bind_ok (zeE _ _), bind_ok (zeE y _)]
   match P with
   | none => exact absurd ((RF_z h).2 rfl) hz
   | some (X, Y) =>
    obtain ⟨_, hx, hy⟩ := h
    have hx : cl x.val = X * (cl z.val * cl z.val) := hx
    have hy : cl y.val = Y * (cl z.val * cl z.val * cl z.val) := hy
    rw [zgU, zgU] at hx hy
    have hi := fi_mul hz
    rw [hx, hy, end_x hi, end_y hi]; rfl
 exact e
theorem fast_body {x y : Fp} (hP : onP (some (x, y))) {K i : Nat} {t : F3} (hi : i < 16 * (digs K).length) (hl : (digs K).length ≤ 1000) (ht : RF t (smul (K / 2 ^ (i + 1)) (some (x, y)))) :
  ∃ t', zgN (rq (some (x, y))) (ud K) ((i : Int), f3 t) = some (.inl ((i : Int) - 1, f3 t')) ∧ RF t' (smul (K / 2 ^ i) (some (x, y))) := by
 obtain ⟨d, e1, e2, _, e4⟩ := bit_ok (K := K) rfl hi hl
 have hm := on_smul hP (K / 2 ^ (i + 1))
 have h3 : ∃ t3, (bif decide ((0 : Int) < ((fd t.2.2).length : Int)) then (Option.bind (zfU (f3 t)) fun y1 => some ((y1.1, y1.2.1, y1.2.2))) else (some (f3 t))) = some (f3 t3) ∧ RF t3 (smul (K / 2 ^ (i + 1) + K / 2 ^ (i + 1)) (some (x, y))) := by
  by_cases hz : t.2.2 = 0
  ·have hn := (RF_z ht).1 hz
   refine ⟨t, ?_, ?_⟩
   ·have := len_fd t.2.2
    rw [show decide (t.2.2 = 0) = true from decide_eq_true hz, beq_iff_eq] at this
    rw [zdA (by omega)]
   ·rw [smul_add hP, hn]; rw [hn] at ht; exact ht
  ·refine ⟨tw t, ?_, by rw [smul_add hP]; exact RF_tw ht hm⟩
   have := len_fd t.2.2
   rw [show decide (t.2.2 = 0) = false from decide_eq_false hz] at this
   have h5 : ¬ ((fd t.2.2).length : Int) = 0 := fun e => by rw [e] at this; cases this
   rw [zdE (by omega), bind_ok (twice_ok t)]
 obtain ⟨t3, e3, hr3⟩ := h3
 have hon2 := on_smul hP (K / 2 ^ (i + 1) + K / 2 ^ (i + 1))
 unfold zgN
 have shape : ∀ (k : Option (List UInt32 × List UInt32 × List UInt32)) (t' : F3), k = some (f3 t') → Option.bind k (fun t2 => some (Sum.inl (β := List UInt32 × List UInt32 × List UInt32) ((w64 ((i : Int) - 1)), t2.1, t2.2.1, t2.2.2))) = some (.inl ((i : Int) - 1, f3 t')) := fun k t' h => by
  rw [h, w64_i (by omega) (by omega)]; rfl
 simp only
 rw [zdE (by omega)]
 have e3' : (bif decide ((0 : Int) < ((f3 t).2.2.length : Int)) then (Option.bind (zfU (f3 t)) fun y1 => some ((y1.1, y1.2.1, y1.2.2))) else (some (((f3 t).1, (f3 t).2.1, (f3 t).2.2)))) = some (f3 t3) := e3
 by_cases hb : K / 2 ^ i % 2 = 1
 ·rw [bits_up1 hb]
  have hsum : smul (K / 2 ^ (i + 1) + K / 2 ^ (i + 1) + 1) (some (x, y)) = aadd (smul (K / 2 ^ (i + 1) + K / 2 ^ (i + 1)) (some (x, y))) (some (x, y)) := rfl
  rw [hsum]
  generalize smul (K / 2 ^ (i + 1) + K / 2 ^ (i + 1)) (some (x, y)) = Q at hr3 hon2
  by_cases hz : t3.2.2 = 0
  ·have hn := (RF_z hr3).1 hz
   refine ⟨(x, y, 1), ?_, by rw [hn, zgJ]; exact RF_of x y⟩
   refine shape _ _ ?_
   rw [bind_ok e3', bind_ok e1, bind_ok e2, e4, show decide (K / 2 ^ i % 2 ≠ 1) = false from decide_eq_false fun h => h hb, cond_false]
   show (bif (((fd t3.2.2).length : Int) == 0) then _ else _) = _
   rw [len_fd, show decide (t3.2.2 = 0) = true from decide_eq_true hz, cond_true, fd_1]; rfl
  ·obtain ⟨u, em, hu⟩ := more_ok t3 x y
   by_cases hh : moh t3 x = 0
   ·-- the same, or the opposite
    have es := sumR_ok hon2 hP
    have ee := end_ok hr3
    cases hq : aadd Q (some (x, y)) with
    | none =>
     refine ⟨(0, 0, 0), ?_, RF_0⟩
     refine shape _ _ ?_
     rw [bind_ok e3', bind_ok e1, bind_ok e2, e4, show decide (K / 2 ^ i % 2 ≠ 1) = false from decide_eq_false fun h => h hb, cond_false]
     show (bif (((fd t3.2.2).length : Int) == 0) then _ else _) = _
     rw [len_fd, show decide (t3.2.2 = 0) = false from decide_eq_false hz, cond_false, bind_ok em, show decide (moh t3 x ≠ 0) = false from decide_eq_false fun h => h hh]
     simp only [Bool.not_false, cond_true]
     rw [bind_ok ee, bind_ok es, hq]
     simp only [rq, cond_true, Option.bind_some]
     rw [fd_0]; rfl
    | some p =>
     obtain ⟨X, Y⟩ := p
     refine ⟨(X, Y, 1), ?_, RF_of X Y⟩
     refine shape _ _ ?_
     rw [bind_ok e3', bind_ok e1, bind_ok e2, e4, show decide (K / 2 ^ i % 2 ≠ 1) = false from decide_eq_false fun h => h hb, cond_false]
     show (bif (((fd t3.2.2).length : Int) == 0) then _ else _) = _
     rw [len_fd, show decide (t3.2.2 = 0) = false from decide_eq_false hz, cond_false, bind_ok em, show decide (moh t3 x ≠ 0) = false from decide_eq_false fun h => h hh]
     simp only [Bool.not_false, cond_true]
     rw [bind_ok ee, bind_ok es, hq]
     simp only [rq, cond_false, Option.bind_some]
     rw [fd_1]; rfl
   ·refine ⟨mo t3 x y, ?_, RF_mo hr3 hon2 hP hz hh⟩
    refine shape _ _ ?_
    rw [bind_ok e3', bind_ok e1, bind_ok e2, e4, show decide (K / 2 ^ i % 2 ≠ 1) = false from decide_eq_false fun h => h hb, cond_false]
    show (bif (((fd t3.2.2).length : Int) == 0) then _ else _) = _
    rw [len_fd, show decide (t3.2.2 = 0) = false from decide_eq_false hz, cond_false, bind_ok em, show decide (moh t3 x ≠ 0) = true from decide_eq_true hh, hu hh]
    rfl
 ·refine ⟨t3, ?_, by rw [bits_up0 hb]; exact hr3⟩
  refine shape _ _ ?_
  rw [bind_ok e3', bind_ok e1, bind_ok e2, e4, show decide (K / 2 ^ i % 2 ≠ 1) = true from decide_eq_true hb, cond_true]
theorem fastR_ok {P : Pt} (hP : onP P) {K : Nat} (hl : (digs K).length ≤ 1000) : ziV (rq P) (ud K) = some (rq (smul K P)) := by
 unfold ziV
 match P with
 | none => rw [smul_none]; rfl
 | some (x, y) =>
  show (bif false then _ else _) = _
  rw [cond_false]
  simp only [zeS]
  rw [w64_n (x := (16 : Int) * ((digs K).length : Int)) (n := 16 * (digs K).length) (by omega) (by omega), w64_i (x := ((16 * (digs K).length : Nat) : Int) - 1) (by omega) (by omega)]
  obtain ⟨b, hb, t, rfl, ht⟩ := zfI (body := zgN (rq (some (x, y))) (ud K)) (fun s => ∃ (k : Nat) (t : F3), s = ((k : Int) - 1, f3 t) ∧ k ≤ 16 * (digs K).length ∧ RF t (smul (K / 2 ^ k) (some (x, y)))) (fun s => (s.1 + 1).toNat)
   (fun b => ∃ t, b = f3 t ∧ RF t (smul K (some (x, y)))) (((16 * (digs K).length : Nat) : Int) - 1, ([] : List UInt32), ([] : List UInt32), ([] : List UInt32))
   ⟨16 * (digs K).length, (0, 0, 0), by rw [fd_0]; rfl, Nat.le_refl _, by rw [top_bits]; exact RF_0⟩ (by
    show ((((16 * (digs K).length : Nat) : Int) - 1) + 1).toNat < _
    omega) (by
    rintro s ⟨k, t, rfl, hk, ht⟩
    by_cases h0 : k = 0
    ·subst h0
     refine .inr ⟨f3 t, ?_, t, rfl, by simpa using ht⟩
     unfold zgN
     simp only
     rw [zdA (by omega)]
    ·obtain ⟨i, rfl⟩ := Nat.exists_eq_succ_of_ne_zero h0
     obtain ⟨t', e, h'⟩ := fast_body hP (by omega) hl ht
     rw [show ((i.succ : Nat) : Int) - 1 = (i : Int) by omega]
     refine .inl ⟨_, e, ⟨i, t', rfl, by omega, h'⟩, ?_⟩
     show (((i : Int) - 1) + 1).toNat < ((i : Int) + 1).toNat
     omega)
  rw [bind_ok (show Option.bind _ _ = some (f3 t) by rw [bind_ok hb]), bind_ok (end_ok ht)]
theorem fineR {a : Nat} (ha : a < zaE) : zlM (ud a) = some (fineB a) := by
 unfold zlM
 rw [show ([] : List UInt32) = ud 0 by unfold ud; rw [zjG]; rfl, cmp_ok (zbS (zeY ha)) (zbS (zeY zcL)), zaB, zjQ, zaB, show modN 1 = nn from rfl, cmp_ok (zbS (zeY ha)) (zbS (zeY nn_lt2)), zaB, fineB]
 rcases Nat.eq_zero_or_pos a with rfl | h
 ·rw [cmpI_e rfl]; rfl
 ·rw [cmpI_g h, cond_t (by decide), zaB, show (a != 0) = true by rw [bne_iff_ne]; omega, Bool.true_and]
  congr 1
  rcases Nat.lt_trichotomy a nn with h2 | h2 | h2
  ·rw [cmpI_l h2, show decide (a < nn) = true from decide_eq_true h2]; rfl
  ·rw [cmpI_e h2, show decide (a < nn) = false from decide_eq_false (by omega)]; rfl
  ·rw [cmpI_g h2, show decide (a < nn) = false from decide_eq_false (by omega)]; rfl
theorem baseR : r7_Base_p = some (ptW GG) := of_decide_eq_true (by kernel_rfl)
theorem pointR {k : Nat} (hk : k < zaE) : r8_Point_p (ud k) = some (rq (smul k PG)) := by
 unfold r8_Point_p
 have ha : apT (ptW GG) = GG := apT_W AL_GG
 rw [baseR, zaB, inR_ok (by rw [ha]; exact onT_GG), zaB, show ofW (ptW GG) = PG by unfold ofW; rw [ha]; rfl, fastR_ok on_PG (by have := zeY hk; show _ ≤ _; have h2 : (digs k).length < 1000 := this; omega)]
 rfl
theorem mul_p {a b : Nat} (ha : a < zaE) (hb : b < zaE) : zgH 1 (tv a) (tv b) = some (tv (a * b % nn)) := by
 unfold zgH; rw [nv_tv ha, nv_tv hb]; rfl
theorem inv_p {a : Nat} (ha : a < zaE) : zjI 1 (tv a) = some (tv (invV 1 a), invE 1 a) := by
 unfold zjI; rw [nv_tv ha]
theorem of_p {l : List UInt8} (h : l.length ≤ 68719476736) : ziM 1 l = some (tv (ofV 1 l), ofE 1 l) := by
 unfold ziM; rw [zhS (decide_eq_true (by unfold LIM; exact h))]; rfl
def eF (s : List UInt8) : Nat := bval (shaF s) % nn
theorem sum_p {s : List UInt8} (h : s.length ≤ 68719470000) : zlE s = some (tv (eF s)) := by
 unfold zlE zeZ
 rw [sum_ok4 h, zaB, zhS (decide_eq_true (by rw [shaF_len]; decide))]; rfl
theorem eF_lt (s : List UInt8) : eF s < zaE := zjL _
theorem stir_ok {v k m : List UInt8} (hv : v.length ≤ 1000000) (hk : k.length ≤ 1000000) (hm : m.length ≤ 1000000) : zcD (v, k) m = some (macF (macF k (v ++ m)) v, macF k (v ++ m)) := by
 unfold zcD
 rw [zeH (by show v.length + m.length ≤ _; omega), zaB, mac_ok4 (by show k.length ≤ _; omega) (by rw [List.length_append]; show v.length + m.length ≤ _; omega), zaB, mac_ok4 (by rw [zdO]; decide) (by show v.length ≤ _; omega), zaB]
def innerF (x0 y2 : Qw) (y13 : Qw × Int) : Option (Unit ⊕ (List UInt8 × Int)) := Option.bind (bif (y13.2 == 0) then (Option.bind (zcY) fun y14 => some (((y13.1 : Qw) != (y14 : Qw)))) else (some (false))) (fun t3 => bif t3 then (Option.bind (zfW y13.1) fun y15 => Option.bind (zcY) fun y16 => Option.bind (zgA 1 y15.1 y16) fun y17 => Option.bind (zjI 1 y13.1) fun y18 => Option.bind (zgH 1 y17 x0) fun y19 => Option.bind (zgA 1 y2 y19) fun y20 => Option.bind (zgH 1 y20 y18.1) fun y21 => Option.bind (Option.bind (zcY) fun y22 => bif ((y17 : Qw) != (y22 : Qw)) then (Option.bind (zcY) fun y23 => some (((y21 : Qw) != (y23 : Qw)))) else (some (false))) (fun t4 => bif t4 then (Option.bind (zbZ y17) fun y24 => Option.bind (zbZ y21) fun y25 => Option.bind (app y24 y25) fun y26 => some (.inr ((y26, 0)))) else (some (.inl (()))))) else (some (.inl (()))))
def sigF (d k e : Nat) : List UInt8 := be 32 (gx k % nn) ++ be 32 (th d k e)
def okB (d k e : Nat) : Bool := k != 0 && (gx k % nn != 0 && th d k e != 0)
theorem th_lt2 (d k e : Nat) : th d k e < zaE := zjL _
theorem inner_ok {d e : Nat} (hd : d < zaE) (he : e < zaE) (l : List UInt8) :
  innerF (tv d) (tv e) (tv (ofV 1 l), ofE 1 l) = some (bif ofOK 1 l && okB d (bval l) e then .inr (sigF d (bval l) e, 0) else .inl ()) := by
 unfold innerF
 cases ho : ofOK 1 l with
 | false =>
  have : ofE 1 l = 60 := by unfold ofE; rw [ho]; rfl
  rw [this]; rfl
 | true =>
  have h1 : ofE 1 l = 0 := by unfold ofE; rw [ho]; rfl
  have h2 : ofV 1 l = bval l := by unfold ofV; rw [ho]; rfl
  have hk : bval l < nn := by have := ofV_lt 1 l; rwa [h2] at this
  have hk2 : bval l < zaE := Nat.lt_trans hk nn_lt2
  rw [h1, h2]
  generalize bval l = k at hk hk2
  simp only [show ((0 : Int) == 0) = true from rfl, cond_true, zero_p, zaB, tvbne hk2 zcL, Bool.true_and]
  unfold okB
  cases k != 0 with
  | false => rfl
  | true =>
   simp only [cond_true, Bool.true_and]
   have gxl : (ptW (cmul k GG)).1 = tv (gx k) := rfl
   have gl : gx k < zaE := (ziP k GG).1
   rw [times_p hk2, zaB, gxl, add_p gl zcL, zaB, inv_p hk2, zaB, Nat.add_zero, mul_p (zjL _) hd, zaB, add_p he (zjL _), zaB, mul_p (zjL _) (invV_lt2 _ _), zaB]
   rw [tvbne (zjL _) zcL, show (e + gx k % nn * d % nn) % nn * invV 1 k % nn = th d k e from rfl, tvbne (th_lt2 d k e) zcL]
   cases gx k % nn != 0 with
   | false => rfl
   | true =>
    simp only [cond_true, zaB, Bool.true_and]
    cases th d k e != 0 with
    | false => rfl
    | true =>
     simp only [cond_true]
     rw [show zbZ (tv (gx k % nn)) = some (be 32 (gx k % nn)) by unfold zbZ; rw [nv_tv (zjL _)], zaB, show zbZ (tv (th d k e)) = some (be 32 (th d k e)) by unfold zbZ; rw [nv_tv (th_lt2 d k e)], zaB, zeH (by rw [zgY, zgY]; decide), zaB]
     rfl
abbrev Tp : Type := List UInt8 × List UInt8
def stirF (t : Tp) (m : List UInt8) : Tp := (macF (macF t.2 (t.1 ++ m)) t.1, macF t.2 (t.1 ++ m))
def nextF8 (t : Tp) : Tp := stirF (macF t.2 t.1, t.2) [0]
def tapeF (t : Tp) : Nat → Tp
 | 0 => t
 | i + 1 => nextF8 (tapeF t i)
def nonF (t : Tp) (i : Nat) : List UInt8 := macF (tapeF t i).2 (tapeF t i).1
def hitB (d e : Nat) (t : Tp) (i : Nat) : Bool := ofOK 1 (nonF t i) && okB d (bval (nonF t i)) e
def tryF (d e : Nat) (t : Tp) : Nat → Nat → Option (List UInt8)
 | _, 0 => none
 | i, n + 1 => bif hitB d e t i then some (sigF d (bval (nonF t i)) e) else tryF d e t (i + 1) n
theorem tapeF_len {t : Tp} (h1 : t.1.length = 32) (h2 : t.2.length = 32) : ∀ i, (tapeF t i).1.length = 32 ∧ (tapeF t i).2.length = 32
 | 0 => ⟨h1, h2⟩
 | i + 1 => ⟨by show (macF _ _).length = 32; exact zdO _ _, by show (macF _ _).length = 32; exact zdO _ _⟩
theorem b0_eq (x0 y2 : Qw) (s : Int × List UInt8 × List UInt8) : zgV x0 y2 s = bif decide (s.1 < 16) then (Option.bind (zeF s.2.2 s.2.1) fun y12 => Option.bind (ziM 1 y12) fun y13 => jn (innerF x0 y2 y13) (fun _ => Option.bind (zcD (y12, s.2.2) ([0] : List UInt8)) fun y27 => some (.inl ((w64 (s.1 + 1)), y27.1, y27.2))) (fun e => some (.inr (.inl (e))))) else (some (.inr (.inr ((s.2.1, s.2.2))))) := rfl
theorem b0_ok {d e : Nat} (hd : d < zaE) (he : e < zaE) {t : Tp} (h1 : t.1.length = 32) (h2 : t.2.length = 32) {i : Nat} (hi : i < 16) :
  zgV (tv d) (tv e) ((i : Int), tapeF t i) = bif hitB d e t i then some (.inr (.inl (sigF d (bval (nonF t i)) e, 0))) else some (.inl (((i + 1 : Nat) : Int), tapeF t (i + 1))) := by
 obtain ⟨l1, l2⟩ := tapeF_len h1 h2 i
 rw [b0_eq]
 simp only []
 rw [zdE (by omega), mac_ok4 (by omega) (by omega), zaB, of_p (by rw [zdO]; decide), zaB, inner_ok hd he]
 show _ = bif ofOK 1 (nonF t i) && okB d (bval (nonF t i)) e then _ else _
 rw [show macF (tapeF t i).2 (tapeF t i).1 = nonF t i from rfl]
 cases ofOK 1 (nonF t i) && okB d (bval (nonF t i)) e with
 | true => rfl
 | false =>
  simp only [cond_false]
  rw [jn_l, stir_ok (by rw [nonF, zdO]; decide) (by omega) (by decide), zaB, zjD (by omega) (by omega)]
  rfl
theorem iter_try {d e : Nat} (hd : d < zaE) (he : e < zaE) {t : Tp} (h1 : t.1.length = 32) (h2 : t.2.length = 32) : ∀ n i k : Nat, i + n = 16 → n < k →
  ∃ q, iterN (zgV (tv d) (tv e)) k ((i : Int), tapeF t i) = some (match tryF d e t i n with | some s => .inl (s, 0) | none => .inr q)
 | 0, i, k + 1, hi, _ => by
  refine ⟨((tapeF t i).1, (tapeF t i).2), ?_⟩
  rw [tryF]
  exact zkD (by rw [b0_eq, zdA (by show ¬ ((i : Int) < 16); omega)])
 | n + 1, i, k + 1, hi, hk => by
  have hb := b0_ok hd he h1 h2 (i := i) (by omega)
  rw [tryF]
  cases hh : hitB d e t i with
  | true => rw [hh] at hb; exact ⟨([], []), zkD hb⟩
  | false =>
   rw [hh] at hb
   obtain ⟨q, hq⟩ := iter_try hd he h1 h2 n (i + 1) k (by omega) (by omega)
   exact ⟨q, by rw [zjM hb]; exact hq⟩
def tape0 (d e : Nat) : Tp := stirF (stirF (Lib.repeatL [1] 32, Lib.repeatL [0] 32) ([0] ++ (be 32 d ++ be 32 e))) ([1] ++ (be 32 d ++ be 32 e))
theorem stirF_len (t : Tp) (m : List UInt8) : (stirF t m).1.length = 32 ∧ (stirF t m).2.length = 32 := ⟨zdO _ _, zdO _ _⟩
theorem stir_F {t : Tp} {m : List UInt8} (h1 : t.1.length ≤ 1000000) (h2 : t.2.length ≤ 1000000) (hm : m.length ≤ 1000000) : zcD t m = some (stirF t m) := stir_ok h1 h2 hm
theorem tape0_len (d e : Nat) : (tape0 d e).1.length = 32 ∧ (tape0 d e).2.length = 32 := by unfold tape0; exact stirF_len _ _
def endF (o : Option (List UInt8)) : List UInt8 × Int := match o with
 | some g => (g, 0)
 | none => ([], 81)
theorem loop_ok {d e : Nat} (hd : d < zaE) (he : e < zaE) {t : Tp} (h1 : t.1.length = 32) (h2 : t.2.length = 32) :
  jn (Option.bind (iter (zgV (tv d) (tv e)) ((0, t.1, t.2))) (fun e => jnO e (fun e1 => some (.inr (e1))) (fun e2 => some (.inl (e2))))) (fun _ => some ((([] : List UInt8), (81 : Int)))) (fun e => some (e)) = some (endF (tryF d e t 0 16)) := by
 obtain ⟨q, hq⟩ := iter_try hd he h1 h2 16 0 FU rfl (by decide)
 have : iter (zgV (tv d) (tv e)) ((0, t.1, t.2)) = some (match tryF d e t 0 16 with | some s => .inl (s, 0) | none => .inr q) := hq
 rw [this, zaB]
 cases tryF d e t 0 16 <;> rfl
theorem init_ok {d e : Nat} : (Option.bind (app (be 32 d) (be 32 e)) fun y5 => Option.bind (zcU ([1] : List UInt8) 32) fun y6 => Option.bind (zcU ([0] : List UInt8) 32) fun y7 => Option.bind (app ([0] : List UInt8) y5) fun y8 => Option.bind (zcD (y6, y7) y8) fun y9 => Option.bind (app ([1] : List UInt8) y5) fun y10 => zcD (y9.1, y9.2) y10) = some (tape0 d e) := by
 have lb : ∀ a, (be 32 a).length = 32 := zgY 32
 have lx : ∀ c : UInt8, ([c] ++ (be 32 d ++ be 32 e)).length = 65 := fun c => by simp [lb]
 rw [zeH (by rw [lb, lb]; decide), zaB, show zcU [1] 32 = some (Lib.repeatL [1] 32) from rfl, zaB, show zcU [0] 32 = some (Lib.repeatL [0] 32) from rfl, zaB]
 rw [zeH (by rw [← List.length_append, lx]; decide), zaB, stir_F (by decide) (by decide) (by rw [lx]; decide), zaB, zeH (by rw [← List.length_append, lx]; decide), zaB]
 have l0 := stirF_len (Lib.repeatL [1] 32, Lib.repeatL [0] 32) ([0] ++ (be 32 d ++ be 32 e))
 unfold tape0
 generalize stirF (Lib.repeatL [1] 32, Lib.repeatL [0] 32) ([0] ++ (be 32 d ++ be 32 e)) = T at l0
 exact stir_F (t := T) (by rw [l0.1]; decide) (by rw [l0.2]; decide) (by rw [lx]; decide)
theorem sign_eq (x0 : Qw) (x1 : List UInt8) : ziB x0 x1 = Option.bind (zfY x0) fun y1 => bif (!y1) then (some ((([] : List UInt8), 80))) else (Option.bind (zlE x1) fun y2 => Option.bind (zbZ x0) fun y3 => Option.bind (zbZ y2) fun y4 => Option.bind (Option.bind (app y3 y4) fun y5 => Option.bind (zcU ([1] : List UInt8) 32) fun y6 => Option.bind (zcU ([0] : List UInt8) 32) fun y7 => Option.bind (app ([0] : List UInt8) y5) fun y8 => Option.bind (zcD (y6, y7) y8) fun y9 => Option.bind (app ([1] : List UInt8) y5) fun y10 => zcD (y9.1, y9.2) y10) fun y11 => jn (Option.bind (iter (zgV x0 y2) ((0, y11.1, y11.2))) (fun e => jnO e (fun e1 => some (.inr (e1))) (fun e2 => some (.inl (e2))))) (fun t1 => some ((([] : List UInt8), 81))) (fun e => some (e))) := by
 unfold ziB
 simp only [Option.bind_assoc]
theorem sign_ok {d : Nat} (hd : d < zaE) {s : List UInt8} (hs : s.length ≤ 68719470000) :
  ziB (tv d) s = some (bif fineB d then endF (tryF d (eF s) (tape0 d (eF s)) 0 16) else ([], 80)) := by
 have he := eF_lt s
 have hl := tape0_len d (eF s)
 rw [sign_eq, fine_ok hd, zaB]
 cases hf : fineB d with
 | false => rfl
 | true =>
  rw [Bool.not_true, cond_false, cond_true, sum_p hs, zaB, show zbZ (tv d) = some (be 32 d) by unfold zbZ; rw [nv_tv hd], zaB, show zbZ (tv (eF s)) = some (be 32 (eF s)) by unfold zbZ; rw [nv_tv he], zaB, init_ok, zaB]
  exact loop_ok hd he hl.1 hl.2
theorem i8n {n : Nat} {x : Int} (h : x = (n : Int)) : (i8 x).toNat = n % 256 := by subst h; simp [i8]; omega
theorem i32n {n : Nat} {x : Int} (h : x = (n : Int)) : (i32 x).toNat = n % 4294967296 := by subst h; simp [i32]; omega
theorem i64n {n : Nat} {x : Int} (h : x = (n : Int)) : (i64 x).toNat = n % 18446744073709551616 := by subst h; simp [i64]; omega
theorem shr64n (a : Nat) {k : Nat} (hk : k ≤ 64) : shrI .u64 (a : Int) (k : Int) = ((a / 2 ^ k : Nat) : Int) := by
 unfold shrI
 rw [show min ((k : Int)).toNat IntKind.u64.bits = k by show min k 64 = k; omega]; exact fdiv_pow k
theorem shr32n (a : Nat) {k : Nat} (hk : k ≤ 32) : shrI .u32 (a : Int) (k : Int) = ((a / 2 ^ k : Nat) : Int) := by
 unfold shrI
 rw [show min ((k : Int)).toNat IntKind.u32.bits = k by show min k 32 = k; omega]; exact fdiv_pow k
theorem byF_n (x : UInt64) {i : Nat} (hi : i ≤ 8) : (byF x i).toNat = x.toNat / 2 ^ (8 * i) % 256 := by
 unfold byF
 rw [i8n rfl, i64n (shr64n x.toNat (by omega))]
 have : x.toNat / 2 ^ (8 * i) ≤ x.toNat := Nat.div_le_self _ _
 have := x.toNat_lt
 rw [Nat.mod_eq_of_lt (a := x.toNat / 2 ^ (8 * i)) (by omega)]
theorem four_n (x : UInt32) : r4_four_p x = some (beF (i64 (x.toNat : Int)) 4) := by
 unfold r4_four_p
 have hx := x.toNat_lt
 have e64 : (i64 (x.toNat : Int)).toNat = x.toNat := by rw [i64n rfl]; omega
 have b : ∀ k : Nat, k ≤ 32 → (i8 (((i32 (shrI .u32 ((x).toNat : Int) (k : Int)))).toNat : Int)).toNat = x.toNat / 2 ^ k % 256 := fun k hk => by
  rw [i8n rfl, i32n (shr32n x.toNat hk)]
  have : x.toNat / 2 ^ k ≤ x.toNat := Nat.div_le_self _ _
  rw [Nat.mod_eq_of_lt (a := x.toNat / 2 ^ k) (by omega)]
 have e : ∀ (k i : Nat), k = 8 * i → k ≤ 24 → i8 (((i32 (shrI .u32 ((x).toNat : Int) (k : Int)))).toNat : Int) = byF (i64 (x.toNat : Int)) i := fun k i h hk => by
  apply UInt8.toNat_inj.1
  rw [b k (by omega), byF_n _ (by omega), e64, h]
 have e0 : i8 ((x).toNat : Int) = byF (i64 (x.toNat : Int)) 0 := by
  apply UInt8.toNat_inj.1
  rw [i8n rfl, byF_n _ (by omega), e64]; simp
 simp only [beF]
 rw [show (24 : Int) = ((24 : Nat) : Int) from rfl, show (16 : Int) = ((16 : Nat) : Int) from rfl, show (8 : Int) = ((8 : Nat) : Int) from rfl, e 24 3 rfl (by decide), e 16 2 rfl (by decide), e 8 1 rfl (by decide), e0]
theorem beF_two (n : UInt64) : beF (i64 (((i32 (((i64 (shrI .u64 ((n).toNat : Int) 32))).toNat : Int))).toNat : Int)) 4 ++ beF (i64 (((i32 (((n &&& (4294967295 : UInt64))).toNat : Int))).toNat : Int)) 4 = beF n 8 := by
 have hn := n.toNat_lt
 have h1 : (i64 (((i32 (((i64 (shrI .u64 ((n).toNat : Int) 32))).toNat : Int))).toNat : Int)).toNat = n.toNat / 4294967296 := by
  rw [i64n rfl, i32n rfl, show (32 : Int) = ((32 : Nat) : Int) from rfl, i64n (shr64n n.toNat (by decide))]; omega
 have h2 : (i64 (((i32 (((n &&& (4294967295 : UInt64))).toNat : Int))).toNat : Int)).toNat = n.toNat % 4294967296 := by
  rw [i64n rfl, i32n rfl, UInt64.toNat_and, show (4294967295 : UInt64).toNat = 2 ^ 32 - 1 from rfl, Nat.and_two_pow_sub_one_eq_mod]; omega
 have k1 : ∀ i, i ≤ 3 → byF (i64 (((i32 (((i64 (shrI .u64 ((n).toNat : Int) 32))).toNat : Int))).toNat : Int)) i = byF n (4 + i) := fun i hi => by
  apply UInt8.toNat_inj.1
  rw [byF_n _ (by omega), byF_n _ (by omega), h1]
  rcases (by omega : i = 0 ∨ i = 1 ∨ i = 2 ∨ i = 3) with rfl | rfl | rfl | rfl <;> simp only [Nat.reduceMul, Nat.reduceAdd, Nat.reducePow] <;> omega
 have k2 : ∀ i, i ≤ 3 → byF (i64 (((i32 (((n &&& (4294967295 : UInt64))).toNat : Int))).toNat : Int)) i = byF n i := fun i hi => by
  apply UInt8.toNat_inj.1
  rw [byF_n _ (by omega), byF_n _ (by omega), h2]
  rcases (by omega : i = 0 ∨ i = 1 ∨ i = 2 ∨ i = 3) with rfl | rfl | rfl | rfl <;> simp only [Nat.reduceMul, Nat.reduceAdd, Nat.reducePow] <;> omega
 simp only [beF]
 rw [k1 3 (by decide), k1 2 (by decide), k1 1 (by decide), k1 0 (by decide), k2 3 (by decide), k2 2 (by decide), k2 1 (by decide), k2 0 (by decide)]; rfl
theorem shl32n (a : Nat) {k : Nat} (hk : k ≤ 32) : (i32 (shlI .u32 (a : Int) (k : Int))).toNat = a * 2 ^ k % 4294967296 := by
 rw [i32n (n := a * 2 ^ k % 4294967296)]
 ·exact Nat.mod_mod _ _
 ·unfold shlI
  rw [show min ((k : Int)).toNat IntKind.u32.bits = k by show min k 32 = k; omega, zbN, show (a : Int) * 2 ^ k = ((a * 2 ^ k : Nat) : Int) by simp, i32n rfl]
theorem shl64n (a : Nat) {k : Nat} (hk : k ≤ 64) : (i64 (shlI .u64 (a : Int) (k : Int))).toNat = a * 2 ^ k % 18446744073709551616 := by
 rw [i64n (n := a * 2 ^ k % 18446744073709551616)]
 ·exact Nat.mod_mod _ _
 ·unfold shlI
  rw [show min ((k : Int)).toNat IntKind.u64.bits = k by show min k 64 = k; omega, zbT, show (a : Int) * 2 ^ k = ((a * 2 ^ k : Nat) : Int) by simp, i64n rfl]
theorem or_add (k : Nat) {a b : Nat} (h : b < 2 ^ k) : a * 2 ^ k ||| b = a * 2 ^ k + b := by rw [Nat.mul_comm]; exact (Nat.two_pow_add_eq_or_of_lt h a).symm
theorem zgC (s : UInt64) (b : UInt8) (h : s.toNat < 2 ^ 56) : ((i64 (shlI .u64 (s.toNat : Int) 8)) ||| (i64 (b.toNat : Int))).toNat = s.toNat * 256 + b.toNat := by
 have hb := b.toNat_lt
 rw [UInt64.toNat_or, show (8 : Int) = ((8 : Nat) : Int) from rfl, shl64n _ (by decide), i64n rfl, Nat.mod_eq_of_lt (a := s.toNat * 2 ^ 8) (by omega), Nat.mod_eq_of_lt (a := b.toNat) (by omega), or_add 8 (by omega)]
theorem word_ok (a b c d : UInt8) : ((((i32 (shlI .u32 (((i32 ((a).toNat : Int))).toNat : Int) 24)) ||| (i32 (shlI .u32 (((i32 ((b).toNat : Int))).toNat : Int) 16))) ||| (i32 (shlI .u32 (((i32 ((c).toNat : Int))).toNat : Int) 8))) ||| (i32 ((d).toNat : Int))) = i32 (((valF [a, b, c, d]).toNat : Int)) := by
 have ha := a.toNat_lt; have hb := b.toNat_lt; have hc := c.toNat_lt; have hd := d.toNat_lt
 apply UInt32.toNat_inj.1
 have h0 : ∀ x : UInt8, (i32 ((x).toNat : Int)).toNat = x.toNat := fun x => by have := x.toNat_lt; rw [i32n rfl]; omega
 rw [UInt32.toNat_or, UInt32.toNat_or, UInt32.toNat_or, show (24 : Int) = ((24 : Nat) : Int) from rfl, show (16 : Int) = ((16 : Nat) : Int) from rfl, show (8 : Int) = ((8 : Nat) : Int) from rfl, shl32n _ (by decide), shl32n _ (by decide), shl32n _ (by decide), h0, h0, h0, h0, i32n rfl]
 have e1 : (valF [a, b, c, d]).toNat = ((a.toNat * 256 + b.toNat) * 256 + c.toNat) * 256 + d.toNat := by
  unfold valF
  simp only [List.foldl_cons, List.foldl_nil]
  have z : (0 : UInt64).toNat = 0 := rfl
  rw [zgC _ d (by rw [zgC _ c (by rw [zgC _ b (by rw [zgC _ a (by rw [z]; decide), z]; omega), zgC _ a (by rw [z]; decide), z]; omega), zgC _ b (by rw [zgC _ a (by rw [z]; decide), z]; omega), zgC _ a (by rw [z]; decide), z]; omega), zgC _ c (by rw [zgC _ b (by rw [zgC _ a (by rw [z]; decide), z]; omega), zgC _ a (by rw [z]; decide), z]; omega), zgC _ b (by rw [zgC _ a (by rw [z]; decide), z]; omega), zgC _ a (by rw [z]; decide), z]; omega
 rw [e1, Nat.mod_eq_of_lt (a := a.toNat * 2 ^ 24) (by omega), Nat.mod_eq_of_lt (a := b.toNat * 2 ^ 16) (by omega), Nat.mod_eq_of_lt (a := c.toNat * 2 ^ 8) (by omega)]
 rw [or_add 24 (b := b.toNat * 2 ^ 16) (by omega), show a.toNat * 2 ^ 24 + b.toNat * 2 ^ 16 = (a.toNat * 2 ^ 8 + b.toNat) * 2 ^ 16 by omega, or_add 16 (b := c.toNat * 2 ^ 8) (by omega), show (a.toNat * 2 ^ 8 + b.toNat) * 2 ^ 16 + c.toNat * 2 ^ 8 = ((a.toNat * 2 ^ 8 + b.toNat) * 2 ^ 8 + c.toNat) * 2 ^ 8 by omega, or_add 8 (by omega)]
 omega
def l8 (s : St8) : List UInt32 := [s.1, s.2.1, s.2.2.1, s.2.2.2.1, s.2.2.2.2.1, s.2.2.2.2.2.1, s.2.2.2.2.2.2.1, s.2.2.2.2.2.2.2]
theorem setL32_ok {l : List UInt32} {k : Nat} {u : UInt32} (h : k < l.length) : setL l (k : Int) u = some (l.set k u) := by
 unfold setL
 rw [show (decide (0 ≤ (k : Int)) && decide ((k : Int) < (l.length : Int))) = true by simp; exact h]; rfl
theorem rorR (x : UInt32) (n : Nat) (hn : n ≤ 32) : zeC x (n : Int) = some (rr x n) := by
 unfold zeC
 have e : w64 ((32 : Int) - (n : Int)) = ((32 - n : Nat) : Int) := by rw [zjD (by omega) (by omega)]; omega
 rw [zhS (decide_eq_true (by omega)), zaB, e, zhS (decide_eq_true (by omega)), zaB, rr, UInt32.or_comm]
theorem R_b3 {b : List UInt8} {j : Nat} (h : 64 * (j + 1) ≤ b.length) (hl : b.length ≤ 68719476736) (s : List UInt32) :
  iter (r4_sum_b3 b (((64 * j : Nat) : Int), s)) (0, List.replicate 64 (0 : UInt32)) = some (W1 ((b.drop (64 * j)).take 64) 16).l := by
 refine zcS (fun k => ((k : Int), (W1 ((b.drop (64 * j)).take 64) k).l)) 16 (by decide) _ (fun k hk => ?_) ?_
 ·unfold r4_sum_b3
  have e1 : w64 ((4 : Int) * (k : Int)) = ((4 * k : Nat) : Int) := zjD (by omega) (by omega)
  have e2 : w64 (((64 * j : Nat) : Int) + ((4 * k : Nat) : Int)) = ((64 * j + 4 * k : Nat) : Int) := by rw [zjD (by omega) (by omega)]; omega
  have e3 : ∀ c : Nat, c ≤ 3 → w64 (((64 * j + 4 * k : Nat) : Int) + (c : Int)) = ((64 * j + 4 * k + c : Nat) : Int) := fun c hc => by rw [zjD (by omega) (by omega)]; omega
  have hw := (W1 ((b.drop (64 * j)).take 64) k).h
  rw [zdE (by omega)]
  simp only [e1, e2]
  rw [show (1 : Int) = ((1 : Nat) : Int) from rfl, show (2 : Int) = ((2 : Nat) : Int) from rfl, show (3 : Int) = ((3 : Nat) : Int) from rfl, e3 1 (by decide), e3 2 (by decide), e3 3 (by decide)]
  rw [idx_ok (l := b) rfl (by omega), zaB, idx_ok (l := b) rfl (by omega), zaB, idx_ok (l := b) rfl (by omega), zaB, idx_ok (l := b) rfl (by omega), zaB, zhO rfl (by omega), zaB, setL32_ok (by rw [hw]; omega), zaB, word_ok, show ((1 : Nat) : Int) = 1 from rfl, w64s k (by omega)]
  have hd : (((b.drop (64 * j)).take 64).take (4 * k + 4)).drop (4 * k) = [b[64 * j + 4 * k]'(by omega), b[64 * j + 4 * k + 1]'(by omega), b[64 * j + 4 * k + 2]'(by omega), b[64 * j + 4 * k + 3]'(by omega)] := by
   apply List.ext_getElem
   ·simp only [List.length_drop, List.length_take, List.length_cons, List.length_nil]; omega
   ·intro i h1 h2
    simp only [List.length_cons, List.length_nil] at h2
    rcases (by omega : i = 0 ∨ i = 1 ∨ i = 2 ∨ i = 3) with rfl | rfl | rfl | rfl <;> simp [List.getElem_drop, List.getElem_take, Nat.add_assoc]
  simp only [W1, hd, vset]
 ·unfold r4_sum_b3
  rw [zdA (by omega)]
theorem R_b4 (w : Vec UInt32 64) : iter r4_sum_b4 (16, w.l) = some (W2 w 48).l := by
 refine zcS (fun k => (((16 + k : Nat) : Int), (W2 w k).l)) 48 (by decide) _ (fun k hk => ?_) ?_
 ·unfold r4_sum_b4
  have e : ∀ (a : Int) (b : Nat), a = (b : Int) → b < 64 → w64 a = (b : Int) := fun a b e h => by rw [e]; exact w64n (by omega)
  have hw := (W2 w k).h
  rw [zdE (by omega)]
  simp only [e (((16 + k : Nat) : Int) - 15) (k + 1) (by omega) (by omega), e (((16 + k : Nat) : Int) - 2) (k + 14) (by omega) (by omega), e (((16 + k : Nat) : Int) - 16) k (by omega) (by omega), e (((16 + k : Nat) : Int) - 7) (k + 9) (by omega) (by omega)]
  simp only [zhO (x := W2 w k) (i := k + 1) rfl (by omega), zhO (x := W2 w k) (i := k + 14) rfl (by omega), zhO (x := W2 w k) (i := k) rfl (by omega), zhO (x := W2 w k) (i := k + 9) rfl (by omega), zhO (x := W2 w k) (i := 16 + k) rfl (by omega), zaB]
  rw [show (7 : Int) = ((7 : Nat) : Int) from rfl, show (18 : Int) = ((18 : Nat) : Int) from rfl, show (17 : Int) = ((17 : Nat) : Int) from rfl, show (19 : Int) = ((19 : Nat) : Int) from rfl, rorR _ 7 (by decide), zaB, rorR _ 18 (by decide), zaB, rorR _ 17 (by decide), zaB, rorR _ 19 (by decide), zaB, setL32_ok (by rw [hw]; omega), zaB, w64s (16 + k) (by omega)]
  rfl
 ·unfold r4_sum_b4
  rw [zdA (by omega)]
theorem R_b5 (K w : Vec UInt32 64) (s : St8) : iter (r4_sum_b5 K.l w.l) (l8 s, 0) = some (l8 (R3 K w s 64)) := by
 refine zcS (fun k => (l8 (R3 K w s k), (k : Int))) 64 (by decide) _ (fun k hk => ?_) ?_
 ·unfold r4_sum_b5
  rw [zdE (by omega)]
  have i0 : ∀ t : St8, idx (l8 t) 0 = some t.1 := fun _ => rfl
  have i1 : ∀ t : St8, idx (l8 t) 1 = some t.2.1 := fun _ => rfl
  have i2 : ∀ t : St8, idx (l8 t) 2 = some t.2.2.1 := fun _ => rfl
  have i3 : ∀ t : St8, idx (l8 t) 3 = some t.2.2.2.1 := fun _ => rfl
  have i4 : ∀ t : St8, idx (l8 t) 4 = some t.2.2.2.2.1 := fun _ => rfl
  have i5 : ∀ t : St8, idx (l8 t) 5 = some t.2.2.2.2.2.1 := fun _ => rfl
  have i6 : ∀ t : St8, idx (l8 t) 6 = some t.2.2.2.2.2.2.1 := fun _ => rfl
  have i7 : ∀ t : St8, idx (l8 t) 7 = some t.2.2.2.2.2.2.2 := fun _ => rfl
  have r6 : ∀ x, zeC x 6 = some (rr x 6) := fun x => rorR x 6 (by decide)
  have r11 : ∀ x, zeC x 11 = some (rr x 11) := fun x => rorR x 11 (by decide)
  have r25 : ∀ x, zeC x 25 = some (rr x 25) := fun x => rorR x 25 (by decide)
  have r2 : ∀ x, zeC x 2 = some (rr x 2) := fun x => rorR x 2 (by decide)
  have r13 : ∀ x, zeC x 13 = some (rr x 13) := fun x => rorR x 13 (by decide)
  have r22 : ∀ x, zeC x 22 = some (rr x 22) := fun x => rorR x 22 (by decide)
  simp only [i0, i1, i2, i3, i4, i5, i6, i7, r6, r11, r25, r2, r13, r22, zaB, zhO (x := K) (i := k) rfl hk, zhO (x := w) (i := k) rfl hk]
  rw [w64s k (by omega)]
  rfl
 ·unfold r4_sum_b5
  rw [zdA (by omega)]
theorem ad8_comm (a b : UInt32) : ad8 a b = ad8 b a := by unfold ad8; rw [Int.add_comm]
def pt8' (v s : St8) (k : Nat) : St8 := (if 0 < k then ad8 s.1 v.1 else s.1, if 1 < k then ad8 s.2.1 v.2.1 else s.2.1, if 2 < k then ad8 s.2.2.1 v.2.2.1 else s.2.2.1, if 3 < k then ad8 s.2.2.2.1 v.2.2.2.1 else s.2.2.2.1, if 4 < k then ad8 s.2.2.2.2.1 v.2.2.2.2.1 else s.2.2.2.2.1, if 5 < k then ad8 s.2.2.2.2.2.1 v.2.2.2.2.2.1 else s.2.2.2.2.2.1, if 6 < k then ad8 s.2.2.2.2.2.2.1 v.2.2.2.2.2.2.1 else s.2.2.2.2.2.2.1, if 7 < k then ad8 s.2.2.2.2.2.2.2 v.2.2.2.2.2.2.2 else s.2.2.2.2.2.2.2)
theorem R_b6 (v s : St8) : iter (r4_sum_b6 (l8 v)) (0, l8 s) = some (l8 (add8 v s)) := by
 have : l8 (add8 v s) = l8 (pt8' v s 8) := by simp only [add8, ad8_comm v.1, ad8_comm v.2.1, ad8_comm v.2.2.1, ad8_comm v.2.2.2.1, ad8_comm v.2.2.2.2.1, ad8_comm v.2.2.2.2.2.1, ad8_comm v.2.2.2.2.2.2.1, ad8_comm v.2.2.2.2.2.2.2]; rfl
 rw [this]
 refine zcS (fun k => ((k : Int), l8 (pt8' v s k))) 8 (by decide) _ (fun k hk => ?_) ?_
 ·rcases (by omega : k = 0 ∨ k = 1 ∨ k = 2 ∨ k = 3 ∨ k = 4 ∨ k = 5 ∨ k = 6 ∨ k = 7) with rfl | rfl | rfl | rfl | rfl | rfl | rfl | rfl <;> rfl
 ·rfl
theorem R_b2 (K : Vec UInt32 64) {b : List UInt8} (h : b.length % 64 = 0) (hl : b.length ≤ 68719476736) :
  iter (r4_sum_b2 K.l b) (0, l8 ini8) = some (l8 (zhN K b (b.length / 64))) := by
 refine zcS (fun k => (((64 * k : Nat) : Int), l8 (zhN K b k))) (b.length / 64) (by omega) _ (fun k hk => ?_) ?_
 ·unfold r4_sum_b2
  have hz : mkL 64 (0 : UInt32) = some (List.replicate 64 0) := mkL_ok (n := 64) (by decide)
  have ha : app ([] : List UInt32) (l8 (zhN K b k)) = some (l8 (zhN K b k)) := zeH (a := []) (by simp [l8])
  rw [zdE (by omega)]
  simp only []
  rw [hz, zaB, R_b3 (by omega) hl, zaB, zaB, R_b4, zaB, zaB, ha, zaB, R_b5, zaB, zaB, R_b6, zaB, zaB, zjD (by omega) (by omega)]
  rw [show ((64 * k : Nat) : Int) + 64 = ((64 * (k + 1) : Nat) : Int) by omega]
  rfl
 ·unfold r4_sum_b2
  rw [zdA (by omega)]
theorem R_b7 (s : St8) : iter (r4_sum_b7 (l8 s)) (0, ([] : List UInt8)) = some (outF s) := by
 rw [← outF_eq]
 refine zcS (fun k => ((k : Int), outN s k)) 8 (by decide) _ (fun k hk => ?_) ?_
 ·unfold r4_sum_b7
  have e : idx (l8 s) (k : Int) = some (at8 s k) := by
   rcases (by omega : k = 0 ∨ k = 1 ∨ k = 2 ∨ k = 3 ∨ k = 4 ∨ k = 5 ∨ k = 6 ∨ k = 7) with rfl | rfl | rfl | rfl | rfl | rfl | rfl | rfl <;> rfl
  rw [zdE (by omega), e, zaB, four_n, zaB, zeH (by rw [outN_len, beF_len]; omega), zaB, w64s k (by omega)]
  rfl
 ·unfold r4_sum_b7
  rw [zdA (by omega)]
theorem R_ini : (Option.bind (r4_Primes_p 8) fun y8 => iter (r4_sum_b1 y8) ((0, List.replicate 8 (0 : UInt32)))) = some (l8 ini8) := of_decide_eq_true (by kernel_rfl)
def prL : List UInt64 := [2, 3, 5, 7, 11, 13, 17, 19, 23, 29, 31, 37, 41, 43, 47, 53, 59, 61, 67, 71, 73, 79, 83, 89, 97, 101, 103, 107, 109, 113, 127, 131, 137, 139, 149, 151, 157, 163, 167, 173, 179, 181, 191, 193, 197, 199, 211, 223, 227, 229, 233, 239, 241, 251, 257, 263, 269, 271, 277, 281, 283, 293, 307, 311]
theorem R_pr : r4_Primes_p 64 = some prL := of_decide_eq_true (by kernel_rfl)
def rkB (a : Nat) : Bool := (List.range 8).all fun i => r4_Root_p (prL.getD (a + i) 0) 3 == some (keysF.l.getD (a + i) 0)
theorem rk0 : rkB (8 * 0) = true := by kernel_rfl
theorem rk1 : rkB (8 * 1) = true := by kernel_rfl
theorem rk2 : rkB (8 * 2) = true := by kernel_rfl
theorem rk3 : rkB (8 * 3) = true := by kernel_rfl
theorem rk4 : rkB (8 * 4) = true := by kernel_rfl
theorem rk5 : rkB (8 * 5) = true := by kernel_rfl
theorem rk6 : rkB (8 * 6) = true := by kernel_rfl
theorem rk7 : rkB (8 * 7) = true := by kernel_rfl
theorem R_root {i : Nat} (h : i < 64) : r4_Root_p (prL.getD i 0) 3 = some (keysF.l.getD i 0) := by
 have key : ∀ a j, rkB a = true → j < 8 → r4_Root_p (prL.getD (a + j) 0) 3 = some (keysF.l.getD (a + j) 0) := fun a j ha hj =>
  eq_of_beq (List.all_eq_true.1 ha j (List.mem_range.2 hj))
 have e : i = 8 * (i / 8) + i % 8 := by omega
 rw [e]
 refine key _ _ ?_ (Nat.mod_lt _ (by decide))
 rcases (by omega : i / 8 = 0 ∨ i / 8 = 1 ∨ i / 8 = 2 ∨ i / 8 = 3 ∨ i / 8 = 4 ∨ i / 8 = 5 ∨ i / 8 = 6 ∨ i / 8 = 7) with h | h | h | h | h | h | h | h <;> rw [h]
 ·exact rk0
 ·exact rk1
 ·exact rk2
 ·exact rk3
 ·exact rk4
 ·exact rk5
 ·exact rk6
 ·exact rk7
theorem R_keys : r4_Keys_p = some keysF.l := by
 unfold r4_Keys_p
 have hl : keysF.l.length = 64 := keysF.h
 have hp : prL.length = 64 := rfl
 have key : iter (r4_Keys_b0 prL) (0, ([] : List UInt32)) = some keysF.l := by
  refine zcS (fun k => ((k : Int), keysF.l.take k)) 64 (by decide) _ (fun k hk => ?_) ?_
  ·unfold r4_Keys_b0
   have h1 := R_root hk
   rw [List.getD_eq_getElem?_getD, List.getElem?_eq_getElem (by omega), List.getD_eq_getElem?_getD, List.getElem?_eq_getElem (by omega), Option.getD_some, Option.getD_some] at h1
   rw [zdE (by omega), idx_ok rfl (by omega), zaB, h1, zaB, zeH (by rw [List.length_take, List.length_cons, List.length_nil]; omega), zaB, w64s k (by omega), take_succ (by omega)]
  ·unfold r4_Keys_b0
   rw [zdA (by omega), List.take_of_length_le (by omega)]
 rw [R_pr, zaB, key]; rfl
theorem sumR4 {l : List UInt8} (h : l.length ≤ 68719470000) : r4_sum_p l keysF.l = some (shaF l) := by
 unfold r4_sum_p
 have hp : iter r4_sum_b0 (l ++ [128]) = some (bodyF l) := pad_ok h
 have hb := bodyF_le l
 have hz : mkL 8 (0 : UInt32) = some (List.replicate 8 0) := mkL_ok (n := 8) (by decide)
 obtain ⟨pr, h8, hi⟩ := Option.bind_eq_some_iff.1 R_ini
 rw [zeH (by rw [List.length_cons, List.length_nil]; omega), zaB, hp, zaB, zaB, four_n, zaB, zeH (by rw [beF_len]; omega), zaB, four_n, zaB, zeH (by rw [List.length_append, beF_len, beF_len]; omega), zaB, List.append_assoc, beF_two, hz, zaB, h8, zaB, hi, zaB, zaB]
 rw [show bodyF l ++ beF (i64 ((8 : Int) * (((i64 ((l.length : Int)))).toNat : Int))) 8 = msgF l from rfl, R_b2 keysF (msgF_len l) (by have := msgF_le l; omega), zaB, zaB, R_b7]
 rfl
theorem sumR {l : List UInt8} (h : l.length ≤ 68719470000) : r4_Sum_p l = some (shaF l) := by
 unfold r4_Sum_p
 rw [R_keys, zaB, sumR4 h]; rfl
def padX (x : UInt8) (l : List UInt8) : Nat → List UInt8
 | 0 => l
 | k + 1 => (padX x l k).set k ((padX x l k).getD k 0 ^^^ x)
theorem padX_len (x : UInt8) (l : List UInt8) : ∀ k, (padX x l k).length = l.length
 | 0 => rfl
 | k + 1 => by rw [padX, List.length_set, padX_len x l k]
theorem padX_at (x : UInt8) (l : List UInt8) (i : Nat) (hi : i < l.length) : ∀ k, (padX x l k).getD i 0 = if i < k then l.getD i 0 ^^^ x else l.getD i 0
 | 0 => by simp [padX]
 | k + 1 => by
  have hl := padX_len x l k
  rw [padX, List.getD_eq_getElem?_getD, List.getElem?_set]
  by_cases h : k = i
  ·subst h
   have := padX_at x l k hi k
   rw [if_neg (by omega)] at this
   rw [if_pos rfl, if_pos (by omega), if_pos (by omega), Option.getD_some, this]
  ·rw [if_neg h, ← List.getD_eq_getElem?_getD, padX_at x l i hi k]
   by_cases h2 : i < k
   ·rw [if_pos h2, if_pos (by omega)]
   ·rw [if_neg h2, if_neg (by omega)]
theorem overF_at (c : UInt8) (key : List UInt8) (i : Nat) (hi : i < 64) : ∀ k, (zjR c key k).getD i 0 = if i < k then c ^^^ key.getD i 0 else c
 | 0 => by
  rw [zjR, List.getD_eq_getElem?_getD, List.getElem?_replicate, if_pos hi, if_neg (Nat.not_lt_zero i)]; rfl
 | k + 1 => by
  have hl := ziO c key k
  rw [zjR, List.getD_eq_getElem?_getD, List.getElem?_set]
  by_cases h : k = i
  ·subst h
   have := overF_at c key k hi k
   rw [if_neg (by omega)] at this
   rw [if_pos rfl, if_pos (by omega), if_pos (by omega), Option.getD_some, this]
  ·rw [if_neg h, ← List.getD_eq_getElem?_getD, overF_at c key i hi k]
   by_cases h2 : i < k
   ·rw [if_pos h2, if_pos (by omega)]
   ·rw [if_neg h2, if_neg (by omega)]
theorem pad_over (c : UInt8) (key : List UInt8) (hk : key.length ≤ 64) : padX c (key ++ List.replicate (64 - key.length) 0) 64 = zjR c key key.length := by
 have hl : (key ++ List.replicate (64 - key.length) (0 : UInt8)).length = 64 := by simp; omega
 have h1 := padX_len c (key ++ List.replicate (64 - key.length) (0 : UInt8)) 64
 have h2 := ziO c key key.length
 apply List.ext_getElem (by rw [h1, h2, hl])
 intro i hi hi2
 rw [h1, hl] at hi
 have e1 := padX_at c (key ++ List.replicate (64 - key.length) (0 : UInt8)) i (by omega) 64
 have e2 := overF_at c key i hi key.length
 rw [List.getD_eq_getElem?_getD, List.getElem?_eq_getElem (by omega), Option.getD_some, if_pos hi] at e1
 rw [List.getD_eq_getElem?_getD, List.getElem?_eq_getElem (by omega), Option.getD_some] at e2
 rw [e1, e2]
 by_cases h : i < key.length
 ·rw [if_pos h, List.getD_eq_getElem?_getD, List.getElem?_append_left h, ← List.getD_eq_getElem?_getD, UInt8.xor_comm]
 ·rw [if_neg h, List.getD_eq_getElem?_getD, List.getElem?_append_right (by omega), List.getElem?_replicate, if_pos (by omega), Option.getD_some]
  simp
theorem paddedR {key : List UInt8} {x : UInt8} (h : key.length ≤ 68719470000) : r4_padded_p key x keysF.l = some (zjR x (keyF key) (keyF key).length) := by
 unfold r4_padded_p
 have hk := keyF_len key
 have e : (bif decide ((64 : Int) < ((key).length : Int)) then (Option.bind (r4_sum_p key keysF.l) fun y1 => some (y1)) else (some (key))) = some (keyF key) := by
  unfold keyF
  by_cases h2 : 64 < key.length
  ·rw [zdE (by omega), zdE h2, sumR4 h]; rfl
  ·rw [zdA (by omega), zdA h2]
 have h0 : iter zkC (keyF key) = some (keyF key ++ List.replicate (64 - (keyF key).length) 0) := by
  have := zcS (body := zkC) (fun k => keyF key ++ List.replicate k (0 : UInt8)) (64 - (keyF key).length) (by omega) (keyF key ++ List.replicate (64 - (keyF key).length) 0) (fun k hk2 => by
   unfold zkC
   have hl : (keyF key ++ List.replicate k (0 : UInt8)).length = (keyF key).length + k := by simp
   rw [hl, zdE (by omega), zeH (by rw [hl, List.length_cons, List.length_nil]; omega), zaB, List.append_assoc, ← List.replicate_succ']) (by
   unfold zkC
   rw [zdA (by simp; omega)])
  simpa using this
 rw [e, zaB, h0, zaB, zaB]
 have hl : (keyF key ++ List.replicate (64 - (keyF key).length) (0 : UInt8)).length = 64 := by simp; omega
 rw [← pad_over x (keyF key) hk]
 generalize keyF key ++ List.replicate (64 - (keyF key).length) (0 : UInt8) = L at hl
 have h1 : iter (r4_padded_b1 x) (0, L) = some (padX x L 64) := by
  refine zcS (fun k => ((k : Int), padX x L k)) 64 (by decide) _ (fun k hk2 => ?_) ?_
  ·unfold r4_padded_b1
   have hp : k < (padX x L k).length := by rw [padX_len]; omega
   rw [zdE (by omega)]
   simp only []
   rw [idxD hp, zaB, zaB, setL8_ok hp, zaB, w64s k (by omega)]
   rfl
  ·unfold r4_padded_b1
   rw [zdA (by omega)]
 rw [h1]; rfl
theorem macR {key s : List UInt8} (hk : key.length ≤ 68719470000) (hs : s.length ≤ 68719460000) : zfF key s = some (macF key s) := by
 unfold zfF r4_mac_p
 have l2 := ziO 92 (keyF key) (keyF key).length
 have l1 := ziO 54 (keyF key) (keyF key).length
 have hi : (zjR 54 (keyF key) (keyF key).length ++ s).length ≤ 68719470000 := by rw [List.length_append, l1]; omega
 have ho : (zjR 92 (keyF key) (keyF key).length ++ shaF (zjR 54 (keyF key) (keyF key).length ++ s)).length ≤ 68719470000 := by rw [List.length_append, l2, shaF_len]; omega
 rw [R_keys, zaB, paddedR hk, zaB, paddedR hk, zaB, zeH (by rw [← List.length_append]; omega), zaB, sumR4 hi, zaB, zeH (by rw [← List.length_append]; omega), zaB, sumR4 ho]
 rfl
end Go.Proofs.YtmbcolbbekbccaaGreat
