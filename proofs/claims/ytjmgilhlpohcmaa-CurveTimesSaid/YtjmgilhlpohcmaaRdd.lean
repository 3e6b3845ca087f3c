/- Digits of sixteen bits in lists of 32-bit words: plain laws of what the document reckons. Digits: sums, differences, products as the document reckons them: plain laws. Digits: what is left of a division, and what is reckoned modulo the primes: plain laws. Digits: numbers of four words, and bytes, there and back: plain laws. Conditions: as each theorem says. -/
import Derived.Test.YtjmgilhlpohcmaaRfB
import Derived.Test.YtjmgilhlpohcmaaPlb
import Derived.Test.YtjmgilhlpohcmaaDgd
import Derived.Test.YtjmgilhlpohcmaaInv
namespace Go.Proofs.Ytjmgilhlpohcmaa
section
open Go Go.RowKit
def um (l : List Nat) : List UInt32 := l.map UInt32.ofNat
theorem um_len (l : List Nat) : (um l).length = l.length := by simp [um]
theorem un {d : Nat} (h : d < 4294967296) : (UInt32.ofNat d).toNat = d := by simp [UInt32.toNat_ofNat']; omega
theorem un16 {d : Nat} (h : d < 65536) : (UInt32.ofNat d).toNat = d := un (by omega)
theorem um_get {l : List Nat} {i d : Nat} (h : l[i]? = some d) : (um l)[i]? = some (UInt32.ofNat d) := by simp [um, h]
theorem idx_um {l : List Nat} {i d : Nat} {j : Int} (hj : j = (i : Int)) (h : l[i]? = some d) : idx (um l) j = some (UInt32.ofNat d) := by subst hj; rw [idx_nat]; exact um_get h
theorem um_set (l : List Nat) (i d : Nat) : (um l).set i (UInt32.ofNat d) = um (l.set i d) := by simp [um, List.map_set]
theorem setL_ok {α : Type} {l : List α} {i : Nat} {j : Int} {x : α} (hj : j = (i : Int)) (h : i < l.length) : setL l j x = some (l.set i x) := by
  subst hj
  have h1 : decide (0 ≤ (i : Int)) = true := by simp
  have h2 : decide ((i : Int) < (l.length : Int)) = true := by simpa using h
  simp only [setL, h1, h2, Bool.and_self, cond_true, Int.toNat_natCast]
theorem setL_um {l : List Nat} {i d : Nat} {j : Int} (hj : j = (i : Int)) (h : i < l.length) : setL (um l) j (UInt32.ofNat d) = some (um (l.set i d)) := by
  rw [setL_ok hj (by rw [um_len]; exact h), um_set]
theorem um_take (l : List Nat) (n : Nat) : (um l).take n = um (l.take n) := by simp [um, List.map_take]
theorem subH_um {l : List Nat} {n : Nat} {j : Int} (hj : j = (n : Int)) (h : n ≤ l.length) : subH (um l) j = some (um (l.take n)) := by
  subst hj; rw [subH_ok (by rw [um_len]; exact h), um_take]
theorem app_um {l : List Nat} {d : Nat} (h : l.length + 1 ≤ 68719476736) : app (um l) [UInt32.ofNat d] = some (um (l ++ [d])) := by
  rw [app_ok (by rw [um_len]; exact h)]; simp [um]
theorem um_rep (n : Nat) : List.replicate n (0 : UInt32) = um (fl (fun _ => 0) n) := by simp [um, fl, List.map_const']
theorem i32_n (n : Nat) : i32 (n : Int) = UInt32.ofNat n := by
  apply UInt32.toNat_inj.1
  rw [i32]; simp [UInt32.toNat_ofNat']; omega
theorem i64_n (n : Nat) : i64 (n : Int) = UInt64.ofNat n := by
  apply UInt64.toNat_inj.1
  rw [i64]; simp [UInt64.toNat_ofNat']; omega
theorem un64 {d : Nat} (h : d < 18446744073709551616) : (UInt64.ofNat d).toNat = d := by simp [UInt64.toNat_ofNat']; omega
theorem and16_32 {n : Nat} (h : n < 4294967296) : UInt32.ofNat n &&& 65535 = UInt32.ofNat (n % 65536) := by
  apply UInt32.toNat_inj.1
  rw [UInt32.toNat_and, un h, un (by omega)]
  exact Nat.and_two_pow_sub_one_eq_mod n 16
theorem and16_64 {n : Nat} (h : n < 18446744073709551616) : UInt64.ofNat n &&& 65535 = UInt64.ofNat (n % 65536) := by
  apply UInt64.toNat_inj.1
  rw [UInt64.toNat_and, un64 h, un64 (by omega)]
  exact Nat.and_two_pow_sub_one_eq_mod n 16
theorem shr_n {k : IntKind} {n b : Nat} (hb : b ≤ k.bits) : shrI k (n : Int) (b : Int) = ((n / 2 ^ b : Nat) : Int) := by
  unfold shrI
  rw [Int.toNat_natCast, Nat.min_eq_left hb]; exact fdiv_pow b
theorem w64_n {n : Nat} {x : Int} (hx : x = (n : Int)) (h : n < 9223372036854775808) : w64 x = (n : Int) := by subst hx; exact w64_of (by omega) (by omega)
theorem w64_i {x : Int} (h : -9223372036854775808 ≤ x) (h2 : x < 9223372036854775808) : w64 x = x := w64_of h (by omega)
/-- The digits of a number. -/
abbrev ud (n : Nat) : List UInt32 := um (digs n)
abbrev lim (l : List Nat) : Prop := l.length ≤ 1099511627
theorem trim_step' {l : List Nat} (hl : lim l) {n : Nat} (hn : n ≤ l.length) (h0 : 0 < n) {d : Nat} (hd : l[n - 1]? = some d) (hD : DL l) :
    seneschalref06_trim_b0 (um l) (n : Int) = some (bif d == 0 then .inl ((n - 1 : Nat) : Int) else .inr (n : Int)) := by
  have hdl := hD.get hd
  unfold seneschalref06_trim_b0
  rw [dec_t (by omega : (0 : Int) < (n : Int)), w64_n (n := n - 1) (by omega) (by omega), idx_um rfl hd]
  simp only [Option.bind_some, un16 hdl]
  by_cases hz : d = 0
  · subst hz; simp
  · have h1 : ((d : Int) == 0) = false := by rw [beq_false_of_ne]; omega
    have h2 : (d == 0) = false := by simpa using hz
    simp only [h1, h2, cond_false]
theorem trim_ok {l : List Nat} (hl : lim l) (hD : DL l) : seneschalref06_trim_p (um l) = some (ud (dval l)) := by
  unfold seneschalref06_trim_p
  obtain ⟨b, hb, n, rfl, hn, hz, ht⟩ := iter_ind (body := seneschalref06_trim_b0 (um l)) (fun s => ∃ n : Nat, s = (n : Int) ∧ n ≤ l.length ∧ ∀ i d, n ≤ i → l[i]? = some d → d = 0) (fun s => s.toNat)
    (fun b => ∃ n : Nat, b = (n : Int) ∧ n ≤ l.length ∧ (∀ i d, n ≤ i → l[i]? = some d → d = 0) ∧ (n = 0 ∨ l[n - 1]? ≠ some 0)) ((um l).length : Int)
    ⟨l.length, by rw [um_len], Nat.le_refl _, fun i d hi hd => by rw [List.getElem?_eq_none hi] at hd; cases hd⟩ (by rw [um_len]; omega) (by
      rintro s ⟨n, rfl, hn, hz⟩
      by_cases h0 : n = 0
      · subst h0
        exact .inr ⟨(0 : Nat), by unfold seneschalref06_trim_b0; rw [dec_f (by omega)]; rfl, 0, rfl, Nat.zero_le _, hz, .inl rfl⟩
      · have hlt : n - 1 < l.length := by omega
        have hd : l[n - 1]? = some l[n - 1] := List.getElem?_eq_getElem hlt
        rw [trim_step' hl hn (by omega) hd hD]
        by_cases hz0 : l[n - 1] = 0
        · refine .inl ⟨_, by rw [hz0]; rfl, ⟨n - 1, rfl, by omega, trim_step hz hd hz0⟩, by simp; omega⟩
        · refine .inr ⟨_, by rw [show (l[n - 1] == 0) = false by simpa using hz0]; rfl, n, rfl, hn, hz, .inr fun e => hz0 ?_⟩
          rw [hd] at e; exact Option.some.inj e)
  rw [hb]
  simp only [Option.bind_some]
  rw [subH_um rfl hn, digs_trim hD hn hz ht]
  rfl
theorem digs_lim {A k : Nat} (h : A < 65536 ^ k) (hk : k ≤ 1099511627) : lim (digs A) := Nat.le_trans (digs_len_le h) hk
theorem trim_ud {A : Nat} (hl : lim (digs A)) : seneschalref06_trim_p (ud A) = some (ud A) := by rw [trim_ok hl (digs_DL A), dval_digs]
theorem cmp_step {A B k : Nat} (hA : k < (digs A).length) (hB : k < (digs B).length) (hl : lim (digs A)) : seneschalref06_Cmp_b0 (ud A) (ud B) (k : Int) =
    some (bif decide (dg A k < dg B k) then .inr (.inl (-1)) else bif decide (dg B k < dg A k) then .inr (.inl 1) else .inl ((k : Int) - 1)) := by
  have h1 := dg_lt A k
  have h2 := dg_lt B k
  unfold seneschalref06_Cmp_b0
  rw [dec_t (by omega : (0 : Int) ≤ (k : Int)), idx_um rfl (digs_some hA), idx_um rfl (digs_some hB)]
  simp only [Option.bind_some]
  rw [show A / 65536 ^ k % 65536 = dg A k from rfl, show B / 65536 ^ k % 65536 = dg B k from rfl, un16 h1, un16 h2, w64_i (by omega) (by omega)]
  by_cases ha : dg A k < dg B k
  · simp [ha]
  · by_cases hb : dg B k < dg A k <;> simp [ha, hb]
theorem cmp_ok {A B : Nat} (hA : lim (digs A)) (hB : lim (digs B)) : seneschalref06_Cmp_p (ud A) (ud B) = some (cmpI A B) := by
  unfold seneschalref06_Cmp_p
  rw [trim_ud hA, trim_ud hB]
  simp only [Option.bind_some, um_len]
  by_cases hne : (digs A).length = (digs B).length
  · rw [show (((digs A).length : Int) != ((digs B).length : Int)) = false by rw [hne]; simp]
    simp only [cond_false]
    rw [w64_i (by omega) (by omega)]
    obtain ⟨b, hb, hG⟩ := iter_ind (body := seneschalref06_Cmp_b0 (ud A) (ud B)) (fun s => ∃ k : Nat, s = (k : Int) - 1 ∧ k ≤ (digs A).length ∧ A / 65536 ^ k = B / 65536 ^ k) (fun s => (s + 1).toNat)
      (fun b => b = (bif decide (A = B) then .inr () else .inl (cmpI A B))) (((digs A).length : Int) - 1)
      ⟨_, rfl, Nat.le_refl _, by rw [above_top (Nat.le_refl _), above_top (by omega)]⟩ (by omega) (by
        rintro s ⟨k, rfl, hk, he⟩
        by_cases h0 : k = 0
        · subst h0
          have hAB : A = B := by simpa using he
          refine .inr ⟨_, by unfold seneschalref06_Cmp_b0; rw [dec_f (by omega)], by simp [hAB]⟩
        · obtain ⟨j, rfl⟩ := Nat.exists_eq_succ_of_ne_zero h0
          rw [show ((j + 1 : Nat) : Int) - 1 = (j : Int) by omega, cmp_step (by omega) (by omega) hA]
          by_cases ha : dg A j < dg B j
          · have hlt := top_lt he rfl rfl ha
            refine .inr ⟨_, by rw [dec_t ha], ?_⟩
            rw [dec_f (by omega), cmpI_l hlt]
          · by_cases hb : dg B j < dg A j
            · have hlt := top_lt he.symm rfl rfl hb
              refine .inr ⟨_, by rw [dec_f ha, dec_t hb], ?_⟩
              rw [dec_f (by omega), cmpI_g hlt]
            · refine .inl ⟨_, by rw [dec_f ha, dec_f hb], ⟨j, rfl, by omega, top_eq he rfl rfl (show dg A j = dg B j by omega)⟩, by omega⟩)
    rw [hb, hG]
    by_cases hAB : A = B
    · subst hAB; simp [jn, jnO, cmpI_e]
    · simp [hAB, jn, jnO]
  · rw [show (((digs A).length : Int) != ((digs B).length : Int)) = true by rw [bne_iff_ne]; omega]
    simp only [cond_true]
    by_cases hlt : (digs A).length < (digs B).length
    · rw [dec_t (by omega), cmpI_l (cmpI_len hlt)]
    · rw [dec_f (by omega), cmpI_g (cmpI_len (by omega))]
end
section
open Go Go.RowKit
theorem um_nil : ([] : List UInt32) = um [] := rfl
theorem um_cons (l : List Nat) (d : Nat) : um l ++ [UInt32.ofNat d] = um (l ++ [d]) := by simp [um]
theorem shr16_32 {n : Nat} (h : n < 4294967296) : i32 (shrI .u32 ((UInt32.ofNat n).toNat : Int) 16) = UInt32.ofNat (n / 65536) := by
  rw [un h, show (16 : Int) = ((16 : Nat) : Int) from rfl, shr_n (by decide), i32_n]
/-- A digit, or nothing. -/
theorem add_dig {A i c : Nat} (hA : lim (digs A)) (hc : c < 200000) : (bif decide (((i : Nat) : Int) < ((ud A).length : Int)) then (Option.bind (idx (ud A) (i : Int)) fun y1 => some ((i32 (((UInt32.ofNat c).toNat : Int) + ((y1).toNat : Int))))) else (some (UInt32.ofNat c))) = some (UInt32.ofNat (c + dg A i)) := by
  have h1 := dg_lt A i
  rw [um_len]
  by_cases h : i < (digs A).length
  · rw [dec_t (by omega), idx_um rfl (digs_some h)]
    simp only [Option.bind_some]
    rw [show A / 65536 ^ i % 65536 = dg A i from rfl, un16 h1, un (by omega), ← Int.natCast_add, i32_n]
  · rw [dec_f (by omega), dg_top (by omega), Nat.add_zero]
theorem add_body {A B i c : Nat} {ls : List Nat} (hA : lim (digs A)) (hB : lim (digs B)) (hi : i < (digs A).length ∨ i < (digs B).length) (hc : c ≤ 1) (hl : ls.length = i) :
    seneschalref06_Add_b0 (ud A) (ud B) (UInt32.ofNat c, (i : Int), um ls) = some (.inl (UInt32.ofNat ((c + dg A i + dg B i) / 65536), ((i + 1 : Nat) : Int), um (ls ++ [(c + dg A i + dg B i) % 65536]))) := by
  have h1 := dg_lt A i
  have h2 := dg_lt B i
  have hA' : (digs A).length ≤ 1099511627 := hA
  have hB' : (digs B).length ≤ 1099511627 := hB
  unfold seneschalref06_Add_b0
  have hb : (bif decide ((i : Int) < ((ud A).length : Int)) then true else decide ((i : Int) < ((ud B).length : Int))) = true := by
    rw [um_len, um_len]
    by_cases h : i < (digs A).length
    · rw [dec_t (by omega)]
    · rw [dec_f (by omega)]; simp; omega
  simp only [hb, cond_true]
  rw [add_dig hA (by omega)]
  simp only [Option.bind_some]
  rw [add_dig hB (by omega)]
  simp only [Option.bind_some]
  rw [and16_32 (by omega), app_um (by omega), shr16_32 (by omega), w64_n (n := i + 1) (by omega) (by omega)]
  rfl
theorem add_ok {A B : Nat} (hA : lim (digs A)) (hB : lim (digs B)) (hAB : max (digs A).length (digs B).length < 1099511627) : seneschalref06_Add_p (ud A) (ud B) = some (ud (A + B)) := by
  have hA' : (digs A).length ≤ 1099511627 := hA
  have hB' : (digs B).length ≤ 1099511627 := hB
  unfold seneschalref06_Add_p
  obtain ⟨b, hb, c, ls, rfl, hc, hd, hll, hv⟩ := iter_ind (body := seneschalref06_Add_b0 (ud A) (ud B)) (fun s => ∃ (i c : Nat) (ls : List Nat), s = (UInt32.ofNat c, (i : Int), um ls) ∧ i ≤ max (digs A).length (digs B).length ∧ c ≤ 1 ∧ DL ls ∧ ls.length = i ∧ dval ls + c * 65536 ^ i = A % 65536 ^ i + B % 65536 ^ i)
    (fun s => (max (digs A).length (digs B).length + 1 - s.2.1).toNat)
    (fun b => ∃ (c : Nat) (ls : List Nat), b = (UInt32.ofNat c, um ls) ∧ c ≤ 1 ∧ DL ls ∧ ls.length ≤ max (digs A).length (digs B).length ∧ dval (ls ++ [c]) = A + B) ((0 : UInt32), 0, ([] : List UInt32))
    ⟨0, 0, [], rfl, Nat.zero_le _, Nat.zero_le _, DL.nil, rfl, by simp [dval, Nat.mod_one]⟩ (by simp; omega) (by
      rintro s ⟨i, c, ls, rfl, hi, hc, hd, hl, hv⟩
      by_cases h : i < (digs A).length ∨ i < (digs B).length
      · refine .inl ⟨_, add_body hA hB h hc hl, ⟨i + 1, _, _, rfl, by omega, ?_, hd.snoc (Nat.mod_lt _ (by decide)), by simp [hl], add_step hl hv⟩, ?_⟩
        · have h1 := dg_lt A i; have h2 := dg_lt B i; omega
        · show (((max (digs A).length (digs B).length : Nat) : Int) + 1 - ((i + 1 : Nat) : Int)).toNat < (((max (digs A).length (digs B).length : Nat) : Int) + 1 - (i : Int)).toNat
          omega
      · refine .inr ⟨_, ?_, c, ls, rfl, hc, hd, by omega, add_end hl (by omega) (by omega) hv⟩
        unfold seneschalref06_Add_b0
        have hb : (bif decide ((i : Int) < ((ud A).length : Int)) then true else decide ((i : Int) < ((ud B).length : Int))) = false := by
          rw [um_len, um_len, dec_f (by omega)]; simp; omega
        simp only [hb, cond_false])
  rw [hb]
  simp only [Option.bind_some]
  rw [app_um (by omega)]
  simp only [Option.bind_some]
  rw [trim_ok (by show (ls ++ [c]).length ≤ _; simp; omega) (hd.snoc (by omega)), hv]
  rfl
theorem sub_body {A B i c : Nat} {ls : List Nat} (hA : lim (digs A)) (hi : i < (digs A).length) (hc : c ≤ 1) (hl : ls.length = i) :
    seneschalref06_Sub_b0 (ud A) (ud B) (UInt32.ofNat c, (i : Int), um ls) = some (.inl (UInt32.ofNat (1 - (65536 + dg A i - c - dg B i) / 65536), ((i + 1 : Nat) : Int), um (ls ++ [(65536 + dg A i - c - dg B i) % 65536]))) := by
  have h1 := dg_lt A i
  have h2 := dg_lt B i
  have hA' : (digs A).length ≤ 1099511627 := hA
  unfold seneschalref06_Sub_b0
  simp only [um_len]
  rw [dec_t (by omega), idx_um rfl (digs_some hi)]
  simp only [Option.bind_some]
  rw [show A / 65536 ^ i % 65536 = dg A i from rfl, un16 h1]
  have e1 : i32 ((65536 : Int) + (dg A i : Int)) = UInt32.ofNat (65536 + dg A i) := by rw [show (65536 : Int) + (dg A i : Int) = ((65536 + dg A i : Nat) : Int) by omega, i32_n]
  have e2 : i32 (((UInt32.ofNat (65536 + dg A i)).toNat : Int) - ((UInt32.ofNat c).toNat : Int)) = UInt32.ofNat (65536 + dg A i - c) := by
    rw [un (by omega), un (by omega), show ((65536 + dg A i : Nat) : Int) - (c : Int) = ((65536 + dg A i - c : Nat) : Int) by omega, i32_n]
  rw [e1, e2]
  have e3 : (bif decide ((i : Int) < ((digs B).length : Int)) then (Option.bind (idx (ud B) (i : Int)) fun y2 => some (i32 (((UInt32.ofNat (65536 + dg A i - c)).toNat : Int) - ((y2).toNat : Int)))) else some (UInt32.ofNat (65536 + dg A i - c))) = some (UInt32.ofNat (65536 + dg A i - c - dg B i)) := by
    by_cases h : i < (digs B).length
    · rw [dec_t (by omega), idx_um rfl (digs_some h)]
      simp only [Option.bind_some]
      rw [show B / 65536 ^ i % 65536 = dg B i from rfl, un16 h2, un (by omega), show ((65536 + dg A i - c : Nat) : Int) - (dg B i : Int) = ((65536 + dg A i - c - dg B i : Nat) : Int) by omega, i32_n]
    · rw [dec_f (by omega), dg_top (i := i) (A := B) (by omega), Nat.sub_zero]
  rw [e3]
  simp only [Option.bind_some]
  rw [and16_32 (by omega), app_um (by omega), shr16_32 (by omega), un (by omega), w64_n (n := i + 1) (by omega) (by omega)]
  simp only [Option.bind_some]
  rw [show (1 : Int) - (((65536 + dg A i - c - dg B i) / 65536 : Nat) : Int) = ((1 - (65536 + dg A i - c - dg B i) / 65536 : Nat) : Int) by omega, i32_n]
theorem sub_ok {A B : Nat} (hA : lim (digs A)) (hB : B ≤ A) : seneschalref06_Sub_p (ud A) (ud B) = some (ud (A - B)) := by
  have hA' : (digs A).length ≤ 1099511627 := hA
  unfold seneschalref06_Sub_p
  obtain ⟨b, hb, ls, rfl, hd, hll, hv⟩ := iter_ind (body := seneschalref06_Sub_b0 (ud A) (ud B)) (fun s => ∃ (i c : Nat) (ls : List Nat), s = (UInt32.ofNat c, (i : Int), um ls) ∧ i ≤ (digs A).length ∧ c ≤ 1 ∧ DL ls ∧ ls.length = i ∧ dval ls + B % 65536 ^ i = A % 65536 ^ i + c * 65536 ^ i)
    (fun s => (((digs A).length : Int) + 1 - s.2.1).toNat)
    (fun b => ∃ (ls : List Nat), b = um ls ∧ DL ls ∧ ls.length = (digs A).length ∧ dval ls = A - B) ((0 : UInt32), 0, ([] : List UInt32))
    ⟨0, 0, [], rfl, Nat.zero_le _, Nat.zero_le _, DL.nil, rfl, by simp [dval, Nat.mod_one]⟩ (by simp; omega) (by
      rintro s ⟨i, c, ls, rfl, hi, hc, hd, hl, hv⟩
      by_cases h : i < (digs A).length
      · refine .inl ⟨_, sub_body hA h hc hl, ⟨i + 1, _, _, rfl, by omega, by omega, hd.snoc (Nat.mod_lt _ (by decide)), by simp [hl], sub_step hc hl hv⟩, ?_⟩
        show (((digs A).length : Int) + 1 - ((i + 1 : Nat) : Int)).toNat < (((digs A).length : Int) + 1 - (i : Int)).toNat
        omega
      · refine .inr ⟨_, ?_, ls, rfl, hd, by omega, sub_end hd hc hl (by omega) hB hv⟩
        unfold seneschalref06_Sub_b0
        rw [um_len, dec_f (by simp; omega)])
  rw [hb]
  simp only [Option.bind_some]
  rw [trim_ok (by show ls.length ≤ _; omega) hd, hv]
  rfl
/-! ### Products -/
theorem mk_um {n : Nat} {x : Int} (hx : x = (n : Int)) (h : n ≤ 68719476736) : mkL x (0 : UInt32) = some (um (fl (fun _ => 0) n)) := by subst hx; rw [mkL_ok h, um_rep]
theorem fl_setG (f : Nat → Nat) {n i d : Nat} {j : Int} (hj : j = (i : Int)) (h : i < n) : setL (um (fl f n)) j (UInt32.ofNat d) = some (um (fl (fup f i d) n)) := by rw [setL_um hj (by rw [fl_length]; exact h), fl_set]
theorem fl_idx (f : Nat → Nat) {n i : Nat} {j : Int} (hj : j = (i : Int)) (h : i < n) : idx (um (fl f n)) j = some (UInt32.ofNat (f i)) := idx_um hj (fl_get f h)
theorem mul_in_body {A B i k c n : Nat} {g : Nat → Nat} (hA : lim (digs A)) (hB : lim (digs B)) (hi : i < (digs A).length) (hk : k < (digs B).length) (hn : n = (digs A).length + (digs B).length) (hc : c < 65536) (hg : ∀ p, g p < 65536) (l0 : List UInt32) :
    seneschalref06_Mul_b1 (ud A) (ud B) ((i : Int), l0) (UInt64.ofNat c, (k : Int), um (fl g n)) = some (.inl (UInt64.ofNat ((c + (g (i + k) + dg A i * dg B k)) / 65536), ((k + 1 : Nat) : Int), um (fl (fup g (i + k) ((c + (g (i + k) + dg A i * dg B k)) % 65536)) n))) := by
  have h1 := dg_lt A i
  have h2 := dg_lt B k
  have hA' : (digs A).length ≤ 1099511627 := hA
  have hB' : (digs B).length ≤ 1099511627 := hB
  have hgk := hg (i + k)
  obtain ⟨b1, b2, b3, b4⟩ := mul_bound hc hgk h1 h2
  unfold seneschalref06_Mul_b1
  simp only [um_len]
  rw [dec_t (by omega), w64_n (n := i + k) (by omega) (by omega), fl_idx g rfl (by omega), idx_um rfl (digs_some hi), idx_um rfl (digs_some hk)]
  simp only [Option.bind_some]
  rw [show A / 65536 ^ i % 65536 = dg A i from rfl, show B / 65536 ^ k % 65536 = dg B k from rfl, un16 h1, un16 h2, un16 hgk]
  simp only [i64_n]
  rw [un64 (by omega : dg A i < _), un64 (by omega : dg B k < _), un64 (by omega : g (i + k) < _), ← Int.natCast_mul, i64_n, un64 (d := dg A i * dg B k) (by omega), ← Int.natCast_add (g (i + k)) (dg A i * dg B k), i64_n, un64 (d := g (i + k) + dg A i * dg B k) (by omega), un64 (d := c) (by omega), ← Int.natCast_add, i64_n]
  rw [and16_64 (by omega), un64 (by omega), un64 (by omega), i32_n, fl_setG g rfl (by omega)]
  simp only [Option.bind_some]
  rw [show (16 : Int) = ((16 : Nat) : Int) from rfl, shr_n (by decide), i64_n, w64_n (n := k + 1) (by omega) (by omega)]
theorem mul_in_ok {A B i n : Nat} {f : Nat → Nat} (hA : lim (digs A)) (hB : lim (digs B)) (hi : i < (digs A).length) (hn : n = (digs A).length + (digs B).length) (hf : ∀ p, f p < 65536) :
    ∃ (c : Nat) (g : Nat → Nat), iter (seneschalref06_Mul_b1 (ud A) (ud B) ((i : Int), um (fl f n))) ((0 : UInt64), 0, um (fl f n)) = some (UInt64.ofNat c, um (fl g n)) ∧ c < 65536 ∧ (∀ p, g p < 65536) ∧ (∀ p, i + (digs B).length ≤ p → g p = f p) ∧
      dval (fl g n) + c * 65536 ^ (i + (digs B).length) = dval (fl f n) + dg A i * (B % 65536 ^ (digs B).length) * 65536 ^ i := by
  have hA' : (digs A).length ≤ 1099511627 := hA
  have hB' : (digs B).length ≤ 1099511627 := hB
  obtain ⟨b, hb, c, g, rfl, hc, hg, hgf, hv⟩ := iter_ind (body := seneschalref06_Mul_b1 (ud A) (ud B) ((i : Int), um (fl f n)))
    (fun s => ∃ (k c : Nat) (g : Nat → Nat), s = (UInt64.ofNat c, (k : Int), um (fl g n)) ∧ k ≤ (digs B).length ∧ c < 65536 ∧ (∀ p, g p < 65536) ∧ (∀ p, i + k ≤ p → g p = f p) ∧ dval (fl g n) + c * 65536 ^ (i + k) = dval (fl f n) + dg A i * (B % 65536 ^ k) * 65536 ^ i)
    (fun s => (((digs B).length : Int) + 1 - s.2.1).toNat)
    (fun b => ∃ (c : Nat) (g : Nat → Nat), b = (UInt64.ofNat c, um (fl g n)) ∧ c < 65536 ∧ (∀ p, g p < 65536) ∧ (∀ p, i + (digs B).length ≤ p → g p = f p) ∧ dval (fl g n) + c * 65536 ^ (i + (digs B).length) = dval (fl f n) + dg A i * (B % 65536 ^ (digs B).length) * 65536 ^ i)
    ((0 : UInt64), 0, um (fl f n)) ⟨0, 0, f, rfl, Nat.zero_le _, by decide, hf, fun _ _ => rfl, by simp [Nat.mod_one]⟩ (by simp; omega) (by
      rintro s ⟨k, c, g, rfl, hk, hc, hg, hgf, hv⟩
      by_cases h : k < (digs B).length
      · have hbd := mul_bound hc (hg (i + k)) (dg_lt A i) (dg_lt B k)
        refine .inl ⟨_, mul_in_body hA hB hi h hn hc hg _, ⟨k + 1, _, _, rfl, by omega, hbd.2.2.2, fup_lt hg (Nat.mod_lt _ (by decide)), fun p hp => by rw [fup_ne (by omega)]; exact hgf p (by omega), mul_in (by omega) hv⟩, ?_⟩
        show (((digs B).length : Int) + 1 - ((k + 1 : Nat) : Int)).toNat < (((digs B).length : Int) + 1 - (k : Int)).toNat
        omega
      · obtain rfl : k = (digs B).length := by omega
        refine .inr ⟨_, ?_, c, g, rfl, hc, hg, hgf, hv⟩
        unfold seneschalref06_Mul_b1
        rw [um_len, dec_f (by simp)])
  exact ⟨c, g, hb, hc, hg, hgf, hv⟩
theorem mul_ok {A B : Nat} (hA : lim (digs A)) (hB : lim (digs B)) (hAB : (digs A).length + (digs B).length ≤ 1099511627) : seneschalref06_Mul_p (ud A) (ud B) = some (ud (A * B)) := by
  have hA' : (digs A).length ≤ 1099511627 := hA
  have hB' : (digs B).length ≤ 1099511627 := hB
  obtain ⟨n, hn⟩ : ∃ n, n = (digs A).length + (digs B).length := ⟨_, rfl⟩
  unfold seneschalref06_Mul_p
  simp only [um_len]
  rw [w64_n (n := n) (by omega) (by omega), mk_um rfl (by omega)]
  simp only [Option.bind_some]
  obtain ⟨b, hb, f, rfl, hf, hv⟩ := iter_ind (body := seneschalref06_Mul_b0 (ud A) (ud B))
    (fun s => ∃ (i : Nat) (f : Nat → Nat), s = ((i : Int), um (fl f n)) ∧ i ≤ (digs A).length ∧ (∀ p, f p < 65536) ∧ (∀ p, i + (digs B).length ≤ p → f p = 0) ∧ dval (fl f n) = A % 65536 ^ i * B)
    (fun s => (((digs A).length : Int) + 1 - s.1).toNat)
    (fun b => ∃ (f : Nat → Nat), b = um (fl f n) ∧ (∀ p, f p < 65536) ∧ dval (fl f n) = A * B)
    ((0 : Int), um (fl (fun _ => 0) n)) ⟨0, fun _ => 0, rfl, Nat.zero_le _, fun _ => Nat.zero_lt_succ _, fun _ _ => rfl, by rw [dval_fl_zero (fun _ _ => rfl), Nat.pow_zero, Nat.mod_one, Nat.zero_mul]⟩ (by simp; omega) (by
      rintro s ⟨i, f, rfl, hi, hf, hz, hv⟩
      by_cases h : i < (digs A).length
      · obtain ⟨c, g, e, hc, hg, hgf, hv2⟩ := mul_in_ok hA hB h hn hf
        refine .inl ⟨(((i + 1 : Nat) : Int), um (fl (fup g (i + (digs B).length) c) n)), ?_, ⟨i + 1, _, rfl, by omega, fup_lt hg hc, fun p hp => by rw [fup_ne (by omega), hgf p (by omega)]; exact hz p (by omega), mul_out (by omega) (by rw [hgf _ (Nat.le_refl _)]; exact hz _ (Nat.le_refl _)) hv hv2⟩, ?_⟩
        · unfold seneschalref06_Mul_b0
          simp only [um_len]
          rw [dec_t (by omega), e]
          simp only [Option.bind_some]
          rw [w64_n (n := i + (digs B).length) (by omega) (by omega), fl_idx g rfl (by omega)]
          simp only [Option.bind_some]
          rw [un64 (by omega), i32_n, fl_setG g rfl (by omega), w64_n (n := i + 1) (by omega) (by omega)]
          rfl
        · show (((digs A).length : Int) + 1 - ((i + 1 : Nat) : Int)).toNat < (((digs A).length : Int) + 1 - (i : Int)).toNat
          omega
      · obtain rfl : i = (digs A).length := by omega
        refine .inr ⟨_, ?_, f, rfl, hf, by rw [hv, mod_len (Nat.le_refl _)]⟩
        unfold seneschalref06_Mul_b0
        rw [um_len, dec_f (by simp)])
  rw [hb]
  simp only [Option.bind_some]
  rw [trim_ok (by show (fl f n).length ≤ _; rw [fl_length]; omega) (DL_fl hf n), hv]
  rfl
end
section
open Go Go.RowKit
theorem lb1_body {g : Nat → Nat} {j : Nat} (hg : ∀ p, g p < 65536) (hj : 0 < j) (hj2 : j ≤ 16) : seneschalref06_Left_b1 ((j : Int), um (fl g 17)) = some (.inl (((j - 1 : Nat) : Int), um (fl (fup g j (g (j - 1))) 17))) := by
  unfold seneschalref06_Left_b1
  simp only
  rw [dec_t (by omega), w64_n (n := j - 1) (by omega) (by omega), fl_idx g rfl (by omega), fl_idx g rfl (by omega)]
  simp only [Option.bind_some]
  rw [fl_setG g rfl (by omega)]
  rfl
theorem lb1_ok {f : Nat → Nat} (hf : ∀ p, f p < 65536) : ∃ g : Nat → Nat, iter seneschalref06_Left_b1 ((16 : Int), um (fl f 17)) = some (um (fl g 17)) ∧ (∀ p, g p < 65536) ∧ ∀ p, 0 < p → p < 17 → g p = f (p - 1) := by
  obtain ⟨b, hb, g, rfl, hg, hs⟩ := iter_ind (body := seneschalref06_Left_b1)
    (fun s => ∃ (j : Nat) (g : Nat → Nat), s = ((j : Int), um (fl g 17)) ∧ j ≤ 16 ∧ (∀ p, g p < 65536) ∧ (∀ p, p ≤ j → g p = f p) ∧ ∀ p, j < p → p < 17 → g p = f (p - 1))
    (fun s => s.1.toNat) (fun b => ∃ g : Nat → Nat, b = um (fl g 17) ∧ (∀ p, g p < 65536) ∧ ∀ p, 0 < p → p < 17 → g p = f (p - 1)) ((16 : Int), um (fl f 17))
    ⟨16, f, rfl, Nat.le_refl _, hf, fun _ _ => rfl, fun p h1 h2 => absurd h1 (by omega)⟩ (by simp) (by
      rintro s ⟨j, g, rfl, hj, hg, hs1, hs2⟩
      by_cases h : 0 < j
      · refine .inl ⟨_, lb1_body hg h hj, ⟨j - 1, _, rfl, by omega, fup_lt hg (hg _), fun p hp => by rw [fup_ne (by omega)]; exact hs1 p (by omega), fun p h1 h2 => ?_⟩, by simp; omega⟩
        by_cases hpj : p = j
        · subst hpj; rw [fup_at]; exact hs1 _ (by omega)
        · rw [fup_ne hpj]; exact hs2 p (by omega) h2
      · obtain rfl : j = 0 := by omega
        refine .inr ⟨_, ?_, g, rfl, hg, hs2⟩
        unfold seneschalref06_Left_b1
        rw [dec_f (by simp)])
  exact ⟨g, hb, hg, hs⟩
theorem lb3_body {M t q c : Nat} {g : Nat → Nat} (hM : (digs M).length = 16) (ht : t < 65536) (hq : q ≤ 16) (hc : c ≤ 131072) (hg : ∀ p, g p < 65536) :
    seneschalref06_Left_b3 (ud M) (UInt32.ofNat t) (UInt64.ofNat c, (q : Int), um (fl g 17)) =
      some (.inl (UInt64.ofNat (16777216 - (g q + 1099511627776 - (c + t * dg M q)) / 65536), ((q + 1 : Nat) : Int), um (fl (fup g q ((g q + 1099511627776 - (c + t * dg M q)) % 65536)) 17))) := by
  have hgq := hg q
  have hmq := dg_lt M q
  have htm := tm_bound ht hmq
  unfold seneschalref06_Left_b3
  simp only [um_len, hM]
  rw [dec_t (by omega)]
  have e1 : (bif decide ((q : Int) < ((16 : Nat) : Int)) then (Option.bind (idx (ud M) (q : Int)) fun y12 => some ((i64 (((UInt64.ofNat c).toNat : Int) + (((i64 ((((i64 (((UInt32.ofNat t)).toNat : Int))).toNat : Int) * (((i64 ((y12).toNat : Int))).toNat : Int)))).toNat : Int))))) else (some (UInt64.ofNat c))) = some (UInt64.ofNat (c + t * dg M q)) := by
    by_cases h : q < 16
    · rw [dec_t (by omega), idx_um rfl (digs_some (by omega))]
      simp only [Option.bind_some]
      rw [show M / 65536 ^ q % 65536 = dg M q from rfl, un16 hmq, un16 ht, i64_n, i64_n, un64 (d := t) (by omega), un64 (d := dg M q) (by omega), ← Int.natCast_mul, i64_n, un64 (d := t * dg M q) (by omega), un64 (d := c) (by omega), ← Int.natCast_add, i64_n]
    · rw [dec_f (by omega), dg_top (i := q) (A := M) (by omega), Nat.mul_zero, Nat.add_zero]
  rw [e1]
  simp only [Option.bind_some]
  rw [fl_idx g rfl (by omega)]
  simp only [Option.bind_some]
  have e3 : (((i64 ((((i64 (((UInt32.ofNat (g q))).toNat : Int))).toNat : Int) + 1099511627776))).toNat : Int) - ((UInt64.ofNat (c + t * dg M q)).toNat : Int) = ((g q + 1099511627776 - (c + t * dg M q) : Nat) : Int) := by
    rw [un16 hgq, i64_n, un64 (d := g q) (by omega), show ((g q : Nat) : Int) + 1099511627776 = ((g q + 1099511627776 : Nat) : Int) by omega, i64_n, un64 (d := g q + 1099511627776) (by omega), un64 (d := c + t * dg M q) (by omega)]
    omega
  rw [e3, i64_n, and16_64 (by omega), un64 (d := (g q + 1099511627776 - (c + t * dg M q)) % 65536) (by omega), un64 (d := g q + 1099511627776 - (c + t * dg M q)) (by omega), i32_n, fl_setG g rfl (by omega)]
  simp only [Option.bind_some]
  rw [show (16 : Int) = ((16 : Nat) : Int) from rfl, shr_n (by decide), i64_n, show (2 : Nat) ^ 16 = 65536 from rfl, un64 (d := (g q + 1099511627776 - (c + t * dg M q)) / 65536) (by omega), show (16777216 : Int) - (((g q + 1099511627776 - (c + t * dg M q)) / 65536 : Nat) : Int) = ((16777216 - (g q + 1099511627776 - (c + t * dg M q)) / 65536 : Nat) : Int) by omega, i64_n, w64_n (n := q + 1) (by omega) (by omega)]
theorem lb3_ok {M t : Nat} {f : Nat → Nat} (hM : (digs M).length = 16) (ht : t < 65536) (hf : ∀ p, f p < 65536) (hle : t * M ≤ dval (fl f 17)) :
    ∃ g : Nat → Nat, iter (seneschalref06_Left_b3 (ud M) (UInt32.ofNat t)) ((0 : UInt64), 0, um (fl f 17)) = some (um (fl g 17)) ∧ (∀ p, g p < 65536) ∧ dval (fl g 17) + t * M = dval (fl f 17) := by
  obtain ⟨b, hb, g, rfl, hg, hv⟩ := iter_ind (body := seneschalref06_Left_b3 (ud M) (UInt32.ofNat t))
    (fun s => ∃ (q c : Nat) (g : Nat → Nat), s = (UInt64.ofNat c, (q : Int), um (fl g 17)) ∧ q ≤ 17 ∧ c ≤ 131072 ∧ (∀ p, g p < 65536) ∧ (∀ p, q ≤ p → g p = f p) ∧ dval (fl g q) + t * (M % 65536 ^ q) = dval (fl f q) + c * 65536 ^ q)
    (fun s => ((18 : Int) - s.2.1).toNat) (fun b => ∃ g : Nat → Nat, b = um (fl g 17) ∧ (∀ p, g p < 65536) ∧ dval (fl g 17) + t * M = dval (fl f 17)) ((0 : UInt64), 0, um (fl f 17))
    ⟨0, 0, f, rfl, Nat.zero_le _, Nat.zero_le _, hf, fun _ _ => rfl, by simp [fl, Nat.mod_one]⟩ (by simp) (by
      rintro s ⟨q, c, g, rfl, hq, hc, hg, hge, hv⟩
      by_cases h : q ≤ 16
      · have hgq := hg q
        have htm := tm_bound ht (dg_lt M q)
        refine .inl ⟨_, lb3_body hM ht h hc hg, ⟨q + 1, _, _, rfl, by omega, by omega, fup_lt hg (Nat.mod_lt _ (by decide)), fun p hp => by rw [fup_ne (by omega)]; exact hge p (by omega), left_step hc htm hgq (hge q (Nat.le_refl _)) hv⟩, ?_⟩
        show ((18 : Int) - ((q + 1 : Nat) : Int)).toNat < ((18 : Int) - (q : Int)).toNat
        omega
      · obtain rfl : q = 17 := by omega
        refine .inr ⟨_, ?_, g, rfl, hg, left_end rfl hM hg hle hv⟩
        unfold seneschalref06_Left_b3
        simp only [um_len, hM]
        rw [dec_f (by decide)])
  exact ⟨g, hb, hg, hv⟩
theorem fl_lim (f : Nat → Nat) {n : Nat} (h : n ≤ 1000) : lim (fl f n) := by show (fl f n).length ≤ _; rw [fl_length]; omega
theorem cmp_fl {f : Nat → Nat} {n B : Nat} (hn : n ≤ 1000) (hf : ∀ p, f p < 65536) (hB : lim (digs B)) : seneschalref06_Cmp_p (um (fl f n)) (ud B) = some (cmpI (dval (fl f n)) B) := by
  have h1 : lim (digs (dval (fl f n))) := digs_lim (k := n) (dval_fl_lt hf n) (by omega)
  have := cmp_ok h1 hB
  unfold seneschalref06_Cmp_p at this ⊢
  rw [trim_ok (fl_lim f hn) (DL_fl hf n)]
  rw [trim_ud h1] at this
  exact this
def nm (l : List UInt32) : List Nat := l.map UInt32.toNat
theorem nm_um {l : List Nat} (h : DL l) : nm (um l) = l := by
  unfold nm um
  rw [List.map_map]
  conv => rhs; rw [← List.map_id l]
  exact List.map_congr_left fun d hd => un16 (h d hd)
theorem lb2_ok {M X : Nat} {f : Nat → Nat} (hM : (digs M).length = 16) (hMp : 0 < M) (hf : ∀ p, f p < 65536) (hX : dval (fl f 17) % M = X) :
    ∃ g : Nat → Nat, iter (seneschalref06_Left_b2 (ud M)) (um (fl f 17)) = some (um (fl g 17)) ∧ (∀ p, g p < 65536) ∧ dval (fl g 17) = X := by
  have hML : lim (digs M) := by show _ ≤ _; omega
  have hbig : 65536 ^ 15 ≤ M := by have := digs_ge (n := M) (by omega); rwa [hM] at this
  obtain ⟨b, hb, g, rfl, hg, hv⟩ := iter_ind (body := seneschalref06_Left_b2 (ud M)) (fun s => ∃ g : Nat → Nat, s = um (fl g 17) ∧ (∀ p, g p < 65536) ∧ dval (fl g 17) % M = X)
    (fun s => dval (nm s) / M) (fun b => ∃ g : Nat → Nat, b = um (fl g 17) ∧ (∀ p, g p < 65536) ∧ dval (fl g 17) = X) (um (fl f 17)) ⟨f, rfl, hf, hX⟩ (by
      rw [nm_um (DL_fl hf 17)]
      have h1 := dval_fl_lt hf 17
      refine Nat.lt_of_lt_of_le (Nat.div_lt_of_lt_mul (k := 65536 ^ 2) ?_) (by decide)
      refine Nat.lt_of_lt_of_le h1 ?_
      rw [show (65536 : Nat) ^ 17 = 65536 ^ 15 * 65536 ^ 2 by rw [← Nat.pow_add]]
      exact Nat.mul_le_mul_right _ hbig) (by
      rintro s ⟨g, rfl, hg, hv⟩
      have hg16 := hg 16
      have hcmp := cmp_fl (f := g) (n := 16) (by decide) hg hML
      have key : ∀ t : Nat, 0 < t → t < 65536 → t * M ≤ dval (fl g 17) → ∃ g2 : Nat → Nat, iter (seneschalref06_Left_b3 (ud M) (UInt32.ofNat t)) ((0 : UInt64), 0, um (fl g 17)) = some (um (fl g2 17)) ∧ (∃ g : Nat → Nat, um (fl g2 17) = um (fl g 17) ∧ (∀ p, g p < 65536) ∧ dval (fl g 17) % M = X) ∧ dval (nm (um (fl g2 17))) / M < dval (nm (um (fl g 17))) / M := by
        intro t ht ht2 hle
        obtain ⟨g2, e, hg2, hend⟩ := lb3_ok hM ht2 hg hle
        refine ⟨g2, e, ⟨g2, rfl, hg2, (left_mod hend).trans hv⟩, ?_⟩
        rw [nm_um (DL_fl hg2 17), nm_um (DL_fl hg 17), ← hend, Nat.add_mul_div_right _ _ hMp]
        omega
      unfold seneschalref06_Left_b2
      simp only [um_len, hM]
      rw [fl_idx g rfl (by omega)]
      simp only [Option.bind_some]
      rw [un16 hg16]
      by_cases h0 : 0 < g 16
      · rw [dec_t (by omega)]
        simp only [Option.bind_some, cond_true]
        obtain ⟨g2, e, hI, hlt⟩ := key (g 16) h0 hg16 (left_t2 hM)
        refine .inl ⟨_, ?_, hI, hlt⟩
        rw [show (((g 16 : Nat) : Int) == 0) = false by rw [beq_false_of_ne]; omega]
        simp only [cond_false, Option.bind_some]
        rw [e]; rfl
      · have hz : g 16 = 0 := by omega
        rw [dec_f (by omega), subH_um (n := 16) rfl (by rw [fl_length]; omega), fl_take g (by omega)]
        simp only [Option.bind_some]
        rw [hcmp]
        simp only [Option.bind_some]
        by_cases hc : M ≤ dval (fl g 16)
        · rw [show decide ((0 : Int) ≤ cmpI (dval (fl g 16)) M) = true from decide_eq_true (cmpI_ge.2 hc)]
          simp only [cond_true]
          obtain ⟨g2, e, hI, hlt⟩ := key 1 (by decide) (by decide) (left_t1 (.inr hc) hz)
          refine .inl ⟨_, ?_, hI, hlt⟩
          rw [show (((g 16 : Nat) : Int) == 0) = true by rw [hz]; rfl]
          simp only [cond_true, Option.bind_some]
          rw [show (1 : UInt32) = UInt32.ofNat 1 from rfl, e]; rfl
        · rw [show decide ((0 : Int) ≤ cmpI (dval (fl g 16)) M) = false from decide_eq_false fun h => hc (cmpI_ge.1 h)]
          simp only [cond_false]
          exact .inr ⟨_, rfl, g, rfl, hg, left_out hz (by omega) hv⟩)
  exact ⟨g, hb, hg, hv⟩
theorem left_ok {A M : Nat} (hA : lim (digs A)) (hM : (digs M).length = 16) : seneschalref06_Left_p (ud A) (ud M) = some (ud (A % M)) := by
  have hA' : (digs A).length ≤ 1099511627 := hA
  have hMp : 0 < M := Nat.pos_of_ne_zero fun h0 => by subst h0; rw [digs_0] at hM; cases hM
  unfold seneschalref06_Left_p
  simp only [um_len, hM]
  rw [w64_n (n := 17) (by omega) (by omega), mk_um rfl (by omega), w64_i (by omega) (by omega)]
  simp only [Option.bind_some]
  obtain ⟨b, hb, f, rfl, hf, hv⟩ := iter_ind (body := seneschalref06_Left_b0 (ud A) (ud M))
    (fun s => ∃ (k : Nat) (f : Nat → Nat), s = ((k : Int) - 1, um (fl f 17)) ∧ k ≤ (digs A).length ∧ (∀ p, f p < 65536) ∧ dval (fl f 17) = A / 65536 ^ k % M)
    (fun s => (s.1 + 1).toNat) (fun b => ∃ f : Nat → Nat, b = um (fl f 17) ∧ (∀ p, f p < 65536) ∧ dval (fl f 17) = A % M) (((digs A).length : Int) - 1, um (fl (fun _ => 0) 17))
    ⟨_, _, rfl, Nat.le_refl _, fun _ => Nat.zero_lt_succ _, by rw [above_top (Nat.le_refl _), dval_fl_zero (fun _ _ => rfl), Nat.zero_mod]⟩ (by simp; omega) (by
      rintro s ⟨k, f, rfl, hk, hf, hv⟩
      by_cases h : 0 < k
      · obtain ⟨g, e1, hg, hs⟩ := lb1_ok hf
        obtain ⟨g2, e2, hg2, hv2⟩ := lb2_ok (f := fup g 0 (dg A (k - 1))) hM hMp (fup_lt hg (dg_lt _ _)) (left_shift h hM hMp hs hv)
        refine .inl ⟨(((k - 1 : Nat) : Int) - 1, um (fl g2 17)), ?_, ⟨k - 1, g2, rfl, by omega, hg2, hv2⟩, ?_⟩
        · unfold seneschalref06_Left_b0
          simp only [um_len, hM]
          rw [dec_t (by omega), show (((16 : Nat) : Int)) = (16 : Int) from rfl, e1]
          simp only [Option.bind_some]
          rw [idx_um (i := k - 1) (by omega) (digs_some (by omega)), fl_idx (i := 0) (j := 0) g rfl (by omega)]
          simp only [Option.bind_some]
          rw [show A / 65536 ^ (k - 1) % 65536 = dg A (k - 1) from rfl, fl_setG (i := 0) (j := 0) g rfl (by omega)]
          simp only [Option.bind_some]
          rw [e2, w64_i (by omega) (by omega)]
          simp only [Option.bind_some]
          rw [show (k : Int) - 1 - 1 = ((k - 1 : Nat) : Int) - 1 by omega]
        · show ((((k - 1 : Nat) : Int) - 1) + 1).toNat < (((k : Int) - 1) + 1).toNat
          omega
      · obtain rfl : k = 0 := by omega
        refine .inr ⟨_, ?_, f, rfl, hf, by rw [hv, Nat.pow_zero, Nat.div_one]⟩
        unfold seneschalref06_Left_b0
        rw [dec_f (by simp)])
  rw [hb]
  simp only [Option.bind_some]
  rw [trim_ok (fl_lim f (by decide)) (DL_fl hf 17), hv]
  rfl
theorem modulus_ok (m : Int) : seneschalref06_Modulus_p m = some (ud (modN m)) := by
  unfold seneschalref06_Modulus_p
  by_cases h : m = 0
  · rw [show (m == 0) = true by rw [h]; rfl, show ud (modN m) = um [65535, 65535, 65535, 65535, 65535, 65535, 0, 0, 0, 0, 0, 0, 1, 0, 65535, 65535] from congrArg um (digs_modP h)]; rfl
  · rw [show (m == 0) = false by simpa using h, show ud (modN m) = um [9553, 64611, 51906, 62393, 40580, 42775, 64173, 48358, 65535, 65535, 65535, 65535, 0, 0, 65535, 65535] from congrArg um (digs_modN h)]; rfl
theorem modN_two (m : Int) : modN m < two256 := (mod_modN m).lt
abbrev small (A : Nat) : Prop := (digs A).length < 1000
theorem small_lim {A : Nat} (h : small A) : lim (digs A) := by have : (digs A).length < 1000 := h; show _ ≤ _; omega
theorem small_lt {A : Nat} (h : A < two256) : small A := Nat.lt_of_le_of_lt (digs_len_le (k := 16) (show A < 65536 ^ 16 from h)) (by decide)
theorem sum_ok (m : Int) {A B : Nat} (hA : small A) (hB : small B) : seneschalref06_Sum_p m (ud A) (ud B) = some (ud ((A + B) % modN m)) := by
  have hA' : (digs A).length < 1000 := hA
  have hB' : (digs B).length < 1000 := hB
  unfold seneschalref06_Sum_p
  have h3 := len_add (k := 1000) (Nat.le_of_lt hA') (Nat.le_of_lt hB')
  rw [add_ok (small_lim hA) (small_lim hB) (by omega), modulus_ok]
  simp only [Option.bind_some]
  rw [left_ok (by show _ ≤ _; omega) (len_modN m)]; rfl
theorem product_ok (m : Int) {A B : Nat} (hA : small A) (hB : small B) : seneschalref06_Product_p m (ud A) (ud B) = some (ud (A * B % modN m)) := by
  have hA' : (digs A).length < 1000 := hA
  have hB' : (digs B).length < 1000 := hB
  unfold seneschalref06_Product_p
  have h4 : ∀ K, 2000 ≤ K → (digs (A * B)).length ≤ K := fun K hK => by
    refine digs_len_le (Nat.lt_of_lt_of_le (Nat.mul_lt_mul'' (digs_lt A) (digs_lt B)) ?_)
    rw [← Nat.pow_add]
    exact Nat.pow_le_pow_right (by decide) (by omega)
  have h5 := h4 1099511627 (by decide)
  rw [mul_ok (small_lim hA) (small_lim hB) (by omega), modulus_ok]
  simp only [Option.bind_some]
  rw [left_ok h5 (len_modN m)]; rfl
theorem opposite_ok (m : Int) {A : Nat} (hA : small A) : seneschalref06_Opposite_p m (ud A) = some (ud ((modN m - A % modN m) % modN m)) := by
  have hle : A % modN m ≤ modN m := Nat.le_of_lt (Nat.mod_lt _ (mod_modN m).pos)
  have hl1 := len_modN m
  have hl3 := digs_mono (Nat.sub_le (modN m) (A % modN m))
  unfold seneschalref06_Opposite_p
  rw [modulus_ok]
  simp only [Option.bind_some]
  rw [left_ok (small_lim hA) (len_modN m)]
  simp only [Option.bind_some]
  rw [sub_ok (by show _ ≤ _; omega) hle]
  simp only [Option.bind_some]
  rw [left_ok (by show _ ≤ _; omega) (len_modN m)]; rfl
end
section
open Go Go.RowKit
abbrev W4 : Type := UInt64 × UInt64 × UInt64 × UInt64
/-- The number of four words, and the words of a number. -/
def nv (x : W4) : Nat := x.1.toNat + 2 ^ 64 * (x.2.1.toNat + 2 ^ 64 * (x.2.2.1.toNat + 2 ^ 64 * x.2.2.2.toNat))
def tv (A : Nat) : W4 := (UInt64.ofNat (A / 2 ^ (64 * 0)), UInt64.ofNat (A / 2 ^ (64 * 1)), UInt64.ofNat (A / 2 ^ (64 * 2)), UInt64.ofNat (A / 2 ^ (64 * 3)))
theorem nv_lt (x : W4) : nv x < two256 := by
  have h0 := x.1.toNat_lt; have h1 := x.2.1.toNat_lt; have h2 := x.2.2.1.toNat_lt; have h3 := x.2.2.2.toNat_lt
  unfold nv two256; omega
def wd (x : W4) (i : Nat) : UInt64 := if i = 0 then x.1 else if i = 1 then x.2.1 else if i = 2 then x.2.2.1 else x.2.2.2
theorem nv_wd (x : W4) {i : Nat} (hi : i < 4) : nv x / 2 ^ (64 * i) % 2 ^ 64 = (wd x i).toNat := by
  have h0 := x.1.toNat_lt; have h1 := x.2.1.toNat_lt; have h2 := x.2.2.1.toNat_lt; have h3 := x.2.2.2.toNat_lt
  rcases (by omega : i = 0 ∨ i = 1 ∨ i = 2 ∨ i = 3) with rfl | rfl | rfl | rfl <;> simp only [wd, nv, if_true, if_false, Nat.reduceMul, Nat.reducePow, Nat.reduceEqDiff, Nat.div_one] <;> first | omega | (simp; omega)
theorem wd_get (x : W4) {i : Nat} {j : Int} (hj : j = (i : Int)) (hi : i < 4) : idx ([x.1, x.2.1, x.2.2.1, x.2.2.2] : List UInt64) j = some (wd x i) := by
  subst hj
  rw [idx_nat]
  rcases (by omega : i = 0 ∨ i = 1 ∨ i = 2 ∨ i = 3) with rfl | rfl | rfl | rfl <;> rfl
theorem tv_nv (x : W4) : tv (nv x) = x := by
  have e : ∀ (i : Nat) (u : UInt64), nv x / 2 ^ (64 * i) % 2 ^ 64 = u.toNat → UInt64.ofNat (nv x / 2 ^ (64 * i)) = u := fun i u h => by
    apply UInt64.toNat_inj.1
    rw [← h]; simp [UInt64.toNat_ofNat']
  unfold tv
  rw [e 0 _ (nv_wd x (by decide)), e 1 _ (nv_wd x (by decide)), e 2 _ (nv_wd x (by decide)), e 3 _ (nv_wd x (by decide))]
  rfl
theorem wd_tv (A : Nat) {i : Nat} (hi : i < 4) : wd (tv A) i = UInt64.ofNat (A / 2 ^ (64 * i)) := by
  rcases (by omega : i = 0 ∨ i = 1 ∨ i = 2 ∨ i = 3) with rfl | rfl | rfl | rfl <;> rfl
theorem nv_tv {A : Nat} (h : A < two256) : nv (tv A) = A := by
  unfold two256 at h
  simp only [nv, tv, UInt64.toNat_ofNat', Nat.reduceMul, Nat.reducePow, Nat.div_one]
  omega
theorem dg_word (A i k : Nat) (hk : k < 4) : A / 2 ^ (64 * i) % 2 ^ 64 / 2 ^ (16 * k) % 65536 = dg A (4 * i + k) := by
  unfold dg
  have e2 : (65536 : Nat) ^ (4 * i + k) = 2 ^ (64 * i + 16 * k) := by rw [show (65536 : Nat) = 2 ^ 16 by rfl, ← Nat.pow_mul]; congr 1; omega
  rw [e2, Nat.pow_add, ← Nat.div_div_eq_div_mul]
  generalize A / 2 ^ (64 * i) = X
  rcases (by omega : k = 0 ∨ k = 1 ∨ k = 2 ∨ k = 3) with rfl | rfl | rfl | rfl
  all_goals simp only [Nat.reduceMul, Nat.reducePow]
  all_goals omega
theorem in_dig (x : W4) {i k : Nat} (hi : i < 4) (hk : k < 4) {b : Int} (hb : b = ((16 * k : Nat) : Int)) : i32 ((((i64 (shrI .u64 ((wd x i).toNat : Int) b)) &&& (65535 : UInt64))).toNat : Int) = UInt32.ofNat (dg (nv x) (4 * i + k)) := by
  subst hb
  have h0 := (wd x i).toNat_lt
  have h1 : (wd x i).toNat / 2 ^ (16 * k) < 18446744073709551616 := Nat.lt_of_le_of_lt (Nat.div_le_self _ _) h0
  rw [shr_n (by show 16 * k ≤ 64; omega), i64_n, and16_64 h1, un64 (by omega), i32_n, ← nv_wd x hi, dg_word _ _ _ hk]
theorem in_inner (x : W4) {i : Nat} (hi : i < 4) : iter (seneschalref06_In_b1 x ((i : Int), um (dl (nv x) (4 * i)))) ((0 : Int), um (dl (nv x) (4 * i))) = some (um (dl (nv x) (4 * (i + 1)))) :=
  iter_run (fun k => ((k : Int), um (dl (nv x) (4 * i + k)))) 4 (by decide) _ (fun k hk => by
    unfold seneschalref06_In_b1
    simp only
    rw [dec_t (by omega), wd_get x rfl hi, w64_n (n := 16 * k) (by omega) (by omega), chk_ok (decide_eq_true (Int.natCast_nonneg _))]
    simp only [Option.bind_some]
    rw [in_dig x hi hk rfl, app_um (by rw [dl_length]; omega), ← dl_succ, w64_n (n := k + 1) (by omega) (by omega)]
    rfl) (by
    unfold seneschalref06_In_b1
    simp only
    rw [dec_f (by decide), show 4 * i + 4 = 4 * (i + 1) by omega])
theorem in_ok (x : W4) : seneschalref06_In_p x = some (ud (nv x)) := by
  unfold seneschalref06_In_p
  have key : iter (seneschalref06_In_b0 x) ((0 : Int), ([] : List UInt32)) = some (um (dl (nv x) (4 * 4))) :=
    iter_run (fun i => ((i : Int), um (dl (nv x) (4 * i)))) 4 (by decide) _ (fun i hi => by
      unfold seneschalref06_In_b0
      simp only
      rw [dec_t (by omega), in_inner x hi, w64_n (n := i + 1) (by omega) (by omega)]
      rfl) (by
      unfold seneschalref06_In_b0
      simp only
      rw [dec_f (by decide)])
  rw [key]
  simp only [Option.bind_some]
  rw [trim_ok (by show (dl (nv x) 16).length ≤ _; rw [dl_length]; decide) (DL_dl _ _), in_fin (nv_lt x) rfl]
  rfl
/-! ### Out -/
theorem word_add {X d q r j : Nat} (hX : X < 2 ^ (64 * q + 16 * r)) (hr : r < 4) (hd : d < 65536) :
    (X + d * 2 ^ (64 * q + 16 * r)) / 2 ^ (64 * j) % 2 ^ 64 = if j = q then X / 2 ^ (64 * q) + d * 2 ^ (16 * r) else X / 2 ^ (64 * j) % 2 ^ 64 := by
  by_cases hj : j = q
  · subst hj
    rw [if_pos rfl, Nat.pow_add, Nat.mul_comm (2 ^ (64 * j)), ← Nat.mul_assoc, Nat.add_mul_div_right _ _ (Nat.two_pow_pos _)]
    refine Nat.mod_eq_of_lt ?_
    have h1 : X / 2 ^ (64 * j) < 2 ^ (16 * r) := Nat.div_lt_of_lt_mul (by rwa [← Nat.pow_add])
    rcases (by omega : r = 0 ∨ r = 1 ∨ r = 2 ∨ r = 3) with rfl | rfl | rfl | rfl
    all_goals simp only [Nat.reduceMul, Nat.reducePow] at h1 ⊢
    all_goals omega
  · rw [if_neg hj]
    by_cases hlt : j < q
    · obtain ⟨e, rfl⟩ : ∃ e, q = j + 1 + e := ⟨q - (j + 1), by omega⟩
      have e1 : d * 2 ^ (64 * (j + 1 + e) + 16 * r) = 2 ^ 64 * (d * 2 ^ (64 * e + 16 * r)) * 2 ^ (64 * j) := by
        rw [Nat.mul_assoc (2 ^ 64), Nat.mul_assoc d, ← Nat.pow_add, Nat.mul_left_comm, ← Nat.pow_add]
        congr 2; omega
      rw [e1, Nat.add_mul_div_right _ _ (Nat.two_pow_pos _), Nat.add_mul_mod_self_left]
    · have h1 : 2 ^ (64 * q + 16 * r + 16) ≤ 2 ^ (64 * j) := Nat.pow_le_pow_right (by decide) (by omega)
      have h2 : X + d * 2 ^ (64 * q + 16 * r) < 2 ^ (64 * q + 16 * r + 16) := by
        rw [Nat.pow_add (n := 16)]
        have : d * 2 ^ (64 * q + 16 * r) ≤ 65535 * 2 ^ (64 * q + 16 * r) := Nat.mul_le_mul_right _ (by omega)
        generalize 2 ^ (64 * q + 16 * r) = Y at *
        omega
      rw [Nat.div_eq_of_lt (Nat.lt_of_lt_of_le h2 h1), Nat.div_eq_of_lt (Nat.lt_of_lt_of_le (Nat.lt_of_le_of_lt (Nat.le_add_right _ _) h2) h1)]
theorem pow65 (i : Nat) : (65536 : Nat) ^ i = 2 ^ (64 * (i / 4) + 16 * (i % 4)) := by
  rw [show (65536 : Nat) = 2 ^ 16 from rfl, ← Nat.pow_mul]; congr 1; omega
theorem of64 {a b : Nat} (h : a % 2 ^ 64 = b % 2 ^ 64) : UInt64.ofNat a = UInt64.ofNat b := by
  apply UInt64.toNat_inj.1
  simp only [UInt64.toNat_ofNat']; exact h
theorem out_word {A i j : Nat} : UInt64.ofNat (A % 65536 ^ (i + 1) / 2 ^ (64 * j)) = if j = i / 4 then UInt64.ofNat (A % 65536 ^ i / 2 ^ (64 * (i / 4)) + dg A i * 2 ^ (16 * (i % 4))) else UInt64.ofNat (A % 65536 ^ i / 2 ^ (64 * j)) := by
  have hX : A % 65536 ^ i < 2 ^ (64 * (i / 4) + 16 * (i % 4)) := by rw [← pow65]; exact Nat.mod_lt _ (Nat.pow_pos (by decide))
  have h := word_add (d := dg A i) (q := i / 4) (r := i % 4) (j := j) hX (Nat.mod_lt _ (by decide)) (dg_lt A i)
  rw [mod_succ]
  conv at h => lhs; rw [← pow65 i]
  by_cases hj : j = i / 4
  · rw [if_pos hj] at h ⊢
    refine of64 ?_
    rw [h]
    refine (Nat.mod_eq_of_lt ?_).symm
    rw [← h]
    exact Nat.mod_lt _ (by decide)
  · rw [if_neg hj] at h ⊢
    exact of64 h
theorem out_or {A i : Nat} {b : Int} (hi : i < 16) (hb : b = ((16 * (i % 4) : Nat) : Int)) :
    UInt64.ofNat (A % 65536 ^ i / 2 ^ (64 * (i / 4))) ||| i64 (shlI .u64 (((i64 (((UInt32.ofNat (dg A i)).toNat : Int))).toNat : Int)) b) = UInt64.ofNat (A % 65536 ^ i / 2 ^ (64 * (i / 4)) + dg A i * 2 ^ (16 * (i % 4))) := by
  subst hb
  have hd := dg_lt A i
  have hX : A % 65536 ^ i < 2 ^ (64 * (i / 4)) * 2 ^ (16 * (i % 4)) := by rw [← Nat.pow_add, ← pow65]; exact Nat.mod_lt _ (Nat.pow_pos (by decide))
  have h1 : A % 65536 ^ i / 2 ^ (64 * (i / 4)) < 2 ^ (16 * (i % 4)) := Nat.div_lt_of_lt_mul hX
  have hr : i % 4 < 4 := Nat.mod_lt _ (by decide)
  generalize A % 65536 ^ i / 2 ^ (64 * (i / 4)) = Y at *
  generalize i % 4 = r at *
  generalize dg A i = d at *
  have h2 : Y + d * 2 ^ (16 * r) < 2 ^ 64 ∧ d * 2 ^ (16 * r) < 2 ^ 64 ∧ Y < 2 ^ 64 := by
    rcases (by omega : r = 0 ∨ r = 1 ∨ r = 2 ∨ r = 3) with rfl | rfl | rfl | rfl
    all_goals simp only [Nat.reduceMul, Nat.reducePow] at h1 ⊢
    all_goals omega
  have h3 : i64 (shlI .u64 (((i64 (((UInt32.ofNat d).toNat : Int))).toNat : Int)) ((16 * r : Nat) : Int)) = UInt64.ofNat (d * 2 ^ (16 * r)) := by
    rw [un16 hd, i64_n, un64 (by omega)]
    unfold shlI
    rw [Int.toNat_natCast, Nat.min_eq_left (show 16 * r ≤ IntKind.u64.bits by show 16 * r ≤ 64; omega)]
    have e : ((d : Int) * 2 ^ (16 * r)) = ((d * 2 ^ (16 * r) : Nat) : Int) := by rw [Int.natCast_mul, Int.natCast_pow]; rfl
    rw [e, wrapS rfl h2.2.1, i64_n]
  rw [h3]
  apply UInt64.toNat_inj.1
  rw [UInt64.toNat_or, un64 h2.2.2, un64 h2.2.1, un64 h2.1, Nat.or_comm, Nat.mul_comm, ← Nat.two_pow_add_eq_or_of_lt h1, Nat.add_comm]
theorem out_set (x : W4) {q : Nat} {j : Int} (u : UInt64) (hj : j = (q : Int)) (hq : q < 4) : ∃ l, setL ([x.1, x.2.1, x.2.2.1, x.2.2.2] : List UInt64) j u = some l ∧ ∀ p, p < 4 → l.getD p (0 : UInt64) = if p = q then u else wd x p := by
  subst hj
  refine ⟨_, setL_ok rfl (by simpa using hq), fun p hp => ?_⟩
  rcases (by omega : q = 0 ∨ q = 1 ∨ q = 2 ∨ q = 3) with rfl | rfl | rfl | rfl <;> rcases (by omega : p = 0 ∨ p = 1 ∨ p = 2 ∨ p = 3) with rfl | rfl | rfl | rfl <;> rfl
theorem out_body {A i : Nat} (hi : i < (digs A).length) (hA : A < two256) : seneschalref06_Out_b0 (ud A) ((i : Int), tv (A % 65536 ^ i)) = some (.inl (((i + 1 : Nat) : Int), tv (A % 65536 ^ (i + 1)))) := by
  have h16 : (digs A).length ≤ 16 := digs_len_le (k := 16) hA
  have hq : w64 (Int.tdiv (i : Int) 4) = ((i / 4 : Nat) : Int) := by
    rw [show (4 : Int) = ((4 : Nat) : Int) from rfl, ← Int.ofNat_tdiv]; exact w64_n rfl (by omega)
  have hr : Int.tmod (i : Int) 4 = ((i % 4 : Nat) : Int) := by rw [show (4 : Int) = ((4 : Nat) : Int) from rfl, ← Int.ofNat_tmod]
  unfold seneschalref06_Out_b0
  simp only [um_len]
  rw [dec_t (by omega), hq, wd_get (tv (A % 65536 ^ i)) rfl (by omega), idx_um rfl (digs_some hi), hr, w64_n (n := 16 * (i % 4)) (by omega) (by omega), chk_ok (decide_eq_true (Int.natCast_nonneg _))]
  simp only [Option.bind_some]
  rw [show A / 65536 ^ i % 65536 = dg A i from rfl, wd_tv _ (by omega), out_or (by omega) rfl]
  obtain ⟨l, e, hl⟩ := out_set (tv (A % 65536 ^ i)) (q := i / 4) (UInt64.ofNat (A % 65536 ^ i / 2 ^ (64 * (i / 4)) + dg A i * 2 ^ (16 * (i % 4)))) rfl (by omega)
  rw [e]
  simp only [Option.bind_some]
  have key : ∀ p, p < 4 → l.getD p (0 : UInt64) = UInt64.ofNat (A % 65536 ^ (i + 1) / 2 ^ (64 * p)) := fun p hp => by
    rw [hl p hp, out_word, wd_tv _ hp]
  rw [key 0 (by decide), key 1 (by decide), key 2 (by decide), key 3 (by decide), w64_n (n := i + 1) (by omega) (by omega)]
  rfl
theorem tv_0 : tv 0 = ((0 : UInt64), (0 : UInt64), (0 : UInt64), (0 : UInt64)) := by rfl
theorem out_ok {A : Nat} (hA : A < two256) : seneschalref06_Out_p (ud A) = some (tv A) := by
  have h16 : (digs A).length ≤ 16 := digs_len_le (k := 16) hA
  unfold seneschalref06_Out_p
  have key : iter (seneschalref06_Out_b0 (ud A)) ((0 : Int), (0 : UInt64), (0 : UInt64), (0 : UInt64), (0 : UInt64)) = some (tv A) := by
    have := iter_run (body := seneschalref06_Out_b0 (ud A)) (fun i => ((i : Int), tv (A % 65536 ^ i))) (digs A).length (by omega) (tv A) (fun i hi => out_body hi hA) (by
      unfold seneschalref06_Out_b0
      simp only [um_len]
      rw [dec_f (by omega), mod_len (Nat.le_refl _)])
    rw [show ((0 : Int), (0 : UInt64), (0 : UInt64), (0 : UInt64), (0 : UInt64)) = (((0 : Nat) : Int), tv (A % 65536 ^ 0)) by rw [Nat.pow_zero, Nat.mod_one, tv_0]; rfl]
    exact this
  rw [key]; rfl
end
end Go.Proofs.Ytjmgilhlpohcmaa
