/- Digits: halves and inverses as the document reckons them: plain laws. Conditions: as each theorem says. -/
import Derived.Test.YtjmgilhlpohcmaaRfI
import Derived.Test.YtjmgilhlpohcmaaRdd
namespace Go.Proofs.Ytjmgilhlpohcmaa
open Go Go.RowKit
theorem half_body {A k c : Nat} {ol : List Nat} (hl : lim (digs A)) (hk : 0 < k) (hkl : k ≤ (digs A).length) (hol : ol.length = (digs A).length) (hc : c ≤ 1) :
    seneschalref06_half_b0 (ud A) (UInt32.ofNat c, (k : Int) - 1, um ol) = some (.inl (UInt32.ofNat ((c * 65536 + dg A (k - 1)) % 2), ((k - 1 : Nat) : Int) - 1, um (ol.set (k - 1) ((c * 65536 + dg A (k - 1)) / 2)))) := by
  have hd := dg_lt A (k - 1)
  have hl' : (digs A).length ≤ 1099511627 := hl
  unfold seneschalref06_half_b0
  simp only
  rw [dec_t (by omega), show (k : Int) - 1 = ((k - 1 : Nat) : Int) by omega, idx_um rfl (digs_some (by omega))]
  simp only [Option.bind_some]
  obtain ⟨z, hz⟩ : ∃ z, ol[k - 1]? = some z := ⟨_, List.getElem?_eq_getElem (by omega)⟩
  rw [idx_um rfl hz]
  simp only [Option.bind_some]
  rw [show A / 65536 ^ (k - 1) % 65536 = dg A (k - 1) from rfl]
  have e1 : i32 (shlI .u32 ((UInt32.ofNat c).toNat : Int) 16) ||| UInt32.ofNat (dg A (k - 1)) = UInt32.ofNat (c * 65536 + dg A (k - 1)) := by
    have : i32 (shlI .u32 ((UInt32.ofNat c).toNat : Int) 16) = UInt32.ofNat (c * 65536) := by
      rw [un (by omega)]
      unfold shlI
      rw [shl16 hc, i32_n]
    rw [this]
    apply UInt32.toNat_inj.1
    rw [UInt32.toNat_or, un (by omega), un (by omega), un (by omega), show c * 65536 = 2 ^ 16 * c by omega, ← Nat.two_pow_add_eq_or_of_lt (by omega)]
  rw [e1]
  have e2 : i32 (shrI .u32 ((UInt32.ofNat (c * 65536 + dg A (k - 1))).toNat : Int) 1) = UInt32.ofNat ((c * 65536 + dg A (k - 1)) / 2) := by
    rw [un (by omega), show (1 : Int) = ((1 : Nat) : Int) from rfl, shr_n (by decide), i32_n]
  have e3 : UInt32.ofNat (c * 65536 + dg A (k - 1)) &&& 1 = UInt32.ofNat ((c * 65536 + dg A (k - 1)) % 2) := by
    apply UInt32.toNat_inj.1
    rw [UInt32.toNat_and, un (by omega), un (by omega)]
    exact Nat.and_two_pow_sub_one_eq_mod _ 1
  rw [e2, e3, setL_um rfl (by omega), w64_i (by omega) (by omega)]
  rfl
theorem half_ok {A : Nat} (hl : lim (digs A)) : seneschalref06_half_p (ud A) = some (ud (A / 2)) := by
  have hl' : (digs A).length ≤ 1099511627 := hl
  unfold seneschalref06_half_p
  simp only [um_len]
  rw [mk_um rfl (by omega), w64_i (by omega) (by omega)]
  simp only [Option.bind_some]
  obtain ⟨b, hb, ol, rfl, hol, hd, hv⟩ := iter_ind (body := seneschalref06_half_b0 (ud A))
    (fun s => ∃ (k c : Nat) (ol : List Nat), s = (UInt32.ofNat c, (k : Int) - 1, um ol) ∧ k ≤ (digs A).length ∧ ol.length = (digs A).length ∧ DL ol ∧ c ≤ 1 ∧ c = A / 65536 ^ k % 2 ∧ dval (ol.drop k) = A / 65536 ^ k / 2)
    (fun s => (s.2.1 + 1).toNat) (fun b => ∃ ol : List Nat, b = um ol ∧ ol.length = (digs A).length ∧ DL ol ∧ dval ol = A / 2) ((0 : UInt32), ((digs A).length : Int) - 1, um (fl (fun _ => 0) (digs A).length))
    ⟨(digs A).length, 0, _, rfl, Nat.le_refl _, fl_length _ _, DL_fl (fun _ => Nat.zero_lt_succ _) _, by decide, by rw [above_top (Nat.le_refl _)], by rw [above_top (Nat.le_refl _), List.drop_eq_nil_of_le (by rw [fl_length]; exact Nat.le_refl _)]; rfl⟩ (by simp; omega) (by
      rintro s ⟨k, c, ol, rfl, hk, hol, hd, hc, hcv, hv⟩
      by_cases h : 0 < k
      · have hs := half_step h (by omega) hcv hv
        have hdg := dg_lt A (k - 1)
        refine .inl ⟨_, half_body hl h hk hol hc, ⟨k - 1, _, _, rfl, by omega, by rw [List.length_set]; exact hol, ?_, by omega, hs.1, hs.2⟩, ?_⟩
        · intro d hdm
          rcases List.mem_or_eq_of_mem_set hdm with h2 | h2
          · exact hd d h2
          · rw [h2]; omega
        · show (((k - 1 : Nat) : Int) - 1 + 1).toNat < ((k : Int) - 1 + 1).toNat
          omega
      · obtain rfl : k = 0 := by omega
        refine .inr ⟨_, ?_, ol, rfl, hol, hd, by simpa using hv⟩
        unfold seneschalref06_half_b0
        rw [dec_f (by simp)])
  rw [hb]
  simp only [Option.bind_some]
  rw [trim_ok (by show ol.length ≤ _; omega) hd, hv]
  rfl
theorem odd_ok {A : Nat} (hl : lim (digs A)) : seneschalref06_odd_p (ud A) = some (decide (A % 2 = 1)) := by
  unfold seneschalref06_odd_p
  simp only [um_len]
  by_cases h : 0 < (digs A).length
  · rw [dec_t (by omega), idx_um (i := 0) (j := 0) rfl (digs_some h)]
    simp only [Option.bind_some]
    have hd := dg_lt A 0
    rw [show A / 65536 ^ 0 % 65536 = dg A 0 from rfl, un16 hd, rem2, i32_n, un (by omega), odd_fin h]
  · rw [dec_f (by omega)]
    simp only [Option.bind_some]
    rw [odd_fin0 h]
theorem halved_ok {A p : Nat} (hA : small A) (hp : small p) : seneschalref06_halved_p (ud A) (ud p) = some (ud (hav p A)) := by
  have hA' : (digs A).length < 1000 := hA
  have hp' : (digs p).length < 1000 := hp
  unfold seneschalref06_halved_p hav
  rw [odd_ok (small_lim hA)]
  simp only [Option.bind_some]
  by_cases h : A % 2 = 1
  · have h3 := len_add (k := 1000) (Nat.le_of_lt hA') (Nat.le_of_lt hp')
    rw [dec_t h, add_ok (small_lim hA) (small_lim hp) (by omega), if_pos h]
    simp only [Option.bind_some]
    rw [half_ok (by show _ ≤ _; omega)]; rfl
  · rw [dec_f h, if_neg h]
    simp only [Option.bind_some]
    rw [half_ok (small_lim hA)]; rfl
theorem less_ok {A B p : Nat} (hA : small A) (hB : small B) (hp : small p) (hBp : B ≤ p) : seneschalref06_less_p (ud A) (ud B) (ud p) = some (ud (lev p A B)) := by
  have hA' : (digs A).length < 1000 := hA
  have hp' : (digs p).length < 1000 := hp
  unfold seneschalref06_less_p lev
  rw [cmp_ok (small_lim hA) (small_lim hB)]
  simp only [Option.bind_some]
  by_cases h : A < B
  · have h3 := len_add (k := 1000) (Nat.le_of_lt hA') (Nat.le_of_lt hp')
    rw [dec_t (cmpI_lt.2 h), add_ok (small_lim hA) (small_lim hp) (by omega), if_pos h]
    simp only [Option.bind_some]
    rw [sub_ok (by show _ ≤ _; omega) (by omega)]; rfl
  · rw [dec_f (fun h2 => h (cmpI_lt.1 h2)), if_neg h]
    simp only [Option.bind_some]
    rw [sub_ok (small_lim hA) (by omega)]; rfl
/-! ### The inverse -/
theorem log_half {u : Nat} (hu : u % 2 ≠ 1) (h0 : 0 < u) : Nat.log2 (u / 2) < Nat.log2 u := by
  rw [Nat.log2_def u, if_pos (by omega)]; omega
theorem log_mono {a b : Nat} (h : a ≤ b) : Nat.log2 a ≤ Nat.log2 b := by
  by_cases ha : a = 0
  · subst ha; simp
  · refine (Nat.le_log2 (by omega)).2 (Nat.le_trans (Nat.log2_self_le ha) h)
theorem log_lt {u : Nat} (h : u < two256) : Nat.log2 u < 256 := by
  by_cases hu : u = 0
  · subst hu; decide
  · exact (Nat.log2_lt hu).2 h
theorem small_mod (m : Int) {x : Nat} (h : x ≤ modN m) : small x := Nat.lt_of_le_of_lt (digs_mono h) (by rw [len_modN]; decide)

theorem InvI.sm {m : Int} {A u v x y : Nat} (h : InvI m A u v x y) : small u ∧ small v ∧ small x ∧ small y := ⟨small_mod m h.ul, small_mod m h.vl, small_mod m (Nat.le_of_lt h.xl), small_mod m (Nat.le_of_lt h.yl)⟩
theorem nm_ud (A : Nat) : dval (nm (ud A)) = A := by rw [nm_um (digs_DL A), dval_digs]
/-- One number is halved till it is odd. -/
theorem inv_halves {m : Int} {A u v x y : Nat} (b : List UInt32 × List UInt32 → Option ((List UInt32 × List UInt32) ⊕ (List UInt32 × List UInt32)))
    (hb : ∀ s, b s = Option.bind (seneschalref06_odd_p s.1) fun y5 => bif (!y5) then (Option.bind (seneschalref06_half_p s.1) fun y6 => Option.bind (seneschalref06_halved_p s.2 (ud (modN m))) fun y7 => some (.inl ((y6, y7)))) else (some (.inr ((s.1, s.2)))))
    (h : InvI m A u v x y) : ∃ u' x', iter b (ud u, ud x) = some (ud u', ud x') ∧ InvI m A u' v x' y ∧ u' % 2 = 1 ∧ u' ≤ u ∧ (u' = u ∨ u % 2 ≠ 1 ∧ Nat.log2 u' < Nat.log2 u) := by
  obtain ⟨r, hr, u', x', rfl, hI, ho, hle, hlg⟩ := iter_ind (body := b)
    (fun s => ∃ u' x', s = (ud u', ud x') ∧ InvI m A u' v x' y ∧ u' ≤ u ∧ (u' = u ∨ u % 2 ≠ 1 ∧ Nat.log2 u' < Nat.log2 u)) (fun s => Nat.log2 (dval (nm s.1)))
    (fun r => ∃ u' x', r = (ud u', ud x') ∧ InvI m A u' v x' y ∧ u' % 2 = 1 ∧ u' ≤ u ∧ (u' = u ∨ u % 2 ≠ 1 ∧ Nat.log2 u' < Nat.log2 u)) (ud u, ud x) ⟨u, x, rfl, h, Nat.le_refl _, .inl rfl⟩ (by
      show Nat.log2 (dval (nm (ud u))) < _
      rw [nm_ud]
      have := log_lt (Nat.lt_of_le_of_lt h.ul (modN_two m)); omega) (by
      rintro s ⟨u', x', rfl, hI, hle, hlg⟩
      rw [hb]
      simp only
      have hs := hI.sm
      rw [odd_ok (small_lim hs.1)]
      simp only [Option.bind_some]
      by_cases ho : u' % 2 = 1
      · refine .inr ⟨(ud u', ud x'), ?_, u', x', rfl, hI, ho, hle, hlg⟩
        rw [show decide (u' % 2 = 1) = true from decide_eq_true ho]; rfl
      · have hl2 := log_half ho hI.u0
        refine .inl ⟨(ud (u' / 2), ud (hav (modN m) x')), ?_, ⟨u' / 2, _, rfl, hI.half ho, by omega, .inr ?_⟩, ?_⟩
        · rw [show decide (u' % 2 = 1) = false from decide_eq_false ho, half_ok (small_lim hs.1), halved_ok hs.2.2.1 (small_mod m (Nat.le_refl _))]; rfl
        · rcases hlg with rfl | ⟨h4, h3⟩
          · exact ⟨ho, hl2⟩
          · exact ⟨h4, by omega⟩
        · show Nat.log2 (dval (nm (ud (u' / 2)))) < Nat.log2 (dval (nm (ud u')))
          rw [nm_ud, nm_ud]; exact hl2)
  exact ⟨u', x', hr, hI, ho, hle, hlg⟩
theorem b1_shape {p : Nat} (s : List UInt32 × List UInt32) : seneschalref06_Inverse_b1 (ud p) s = Option.bind (seneschalref06_odd_p s.1) fun y5 => bif (!y5) then (Option.bind (seneschalref06_half_p s.1) fun y6 => Option.bind (seneschalref06_halved_p s.2 (ud p)) fun y7 => some (.inl ((y6, y7)))) else (some (.inr ((s.1, s.2)))) := rfl
theorem b2_shape {p : Nat} (s : List UInt32 × List UInt32) : seneschalref06_Inverse_b2 (ud p) s = Option.bind (seneschalref06_odd_p s.1) fun y5 => bif (!y5) then (Option.bind (seneschalref06_half_p s.1) fun y6 => Option.bind (seneschalref06_halved_p s.2 (ud p)) fun y7 => some (.inl ((y6, y7)))) else (some (.inr ((s.1, s.2)))) := rfl
theorem ud_1 : ([(1 : UInt32)] : List UInt32) = ud 1 := by
  show _ = um (digs 1)
  rw [digs_pos (by decide)]; simp [digs_0, um]
def invM (u v : Nat) : Nat := 2 * (Nat.log2 u + Nat.log2 v) + (if u % 2 = 1 ∧ v % 2 = 1 then 1 else 0)
theorem inverse_body {m : Int} {A u v x y : Nat} (h : InvI m A u v x y) :
    (∃ u' v' x' y', seneschalref06_Inverse_b0 (ud (modN m)) (ud u, ud v, ud x, ud y) = some (.inl (ud u', ud v', ud x', ud y')) ∧ InvI m A u' v' x' y' ∧ invM u' v' < invM u v) ∨
      (seneschalref06_Inverse_b0 (ud (modN m)) (ud u, ud v, ud x, ud y) = some (.inr (ud u, ud x, ud y)) ∧ (u = 1 ∨ v = 1)) := by
  have hs := h.sm
  have hl1 : lim (digs 1) := small_lim (small_lt (by decide))
  unfold seneschalref06_Inverse_b0
  simp only
  rw [ud_1, cmp_ok (small_lim hs.1) hl1]
  simp only [Option.bind_some]
  by_cases hu : u = 1
  · refine .inr ⟨?_, .inl hu⟩
    rw [show (cmpI u 1 != 0) = false by simp [cmpI_eq.2 hu]]; rfl
  · rw [show (cmpI u 1 != 0) = true by rw [bne_iff_ne]; exact fun e => hu (cmpI_eq.1 e), cmp_ok (small_lim hs.2.1) hl1]
    simp only [cond_true, Option.bind_some]
    by_cases hv : v = 1
    · refine .inr ⟨?_, .inr hv⟩
      rw [show (cmpI v 1 != 0) = false by simp [cmpI_eq.2 hv]]; rfl
    · rw [show (cmpI v 1 != 0) = true by rw [bne_iff_ne]; exact fun e => hv (cmpI_eq.1 e)]
      simp only [cond_true]
      refine .inl ?_
      obtain ⟨u1, x1, e1, hI1, ho1, hle1, hlg1⟩ := inv_halves (seneschalref06_Inverse_b1 (ud (modN m))) b1_shape h
      obtain ⟨v1, y1, e2, hI2, ho2, hle2, hlg2⟩ := inv_halves (seneschalref06_Inverse_b2 (ud (modN m))) b2_shape hI1.swap
      have hI := hI2.swap
      have hs2 := hI.sm
      rw [e1, e2]
      simp only [Option.bind_some]
      rw [cmp_ok (small_lim hs2.1) (small_lim hs2.2.1)]
      simp only [Option.bind_some]
      have hyp := Nat.le_of_lt hI.yl
      have hxp := Nat.le_of_lt hI.xl
      have ml1 := log_mono hle1
      have ml2 := log_mono hle2
      have hne : u1 ≠ v1 := hI.ne (by
        by_cases h1 : u % 2 = 1
        · rcases hlg1 with e | ⟨h2, _⟩
          · exact .inl (by rw [e]; exact hu)
          · exact absurd h1 h2
        · have h3 := h.odd h1
          rcases hlg2 with e | ⟨h2, _⟩
          · exact .inr (by rw [e]; exact hv)
          · exact absurd h3 h2)
      have hbase : 2 * (Nat.log2 u1 + Nat.log2 v1) < invM u v := by
        unfold invM
        by_cases h1 : u % 2 = 1 ∧ v % 2 = 1
        · rw [if_pos h1]; omega
        · rw [if_neg h1]
          by_cases h2 : u % 2 = 1
          · have h4 : v % 2 ≠ 1 := fun e => h1 ⟨h2, e⟩
            rcases hlg2 with e | ⟨_, h3⟩
            · exact absurd (e ▸ ho2) h4
            · omega
          · rcases hlg1 with e | ⟨_, h3⟩
            · exact absurd (e ▸ ho1) h2
            · omega
      by_cases hlt : v1 < u1
      · refine ⟨u1 - v1, v1, lev (modN m) x1 y1, y1, ?_, hI.sub hlt, ?_⟩
        · rw [dec_t (cmpI_ge.2 (by omega)), sub_ok (small_lim hs2.1) (by omega), less_ok hs2.2.2.1 hs2.2.2.2 (small_mod m (Nat.le_refl _)) hyp]; rfl
        · have := log_mono (Nat.sub_le u1 v1)
          have hev : ¬ ((u1 - v1) % 2 = 1 ∧ v1 % 2 = 1) := fun e => by omega
          show invM (u1 - v1) v1 < invM u v
          rw [invM, if_neg hev]; omega
      · refine ⟨u1, v1 - u1, x1, lev (modN m) y1 x1, ?_, (hI.swap.sub (by omega)).swap, ?_⟩
        · rw [dec_f (fun e => hlt (by have := cmpI_ge.1 e; omega)), sub_ok (small_lim hs2.2.1) (by omega), less_ok hs2.2.2.2 hs2.2.2.1 (small_mod m (Nat.le_refl _)) hxp]; rfl
        · have := log_mono (Nat.sub_le v1 u1)
          have hev : ¬ (u1 % 2 = 1 ∧ (v1 - u1) % 2 = 1) := fun e => by omega
          show invM u1 (v1 - u1) < invM u v
          rw [invM, if_neg hev]; omega
theorem inverse_ok (m : Int) {A : Nat} (hA : small A) (h0 : A % modN m ≠ 0) : seneschalref06_Inverse_p m (ud A) = some (ud (A ^ (modN m - 2) % modN m)) := by
  unfold seneschalref06_Inverse_p
  rw [modulus_ok]
  simp only [Option.bind_some]
  rw [left_ok (small_lim hA) (len_modN m)]
  simp only [Option.bind_some]
  rw [ud_1, show ([] : List UInt32) = ud 0 by simp [digs_0, um]]
  obtain ⟨b, hb, u, v, x, y, rfl, hI, h1⟩ := iter_ind (body := seneschalref06_Inverse_b0 (ud (modN m)))
    (fun s => ∃ u v x y, s = (ud u, ud v, ud x, ud y) ∧ InvI m A u v x y) (fun s => invM (dval (nm s.1)) (dval (nm s.2.1)))
    (fun b => ∃ u v x y, b = (ud u, ud x, ud y) ∧ InvI m A u v x y ∧ (u = 1 ∨ v = 1)) (ud (A % modN m), ud (modN m), ud 1, ud 0) ⟨_, _, _, _, rfl, InvI.init h0⟩ (by
      show invM (dval (nm (ud _))) (dval (nm (ud _))) < _
      rw [nm_ud, nm_ud]
      have h1 := log_lt (modN_two m)
      have h2 := log_mono (Nat.le_of_lt (Nat.mod_lt A (modN_pos m)))
      unfold invM
      split <;> omega) (by
      rintro s ⟨u, v, x, y, rfl, hI⟩
      rcases inverse_body hI with ⟨u', v', x', y', e, hI', hlt⟩ | ⟨e, h1⟩
      · refine .inl ⟨_, e, ⟨u', v', x', y', rfl, hI'⟩, ?_⟩
        show invM (dval (nm (ud u'))) (dval (nm (ud v'))) < invM (dval (nm (ud u))) (dval (nm (ud v)))
        rw [nm_ud, nm_ud, nm_ud, nm_ud]; exact hlt
      · exact .inr ⟨_, e, u, v, x, y, rfl, hI, h1⟩)
  rw [hb]
  simp only [Option.bind_some]
  rw [cmp_ok (small_lim hI.sm.1) (small_lim (small_lt (by decide)))]
  simp only [Option.bind_some]
  by_cases hu : u = 1
  · rw [show (cmpI u 1 == 0) = true by simp [cmpI_eq.2 hu]]
    simp only [cond_true]
    rw [hI.fin h0 hu]
  · rw [show (cmpI u 1 == 0) = false by rw [beq_false_of_ne]; exact fun e => hu (cmpI_eq.1 e)]
    simp only [cond_false]
    rw [hI.swap.fin h0 (h1.resolve_left hu)]
end Go.Proofs.Ytjmgilhlpohcmaa
