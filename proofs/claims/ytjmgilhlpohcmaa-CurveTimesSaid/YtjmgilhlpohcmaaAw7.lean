/- Points and their bytes, there and back; what the calls of awake (layer 7) answer: plain lemmas. Conditions: as each theorem says. -/
import Derived.Test.YtjmgilhlpohcmaaCrv
import Derived.Test.YtjmgilhlpohcmaaAw6
import Derived.KernelRfl
namespace Go.Proofs.Ytjmgilhlpohcmaa
open Go Go.RowKit
abbrev GG : Ap := (GX, GY, false)
theorem ptb_eq {a b : Ap} (h : a = b) : (a.1 == b.1 && (a.2.1 == b.2.1 && a.2.2 == b.2.2)) = true := by subst h; simp
theorem ptb_ne {a b : Ap} (h : a = b) : (!(a.1 == b.1 && (a.2.1 == b.2.1 && a.2.2 == b.2.2))) = false := by rw [ptb_eq h]; rfl
theorem ptb_f {a b : Ap} (h : a ≠ b) : (a.1 == b.1 && (a.2.1 == b.2.1 && a.2.2 == b.2.2)) = false := by
  cases e : a.1 == b.1 && (a.2.1 == b.2.1 && a.2.2 == b.2.2)
  · rfl
  · simp at e; exact absurd (Prod.ext e.1 (Prod.ext e.2.1 e.2.2)) h
theorem AL_GG : AL GG := ⟨of_decide_eq_true (by kernel_rfl), of_decide_eq_true (by kernel_rfl)⟩
theorem AL_cofV (l : List UInt8) : AL (cofV l) := by
  unfold cofV
  cases l == [0]
  · cases cofB l
    · exact AL_0 _
    · exact ⟨ofV_lt2 _ _, ofV_lt2 _ _⟩
  · exact AL_0 _
theorem cby_len (t : Ap) : (cby t).length < 4611686018427387904 := by
  unfold cby
  cases onT t
  · exact (by decide : (0 : Nat) < 4611686018427387904)
  · cases t.2.2
    · simp [be_length]
    · exact (by decide : (1 : Nat) < 4611686018427387904)
theorem ofE_0 {l : List UInt8} {m : Int} (h : (ofE m l == 0) = true) : ofOK m l = true := by
  cases e : ofOK m l
  · rw [(of_f e).2] at h; cases h
  · rfl
/-- A point's bytes are read as the point. -/
theorem cof_cby {p : Ap} (h : onT p = true) : cofV (cby p) = p ∧ cofE (cby p) = 0 := by
  obtain ⟨x, y, i⟩ := p
  cases i
  · have hxy := onB_lt h
    rw [(cby_t (t := (x, y, false)) h rfl).1]
    have hx : x < modN 0 := hxy.1
    have hy : y < modN 0 := hxy.2
    have e1 : ((4 :: (be 32 x ++ be 32 y) : List UInt8).drop 1).take 32 = be 32 x := by
      rw [List.drop_succ_cons, List.drop_zero, List.take_append_of_le_length (by rw [be_length]; omega), List.take_of_length_le (by rw [be_length]; omega)]
    have e2 : (4 :: (be 32 x ++ be 32 y) : List UInt8).drop 33 = be 32 y := by
      rw [List.drop_succ_cons, List.drop_append_of_le_length (by rw [be_length]; omega), List.drop_of_length_le (by rw [be_length]; omega), List.nil_append]
    have h0 : ((4 :: (be 32 x ++ be 32 y) : List UInt8) == [0]) = false := by simp
    have hX : cofX (4 :: (be 32 x ++ be 32 y)) = x := by rw [cofX, e1]; exact (of_beV hx).1
    have hY : cofY (4 :: (be 32 x ++ be 32 y)) = y := by rw [cofY, e2]; exact (of_beV hy).1
    have hB : cofB (4 :: (be 32 x ++ be 32 y)) = true := by
      rw [cofB, hX, hY, e1, e2, (of_beV hx).2, (of_beV hy).2, show onB x y false = true from h]
      simp [be_length]
    have h1 := cof_t h0 hB
    rw [hX, hY] at h1
    exact h1
  · have hz : x = 0 ∧ y = 0 := by
      have : (x == 0 && y == 0) = true := h
      simpa using this
    obtain ⟨rfl, rfl⟩ := hz
    rw [(cby_0 (t := (0, 0, true)) h rfl).1]
    exact cof_0 rfl
/-- What is read of bytes is told by the same bytes. -/
theorem cby_cof {l : List UInt8} (h : (cofE l != 0) = false) : onT (cofV l) = true ∧ cby (cofV l) = l := by
  cases h0 : l == [0]
  · cases hB : cofB l
    · rw [(cof_f h0 hB).2] at h; cases h
    · rw [(cof_t h0 hB).1]
      have hB' := hB
      rw [cofB] at hB'
      simp only [Bool.and_eq_true] at hB'
      obtain ⟨⟨h1, h2⟩, h3, h4, h5⟩ := hB'
      refine ⟨h5, ?_⟩
      rw [(cby_t (t := (cofX l, cofY l, false)) h5 rfl).1]
      show 4 :: (be 32 (cofX l) ++ be 32 (cofY l)) = l
      rw [cofX, cofY, be_ofV (ofE_0 h3), be_ofV (ofE_0 h4)]
      match l, h1, h2 with
      | c :: m, h1, h2 =>
        have hc : c = 4 := by simpa using h2
        subst hc
        simp only [List.drop_succ_cons, List.drop_zero]
        congr 1
        exact List.take_append_drop 32 m
  · obtain rfl : l = [0] := by simpa using h0
    rw [(cof_0 rfl).1]
    exact ⟨rfl, rfl⟩
theorem cof_not {l : List UInt8} (h : (cofE l != 0) = true) : cofV l = (0, 0, false) := by
  cases h0 : l == [0]
  · cases hB : cofB l
    · exact (cof_f h0 hB).1
    · rw [(cof_t h0 hB).2] at h; cases h
  · rw [(cof_0 h0).2] at h; cases h
theorem cerr_on (p : Ap) : ((cerr p == 0) != onT p) = false := by
  unfold cerr
  cases onT p <;> rfl
theorem cerr_t {p : Ap} (h : onT p = true) : cerr p = 0 := by rw [cerr, h]; rfl
theorem cerr_f {p : Ap} (h : onT p = false) : cerr p = 70 := by rw [cerr, h]; rfl
/-! ### awake -/
theorem onT_GG : onT GG = true := by kernel_rfl
theorem aw_neg : cneg GG = (GX, PP - GY, false) := by
  rw [(cneg_t onT_GG).1]; kernel_rfl
theorem aw_nego : onT (cneg GG) = true := by rw [aw_neg]; kernel_rfl
theorem aw_far : cadd GG (cneg GG) = (0, 0, true) := by
  rw [(cadd_t onT_GG aw_nego).1, aw_neg]
  have : jad (jof GX GY false) (jof GX (PP - GY) false) = (0, 0, 0) := by
    have h : decide (jad (jof GX GY false) (jof GX (PP - GY) false) = (0, 0, 0)) = true := by kernel_rfl
    exact of_decide_eq_true h
  show jend (jad (jof GX GY false) (jof GX (PP - GY) false)) = _
  rw [this, jend, if_pos (by kernel_rfl)]
def TWX : Nat := 56515219790691171413109057904011688695424810155802929973526481321309856242040
def TWI : Nat := 56574125023949875979384902335110527424677819735484098786822054576870411640858
theorem jad_GG : jad (jof GX GY false) (jof GX GY false) = jtw (GX, GY, 1) := by
  have h : decide (jad (jof GX GY false) (jof GX GY false) = jtw (GX, GY, 1)) = true := by kernel_rfl
  exact of_decide_eq_true h
theorem jtwZ_GG : (jtw (GX, GY, 1)).2.2 % modN 0 ≠ 0 := by
  have h : decide ((jtw (GX, GY, 1)).2.2 % modN 0 = 0) = false := by kernel_rfl
  exact of_decide_eq_false h
theorem inv_GG : invV 0 (jtw (GX, GY, 1)).2.2 = TWI := by
  unfold invV
  rw [if_neg jtwZ_GG]
  exact inv_unique (pr_modN 0) (Nat.mod_lt _ (modN_pos 0)) (of_decide_eq_true (by kernel_rfl)) (inv_pow (pr_modN 0) jtwZ_GG) (by kernel_rfl)
theorem aw_two : ((cadd GG GG).1 == TWX) = true := by
  rw [(cadd_t onT_GG onT_GG).1]
  show ((jend (jad (jof GX GY false) (jof GX GY false))).1 == TWX) = true
  rw [jad_GG, jend, if_neg jtwZ_GG, inv_GG]
  kernel_rfl
theorem aw_cby : (cby (cadd GG (cneg GG)) == [0]) = true := by rw [aw_far]; rfl
theorem aw_e1 : (cerr GG == 0) = true := by kernel_rfl
theorem aw_e2 : (cadde GG (cneg GG) == 0) = true := by rw [(cadd_t onT_GG aw_nego).2]; rfl
theorem aw_e3 : (cadde GG GG == 0) = true := by kernel_rfl
theorem aw_e4 : (cadde GG (1, 1, false) == 70) = true := by kernel_rfl
theorem aw_e5 : (cerr (cadd GG (cneg GG)) == 0) = true := by rw [aw_far]; rfl
theorem aw_e6 : (cofE [4] == 71) = true := by kernel_rfl
theorem aw_on2 : onT (cadd GG (cneg GG)) = true := by rw [aw_far]; rfl
theorem aw_on3 : (!onT (0, 0, false)) = true := by kernel_rfl
end Go.Proofs.Ytjmgilhlpohcmaa
