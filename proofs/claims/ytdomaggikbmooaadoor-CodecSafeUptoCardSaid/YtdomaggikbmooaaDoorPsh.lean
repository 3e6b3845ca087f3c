/- What package codec and its reference make of base64 texts, reading. Conditions: as each theorem says. -/
import Derived.Test.YtdomaggikbmooaaDoorPsg
namespace Go.Proofs.YtdomaggikbmooaaDoor
open Go Go.RowKit
def cv (c : UInt8) : Int := findI alA c
theorem cv_range (c : UInt8) : -1 ≤ cv c ∧ cv c < 64 := findI_ge alA c
theorem ch_cv (c : UInt8) (h : 0 ≤ cv c) : ch (cv c).toNat = c := by
  have := byte_all (fun c => decide (cv c < 0) || ch (cv c).toNat == c) (by decide +kernel) c
  simp only [Bool.or_eq_true, decide_eq_true_eq, beq_iff_eq] at this
  rcases this with h1 | h1
  · omega
  · exact h1
theorem cv_ch (n : Nat) (h : n < 64) : cv (ch n) = (n : Int) := by
  have : (List.range 64).all (fun n => cv (ch n) == (n : Int)) = true := by decide +kernel
  exact eq_of_beq (List.all_eq_true.1 this n (List.mem_range.2 h))
abbrev Dst : Type := List UInt8 × Nat × Nat
def pre (c : UInt8) (r : Dst) : Dst := (c :: r.1, r.2.1, r.2.2)
def mb (n : Nat) : UInt8 := UInt8.ofNat n
/-- The values read: bytes, and what bits are pending behind them: m pairs, of value a. -/
def dec1 : Nat → Nat → List UInt8 → Option Dst
  | m, a, [] => some ([], m, a)
  | 0, _, c :: l => bif decide (cv c < 0) then none else dec1 3 (cv c).toNat l
  | 1, a, c :: l => bif decide (cv c < 0) then none else (dec1 0 0 l).map (pre (mb (a * 64 + (cv c).toNat)))
  | 2, a, c :: l => bif decide (cv c < 0) then none else (dec1 1 ((cv c).toNat % 4) l).map (pre (mb (a * 16 + (cv c).toNat / 4)))
  | _ + 3, a, c :: l => bif decide (cv c < 0) then none else (dec1 2 ((cv c).toNat % 16) l).map (pre (mb (a * 4 + (cv c).toNat / 16)))
theorem dec1_bad (m a : Nat) {c : UInt8} (l : List UInt8) (h : cv c < 0) : dec1 m a (c :: l) = none := by
  match m with
  | 0 => simp [dec1, h]
  | 1 => simp [dec1, h]
  | 2 => simp [dec1, h]
  | m + 3 => simp [dec1, h]
abbrev orv (a v : Nat) : Int := bits .or .i64 (shlI .i64 (a : Int) 6) (v : Int)
theorem rd0 (v : Nat) (hv : v < 64) : orv 0 v = (v : Int) := by
  have : (List.range 64).all (fun v => decide (orv 0 v = (v : Int))) = true := by decide +kernel
  exact of_decide_eq_true (List.all_eq_true.1 this v (List.mem_range.2 hv))
theorem rd3 (a v : Nat) (ha : a < 64) (hv : v < 64) : i8 (shrI .i64 (orv a v) 4) = mb (a * 4 + v / 16) ∧ bits .and .i64 (orv a v) (w64 (shlI .i64 1 4 - 1)) = ((v % 16 : Nat) : Int) := by
  have : (List.range 64).all (fun a => (List.range 64).all fun v => decide (i8 (shrI .i64 (orv a v) 4) = mb (a * 4 + v / 16) ∧ bits .and .i64 (orv a v) (w64 (shlI .i64 1 4 - 1)) = ((v % 16 : Nat) : Int))) = true := by decide +kernel
  exact of_decide_eq_true (List.all_eq_true.1 (List.all_eq_true.1 this a (List.mem_range.2 ha)) v (List.mem_range.2 hv))
theorem rd2 (a v : Nat) (ha : a < 16) (hv : v < 64) : i8 (shrI .i64 (orv a v) 2) = mb (a * 16 + v / 4) ∧ bits .and .i64 (orv a v) (w64 (shlI .i64 1 2 - 1)) = ((v % 4 : Nat) : Int) := by
  have : (List.range 16).all (fun a => (List.range 64).all fun v => decide (i8 (shrI .i64 (orv a v) 2) = mb (a * 16 + v / 4) ∧ bits .and .i64 (orv a v) (w64 (shlI .i64 1 2 - 1)) = ((v % 4 : Nat) : Int))) = true := by decide +kernel
  exact of_decide_eq_true (List.all_eq_true.1 (List.all_eq_true.1 this a (List.mem_range.2 ha)) v (List.mem_range.2 hv))
theorem rd1 (a v : Nat) (ha : a < 4) (hv : v < 64) : i8 (shrI .i64 (orv a v) 0) = mb (a * 64 + v) ∧ bits .and .i64 (orv a v) (w64 (shlI .i64 1 0 - 1)) = 0 := by
  have : (List.range 4).all (fun a => (List.range 64).all fun v => decide (i8 (shrI .i64 (orv a v) 0) = mb (a * 64 + v) ∧ bits .and .i64 (orv a v) (w64 (shlI .i64 1 0 - 1)) = 0)) = true := by decide +kernel
  exact of_decide_eq_true (List.all_eq_true.1 (List.all_eq_true.1 this a (List.mem_range.2 ha)) v (List.mem_range.2 hv))
def addTo (out : List UInt8) (r : Dst) : Dst := (out ++ r.1, r.2.1, r.2.2)
theorem map_pre {out : List UInt8} {c : UInt8} (o : Option Dst) : (o.map (pre c)).map (addTo out) = o.map (addTo (out ++ [c])) := by cases o <;> simp [pre, addTo]
/-- One round, where it only gathers. -/
theorem fb_few (x : List UInt8) (out : List UInt8) (k v : Nat) (hk : k < x.length) (hx : x.length ≤ 4194304) (hv : cv x[k] = (v : Int)) (A : Int) :
    codec_FromBase64_b0 x (out, A, 0, (k : Int)) = some (.inl (out, bits .or .i64 (shlI .i64 A 6) (v : Int), 6, ((k + 1 : Nat) : Int))) := by
  unfold codec_FromBase64_b0
  dsimp only
  rw [dec_t (show (k : Int) < (x.length : Int) by omega), idx_ok rfl hk, some_bind, index_run _ _ rfl (by decide), some_bind, show findI alA x[k] = (v : Int) from hv, dec_f (by omega), dec_f (show ¬ ((8 : Int) ≤ w64 (0 + 6)) by decide), jn_l, w64_of (x := (k : Int) + 1) (by omega) (by omega)]
  rfl
/-- One round that gives a byte. -/
theorem fb_byte (x : List UInt8) (out : List UInt8) (k v : Nat) (hk : k < x.length) (hx : x.length ≤ 4194304) (hv : cv x[k] = (v : Int)) (A n n' : Int) (h8 : (8 : Int) ≤ w64 (n + 6)) (hn : w64 (w64 (n + 6) - 8) = n') (h0 : 0 ≤ n') (hl : out.length ≤ 4194304) :
    codec_FromBase64_b0 x (out, A, n, (k : Int)) = some (.inl (out ++ [i8 (shrI .i64 (bits .or .i64 (shlI .i64 A 6) (v : Int)) n')], bits .and .i64 (bits .or .i64 (shlI .i64 A 6) (v : Int)) (w64 (shlI .i64 1 n' - 1)), n', ((k + 1 : Nat) : Int))) := by
  unfold codec_FromBase64_b0
  dsimp only
  rw [dec_t (show (k : Int) < (x.length : Int) by omega), idx_ok rfl hk, some_bind, index_run _ _ rfl (by decide), some_bind, show findI alA x[k] = (v : Int) from hv, dec_f (by omega), dec_t h8, hn, chk_ok (by rw [decide_eq_true_eq]; exact h0), some_bind,
    app_ok (by simp only [List.length_cons, List.length_nil]; omega), some_bind, some_bind, jn_l, w64_of (x := (k : Int) + 1) (by omega) (by omega)]
  rfl
theorem fb_bad (x : List UInt8) (out : List UInt8) (k : Nat) (hk : k < x.length) (hv : cv x[k] < 0) (A n : Int) : codec_FromBase64_b0 x (out, A, n, (k : Int)) = some (.inr (.inl ([], 11))) := by
  unfold codec_FromBase64_b0
  dsimp only
  rw [dec_t (show (k : Int) < (x.length : Int) by omega), idx_ok rfl hk, some_bind, index_run _ _ rfl (by decide), some_bind, dec_t (show findI alA x[k] < 0 from hv), jn_r]
def accept (r : Option Dst) : List UInt8 × Int := match r with
  | none => ([], 11)
  | some r => bif (r.2.1 == 3 || r.2.2 != 0) then ([], 11) else (r.1, 0)
theorem fromBase64_run (x : List UInt8) (hx : x.length ≤ 4194304) : codec_FromBase64_p x = some (accept (dec1 0 0 x)) := by
  have key : ∃ r, iter (codec_FromBase64_b0 x) ([], 0, 0, 0) = some r ∧ ((dec1 0 0 x = none ∧ r = .inl ([], 11)) ∨ ∃ (o : List UInt8) (m a : Nat), dec1 0 0 x = some (o, m, a) ∧ m ≤ 3 ∧ r = .inr (o, (a : Int), ((2 * m : Nat) : Int))) := by
    refine iter_ind (fun s => ∃ k m a : Nat, m ≤ 3 ∧ a < 4 ^ m ∧ k ≤ x.length ∧ s.2.1 = (a : Int) ∧ s.2.2.1 = ((2 * m : Nat) : Int) ∧ s.2.2.2 = (k : Int) ∧ dec1 0 0 x = (dec1 m a (x.drop k)).map (addTo s.1) ∧ s.1.length ≤ k ∧ (m = 0 → a = 0)) (fun s => x.length - s.2.2.2.toNat) _ ([], 0, 0, 0) ⟨0, 0, 0, by omega, by decide, by omega, rfl, rfl, rfl, ?_, by simp, fun _ => rfl⟩ (by show x.length - 0 < _; omega) ?_
    · simp only [List.drop_zero]
      cases dec1 0 0 x <;> simp [addTo]
    rintro ⟨out, A, B, C⟩ ⟨k, m, a, hm, ha, hk, e1, e2, e3, hI, hL, hz⟩
    dsimp only at e1 e2 e3 hI hL
    subst e1 e2 e3
    by_cases h : k < x.length
    · rw [drop_at h] at hI
      by_cases hc : cv x[k] < 0
      · right
        rw [dec1_bad _ _ _ hc] at hI
        exact ⟨_, fb_bad x out k h hc _ _, .inl ⟨hI, rfl⟩⟩
      · left
        have hr := cv_range x[k]
        obtain ⟨v, hv⟩ : ∃ v : Nat, cv x[k] = (v : Int) := ⟨(cv x[k]).toNat, by omega⟩
        have hv64 : v < 64 := by omega
        have hvn : (cv x[k]).toNat = v := by omega
        have hcf : decide (cv x[k] < 0) = false := by simp; omega
        match m, hm, ha, hz with
        | 0, _, ha, hz =>
          obtain rfl := hz rfl
          have hs := fb_few x out k v h hx hv 0
          refine ⟨_, hs, ⟨k + 1, 3, v, by omega, by omega, by omega, rd0 v hv64, rfl, rfl, ?_, ?_, fun h => by omega⟩, by dsimp only; omega⟩
          · rw [hI, dec1, hcf, cond_false, hvn]
          · dsimp only; omega
        | 1, _, ha, _ =>
          have ha : a < 4 := by simpa using ha
          have hs := fb_byte x out k v h hx hv (a : Int) ((2 * 1 : Nat) : Int) 0 (by decide) (by decide) (by decide) (by omega)
          have hd := rd1 a v ha hv64
          refine ⟨_, hs, ⟨k + 1, 0, 0, by omega, by decide, by omega, hd.2, rfl, rfl, ?_, ?_, fun _ => rfl⟩, by dsimp only; omega⟩
          · rw [hI, dec1, hcf, cond_false, hvn, map_pre, hd.1]
          · dsimp only; simp only [List.length_append, List.length_cons, List.length_nil]; omega
        | 2, _, ha, _ =>
          have ha : a < 16 := by simpa using ha
          have hs := fb_byte x out k v h hx hv (a : Int) ((2 * 2 : Nat) : Int) 2 (by decide) (by decide) (by decide) (by omega)
          have hd := rd2 a v ha hv64
          refine ⟨_, hs, ⟨k + 1, 1, v % 4, by omega, by omega, by omega, hd.2, rfl, rfl, ?_, ?_, fun h => by omega⟩, by dsimp only; omega⟩
          · rw [hI, dec1, hcf, cond_false, hvn, map_pre, hd.1]
          · dsimp only; simp only [List.length_append, List.length_cons, List.length_nil]; omega
        | 3, _, ha, _ =>
          have ha : a < 64 := by simpa using ha
          have hs := fb_byte x out k v h hx hv (a : Int) ((2 * 3 : Nat) : Int) 4 (by decide) (by decide) (by decide) (by omega)
          have hd := rd3 a v ha hv64
          refine ⟨_, hs, ⟨k + 1, 2, v % 16, by omega, by omega, by omega, hd.2, rfl, rfl, ?_, ?_, fun h => by omega⟩, by dsimp only; omega⟩
          · rw [hI, dec1, hcf, cond_false, hvn, map_pre, hd.1]
          · dsimp only; simp only [List.length_append, List.length_cons, List.length_nil]; omega
    · right
      have : k = x.length := by omega
      subst this
      rw [List.drop_length] at hI
      refine ⟨.inr (out, (a : Int), ((2 * m : Nat) : Int)), ?_, .inr ⟨out, m, a, ?_, hm, rfl⟩⟩
      · unfold codec_FromBase64_b0
        dsimp only
        rw [dec_f (by omega)]
      · rw [hI]
        match m, hm with
        | 0, _ => simp [dec1, addTo]
        | 1, _ => simp [dec1, addTo]
        | 2, _ => simp [dec1, addTo]
        | 3, _ => simp [dec1, addTo]
  obtain ⟨r, hr, h⟩ := key
  rw [codec_FromBase64_p, hr]
  rcases h with ⟨h1, rfl⟩ | ⟨o, m, a, h1, hm, rfl⟩
  · rw [h1]; rfl
  · rw [h1]
    simp only [some_bind, jnO, jn_l, accept]
    have e : (bif decide ((6 : Int) ≤ ((2 * m : Nat) : Int)) then true else ((a : Int) != 0)) = (m == 3 || a != 0) := by
      have e2 : ((a : Int) != 0) = (a != 0) := by
        cases h : a != 0
        · rw [bne_eq_false_iff_eq] at h ⊢; omega
        · rw [bne_iff_ne] at h ⊢; omega
      rw [e2]
      by_cases h3 : m = 3
      · subst h3; rfl
      · rw [dec_f (by omega)]
        have : (m == 3) = false := by rw [beq_eq_false_iff_ne]; exact h3
        rw [this]; rfl
    rw [e]
    cases (m == 3 || a != 0) <;> rfl
/-! ### There and back -/
theorem mb_nat {n : Nat} (h : n < 256) : (mb n).toNat = n := by simp [mb]; omega
theorem mb_of (c : UInt8) : mb c.toNat = c := by simp [mb]
theorem back : ∀ (n : Nat) (o : List UInt8), o.length ≤ n → (∃ m', m' ≠ 3 ∧ dec1 0 0 (enc 0 0 o) = some (o, m', 0)) ∧
    (∀ a p, a < 64 → p < 4 → ∃ m', m' ≠ 3 ∧ dec1 3 a (enc 1 p o) = some (mb (a * 4 + p) :: o, m', 0)) ∧
    (∀ a p, a < 16 → p < 16 → ∃ m', m' ≠ 3 ∧ dec1 2 a (enc 2 p o) = some (mb (a * 16 + p) :: o, m', 0)) := by
  have good : ∀ n, n < 64 → decide (cv (ch n) < 0) = false := fun n h => by rw [cv_ch n h, decide_eq_false_iff_not]; omega
  have gv : ∀ n, n < 64 → (cv (ch n)).toNat = n := fun n h => by rw [cv_ch n h]; omega
  intro n
  induction n with
  | zero =>
    intro o ho
    obtain rfl : o = [] := List.length_eq_zero_iff.1 (by omega)
    refine ⟨⟨0, by decide, rfl⟩, fun a p ha hp => ⟨2, by decide, ?_⟩, fun a p ha hp => ⟨1, by decide, ?_⟩⟩
    · simp only [enc, dec1, good (p * 16) (by omega), gv (p * 16) (by omega), cond_false, Option.map_some, pre]
      rw [show p * 16 / 16 = p by omega, show p * 16 % 16 = 0 by omega]
    · simp only [enc, dec1, good (p * 4) (by omega), gv (p * 4) (by omega), cond_false, Option.map_some, pre]
      rw [show p * 4 / 4 = p by omega, show p * 4 % 4 = 0 by omega]
  | succ n ih =>
    intro o ho
    match o with
    | [] => exact ih [] (by simp)
    | c :: l =>
      obtain ⟨i0, i1, i2⟩ := ih l (by simp only [List.length_cons] at ho; omega)
      have hc := c.toNat_lt
      refine ⟨?_, fun a p ha hp => ?_, fun a p ha hp => ?_⟩
      · obtain ⟨m', h1, h2⟩ := i1 (c.toNat / 4) (c.toNat % 4) (by omega) (by omega)
        refine ⟨m', h1, ?_⟩
        simp only [enc, dec1, good (c.toNat / 4) (by omega), gv (c.toNat / 4) (by omega), cond_false, h2]
        rw [show c.toNat / 4 * 4 + c.toNat % 4 = c.toNat by omega, mb_of]
      · obtain ⟨m', h1, h2⟩ := i2 (c.toNat / 16) (c.toNat % 16) (by omega) (by omega)
        refine ⟨m', h1, ?_⟩
        simp only [enc, dec1, good (p * 16 + c.toNat / 16) (by omega), gv (p * 16 + c.toNat / 16) (by omega), cond_false]
        rw [show (p * 16 + c.toNat / 16) % 16 = c.toNat / 16 by omega, h2, show (p * 16 + c.toNat / 16) / 16 = p by omega, show c.toNat / 16 * 16 + c.toNat % 16 = c.toNat by omega, mb_of]
        rfl
      · obtain ⟨m', h1, h2⟩ := i0
        refine ⟨m', h1, ?_⟩
        simp only [enc, dec1, good (p * 4 + c.toNat / 64) (by omega), gv (p * 4 + c.toNat / 64) (by omega), good (c.toNat % 64) (by omega), gv (c.toNat % 64) (by omega), cond_false, h2]
        rw [show (p * 4 + c.toNat / 64) % 4 * 64 + c.toNat % 64 = c.toNat by omega, show (p * 4 + c.toNat / 64) / 4 = p by omega, mb_of]
        rfl
theorem there : ∀ (l : List UInt8) (o : List UInt8) (m' : Nat), m' ≠ 3 →
    (dec1 0 0 l = some (o, m', 0) → l = b64 o) ∧
    (∀ a, a < 64 → dec1 3 a l = some (o, m', 0) → ∃ c o', o = c :: o' ∧ c.toNat / 4 = a ∧ l = enc 1 (c.toNat % 4) o') ∧
    (∀ a, a < 16 → dec1 2 a l = some (o, m', 0) → (l = [] ∧ a = 0 ∧ o = []) ∨ ∃ c o', o = c :: o' ∧ c.toNat / 16 = a ∧ l = enc 2 (c.toNat % 16) o') ∧
    (∀ a, a < 4 → dec1 1 a l = some (o, m', 0) → (l = [] ∧ a = 0 ∧ o = []) ∨ ∃ c o', o = c :: o' ∧ c.toNat / 64 = a ∧ l = ch (c.toNat % 64) :: b64 o')
  | [], o, m', hm => by
    refine ⟨fun h => ?_, fun a _ h => ?_, fun a _ h => ?_, fun a _ h => ?_⟩
    · simp only [dec1, Option.some.injEq, Prod.mk.injEq] at h
      rw [← h.1]; rfl
    · simp only [dec1, Option.some.injEq, Prod.mk.injEq] at h
      exact absurd h.2.1.symm hm
    · simp only [dec1, Option.some.injEq, Prod.mk.injEq] at h
      exact .inl ⟨rfl, h.2.2, h.1.symm⟩
    · simp only [dec1, Option.some.injEq, Prod.mk.injEq] at h
      exact .inl ⟨rfl, h.2.2, h.1.symm⟩
  | x :: l, o, m', hm => by
    have hr := cv_range x
    by_cases hc : cv x < 0
    · refine ⟨fun h => ?_, fun a _ h => ?_, fun a _ h => ?_, fun a _ h => ?_⟩ <;> rw [dec1_bad _ _ _ hc] at h <;> cases h
    · have hcf : decide (cv x < 0) = false := by simp; omega
      have hx := ch_cv x (by omega)
      have hv : (cv x).toNat < 64 := by omega
      generalize hvn : (cv x).toNat = v at *
      refine ⟨fun h => ?_, fun a ha h => ?_, fun a ha h => ?_, fun a ha h => ?_⟩
      · rw [dec1, hcf, cond_false, hvn] at h
        obtain ⟨c, o', rfl, h1, h2⟩ := (there l o m' hm).2.1 v hv h
        rw [b64, enc, h1, hx, ← h2]
      · rw [dec1, hcf, cond_false, hvn, Option.map_eq_some_iff] at h
        obtain ⟨⟨o1, m1, a1⟩, h1, h2⟩ := h
        simp only [pre, Prod.mk.injEq] at h2
        obtain ⟨rfl, rfl, rfl⟩ := h2
        have hb : (mb (a * 4 + v / 16)).toNat = a * 4 + v / 16 := mb_nat (by omega)
        refine ⟨_, _, rfl, by omega, ?_⟩
        rcases (there l o1 m1 hm).2.2.1 _ (by omega) h1 with ⟨rfl, h3, rfl⟩ | ⟨c, o', rfl, h3, h4⟩
        · rw [enc, hb, show (a * 4 + v / 16) % 4 * 16 = v by omega, hx]
        · rw [enc, hb, show (a * 4 + v / 16) % 4 * 16 + c.toNat / 16 = v by omega, hx, ← h4]
      · rw [dec1, hcf, cond_false, hvn, Option.map_eq_some_iff] at h
        obtain ⟨⟨o1, m1, a1⟩, h1, h2⟩ := h
        simp only [pre, Prod.mk.injEq] at h2
        obtain ⟨rfl, rfl, rfl⟩ := h2
        have hb : (mb (a * 16 + v / 4)).toNat = a * 16 + v / 4 := mb_nat (by omega)
        right
        refine ⟨_, _, rfl, by omega, ?_⟩
        rcases (there l o1 m1 hm).2.2.2 _ (by omega) h1 with ⟨rfl, h3, rfl⟩ | ⟨c, o', rfl, h3, h4⟩
        · rw [enc, hb, show (a * 16 + v / 4) % 16 * 4 = v by omega, hx]
        · rw [enc, hb, show (a * 16 + v / 4) % 16 * 4 + c.toNat / 64 = v by omega, hx, h4]; rfl
      · rw [dec1, hcf, cond_false, hvn, Option.map_eq_some_iff] at h
        obtain ⟨⟨o1, m1, a1⟩, h1, h2⟩ := h
        simp only [pre, Prod.mk.injEq] at h2
        obtain ⟨rfl, rfl, rfl⟩ := h2
        have hb : (mb (a * 64 + v)).toNat = a * 64 + v := mb_nat (by omega)
        right
        refine ⟨_, _, rfl, by omega, ?_⟩
        rw [hb, show (a * 64 + v) % 64 = v by omega, hx, ← (there l o1 m1 hm).1 h1]
theorem b64_iff {x o : List UInt8} {m a : Nat} (h : dec1 0 0 x = some (o, m, a)) : (b64 o == x) = !(m == 3 || a != 0) := by
  cases hb : (m == 3 || a != 0)
  · simp only [Bool.or_eq_false_iff, beq_eq_false_iff_ne, bne_eq_false_iff_eq] at hb
    obtain ⟨h1, rfl⟩ := hb
    rw [Bool.not_false, beq_iff_eq]
    exact ((there x o m h1).1 h).symm
  · rw [Bool.not_true, beq_eq_false_iff_ne]
    intro e
    obtain ⟨m', h1, h2⟩ := (back o.length o (Nat.le_refl _)).1
    rw [← b64, e, h] at h2
    simp only [Option.some.injEq, Prod.mk.injEq, true_and] at h2
    obtain ⟨rfl, rfl⟩ := h2
    simp at hb
    exact h1 hb
end Go.Proofs.YtdomaggikbmooaaDoor
