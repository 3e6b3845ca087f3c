/- Numbers as digits of sixteen bits, the lowest first. Conditions: as each theorem says. -/
import Derived.Test.YtjmgilhlpohcmaaSlc
import Derived.Test.YtjmgilhlpohcmaaFm
import Derived.Test.YtjmgilhlpohcmaaInt
namespace Go.Proofs.Ytjmgilhlpohcmaa
open Go Go.RowKit

def u32s (l : List Nat) : List Value := l.map fun (d : Nat) => Value.int .u32 (d : Int)
def dval : List Nat → Nat
  | [] => 0
  | d :: l => d + 65536 * dval l
def digs (n : Nat) : List Nat := if h : n = 0 then [] else n % 65536 :: digs (n / 65536)
termination_by n
decreasing_by exact Nat.div_lt_self (Nat.pos_of_ne_zero h) (by decide)
def DL (l : List Nat) : Prop := ∀ d ∈ l, d < 65536
theorem digs_0 : digs 0 = [] := by rw [digs]; simp
theorem digs_pos {n : Nat} (h : n ≠ 0) : digs n = n % 65536 :: digs (n / 65536) := by rw [digs]; simp [h]
theorem digs_DL (n : Nat) : DL (digs n) := by
  induction n using Nat.strongRecOn with
  | _ n ih =>
    by_cases h : n = 0
    · subst h; rw [digs_0]; intro d hd; cases hd
    · rw [digs_pos h]
      intro d hd
      rcases List.mem_cons.1 hd with rfl | hd
      · exact Nat.mod_lt _ (by decide)
      · exact ih (n / 65536) (Nat.div_lt_self (Nat.pos_of_ne_zero h) (by decide)) d hd
theorem dval_digs (n : Nat) : dval (digs n) = n := by
  induction n using Nat.strongRecOn with
  | _ n ih =>
    by_cases h : n = 0
    · subst h; rw [digs_0]; rfl
    · rw [digs_pos h, dval, ih (n / 65536) (Nat.div_lt_self (Nat.pos_of_ne_zero h) (by decide))]
      omega
theorem DL.nil : DL [] := fun d hd => by cases hd
theorem DL.cons {d : Nat} {l : List Nat} (h : d < 65536) (hl : DL l) : DL (d :: l) := fun x hx => by
  rcases List.mem_cons.1 hx with rfl | hx
  · exact h
  · exact hl x hx
theorem DL.tail {d : Nat} {l : List Nat} (h : DL (d :: l)) : d < 65536 ∧ DL l := ⟨h d (by simp), fun x hx => h x (by simp [hx])⟩
theorem DL.append {a b : List Nat} (ha : DL a) (hb : DL b) : DL (a ++ b) := fun x hx => by
  rcases List.mem_append.1 hx with h | h
  · exact ha x h
  · exact hb x h
theorem DL.take {a : List Nat} (ha : DL a) (n : Nat) : DL (a.take n) := fun x hx => ha x (List.mem_of_mem_take hx)
theorem DL.get {l : List Nat} (h : DL l) {i d : Nat} (hi : l[i]? = some d) : d < 65536 := h d (List.mem_of_getElem? hi)
theorem dval_lt : ∀ {l : List Nat}, DL l → dval l < 65536 ^ l.length
  | [], _ => by simp [dval]
  | d :: l, h => by
    have := dval_lt h.tail.2
    have := h.tail.1
    simp only [dval, List.length_cons, Nat.pow_succ]
    omega
theorem dval_append (a b : List Nat) : dval (a ++ b) = dval a + 65536 ^ a.length * dval b := by
  induction a with
  | nil => simp [dval]
  | cons d a ih =>
    simp only [List.cons_append, dval, ih, List.length_cons, Nat.pow_succ, Nat.mul_add, Nat.add_assoc]
    congr 2
    rw [← Nat.mul_assoc, Nat.mul_comm 65536]
theorem dval_take {l : List Nat} (h : DL l) (i : Nat) : dval (l.take i) = dval l % 65536 ^ i := by
  by_cases hi : i ≤ l.length
  · have hl : (l.take i).length = i := by simp; omega
    have h1 := dval_append (l.take i) (l.drop i)
    have h2 := dval_lt (DL.take h i)
    rw [List.take_append_drop, hl] at h1
    rw [hl] at h2
    rw [h1, Nat.add_mul_mod_self_left, Nat.mod_eq_of_lt h2]
  · rw [List.take_of_length_le (by omega)]
    exact (Nat.mod_eq_of_lt (Nat.lt_of_lt_of_le (dval_lt h) (Nat.pow_le_pow_right (by decide) (by omega)))).symm
theorem dval_drop {l : List Nat} (h : DL l) (i : Nat) : dval (l.drop i) = dval l / 65536 ^ i := by
  by_cases hi : i ≤ l.length
  · have hl : (l.take i).length = i := by simp; omega
    have h1 := dval_append (l.take i) (l.drop i)
    have h2 := dval_lt (DL.take h i)
    rw [List.take_append_drop, hl] at h1
    rw [hl] at h2
    rw [h1, Nat.add_mul_div_left _ _ (Nat.pow_pos (by decide)), Nat.div_eq_of_lt h2, Nat.zero_add]
  · rw [List.drop_of_length_le (by omega)]
    exact (Nat.div_eq_of_lt (Nat.lt_of_lt_of_le (dval_lt h) (Nat.pow_le_pow_right (by decide) (by omega)))).symm
theorem dval_get {l : List Nat} (h : DL l) {i d : Nat} (hd : l[i]? = some d) : d = dval l / 65536 ^ i % 65536 := by
  rw [← dval_drop h]
  have hi := (List.getElem?_eq_some_iff.1 hd).1
  have e : l.drop i = d :: l.drop (i + 1) := by
    rw [List.drop_eq_getElem_cons hi, (List.getElem?_eq_some_iff.1 hd).2]
  rw [e, dval, Nat.add_mul_mod_self_left, Nat.mod_eq_of_lt (h.get hd)]
theorem digs_dval : ∀ {l : List Nat}, DL l → l.getLast? ≠ some 0 → digs (dval l) = l
  | [], _, _ => by rw [dval, digs_0]
  | [d], h, ht => by
    have hd : d ≠ 0 := fun e => ht (by simp [e])
    have := h.tail.1
    rw [dval, dval, Nat.mul_zero, Nat.add_zero, digs_pos hd, Nat.div_eq_of_lt this, digs_0, Nat.mod_eq_of_lt this]
  | d :: d' :: l, h, ht => by
    have ih := digs_dval h.tail.2 (by simpa using ht)
    have hd := h.tail.1
    have hv : dval (d' :: l) ≠ 0 := fun e => by rw [e, digs_0] at ih; cases ih
    have h1 : dval (d :: d' :: l) = d + 65536 * dval (d' :: l) := rfl
    rw [h1, digs_pos (by omega), Nat.add_mul_mod_self_left, Nat.mod_eq_of_lt hd, Nat.add_mul_div_left _ _ (by decide), Nat.div_eq_of_lt hd, Nat.zero_add, ih]
theorem dval_zeros {l : List Nat} (h : ∀ (i d : Nat), l[i]? = some d → d = 0) : dval l = 0 := by
  induction l with
  | nil => rfl
  | cons d l ih =>
    have h0 := h 0 d rfl
    have := ih fun i x hx => h (i + 1) x (by simpa using hx)
    rw [dval, h0, this]
/-- Without noughts on top. -/
theorem digs_trim {l : List Nat} (h : DL l) {n : Nat} (hn : n ≤ l.length) (hz : ∀ i d, n ≤ i → l[i]? = some d → d = 0) (ht : n = 0 ∨ l[n - 1]? ≠ some 0) : l.take n = digs (dval l) := by
  have h1 : dval l = dval (l.take n) := by
    have := dval_append (l.take n) (l.drop n)
    rw [List.take_append_drop, dval_zeros (l := l.drop n) fun i d hd => hz (n + i) d (by omega) (by simpa using hd)] at this
    simpa using this
  rw [h1]
  refine (digs_dval (DL.take h n) ?_).symm
  rw [List.getLast?_eq_getElem?]
  rcases ht with rfl | ht
  · simp
  · have hl : (l.take n).length = n := by simp; omega
    rw [hl]
    by_cases h0 : n = 0
    · subst h0; simp
    · rw [List.getElem?_take, if_pos (by omega)]; exact ht
theorem digs_top {n : Nat} : (digs n).getLast? ≠ some 0 := by
  induction n using Nat.strongRecOn with
  | _ n ih =>
    by_cases h : n = 0
    · subst h; rw [digs_0]; simp
    · rw [digs_pos h]
      by_cases h2 : n / 65536 = 0
      · rw [h2, digs_0]
        simp
        omega
      · have := ih (n / 65536) (Nat.div_lt_self (Nat.pos_of_ne_zero h) (by decide))
        rw [digs_pos h2] at this ⊢
        simpa using this
theorem digs_lt (n : Nat) : n < 65536 ^ (digs n).length := by have := dval_lt (digs_DL n); rwa [dval_digs] at this
theorem digs_ge {n : Nat} (h : n ≠ 0) : 65536 ^ ((digs n).length - 1) ≤ n := by
  have hne : digs n ≠ [] := by rw [digs_pos h]; simp
  have h1 := dval_append ((digs n).take ((digs n).length - 1)) ((digs n).drop ((digs n).length - 1))
  have hlen : 0 < (digs n).length := List.length_pos_iff.2 hne
  have hl : ((digs n).take ((digs n).length - 1)).length = (digs n).length - 1 := by simp
  rw [List.take_append_drop, dval_digs, hl] at h1
  have h2 : dval ((digs n).drop ((digs n).length - 1)) ≠ 0 := by
    have ht := digs_top (n := n)
    rw [List.getLast?_eq_getElem?] at ht
    rw [List.drop_eq_getElem_cons (by omega), List.drop_of_length_le (by omega), dval, dval]
    rw [List.getElem?_eq_getElem (by omega)] at ht
    intro e
    exact ht (by congr 1)
  have h3 : 65536 ^ ((digs n).length - 1) * 1 ≤ 65536 ^ ((digs n).length - 1) * dval ((digs n).drop ((digs n).length - 1)) := Nat.mul_le_mul_left _ (Nat.pos_of_ne_zero h2)
  omega
theorem digs_len_le {n k : Nat} (h : n < 65536 ^ k) : (digs n).length ≤ k := by
  by_cases h0 : n = 0
  · subst h0; rw [digs_0]; simp
  · rcases Nat.lt_or_ge k (digs n).length with h2 | h2
    · have := digs_ge h0
      have h3 : 65536 ^ k ≤ 65536 ^ ((digs n).length - 1) := Nat.pow_le_pow_right (by decide) (by omega)
      omega
    · exact h2
theorem digs_mono {a b : Nat} (h : a ≤ b) : (digs a).length ≤ (digs b).length := digs_len_le (Nat.lt_of_le_of_lt h (digs_lt b))
theorem digs_get {n i d : Nat} (h : (digs n)[i]? = some d) : d = n / 65536 ^ i % 65536 := by have := dval_get (digs_DL n) h; rwa [dval_digs] at this
theorem digs_some {n i : Nat} (h : i < (digs n).length) : (digs n)[i]? = some (n / 65536 ^ i % 65536) := by
  have := List.getElem?_eq_getElem h
  rw [this]; congr 1; exact digs_get this
theorem u32s_get {l : List Nat} {i d : Nat} (h : l[i]? = some d) : (u32s l)[i]? = some (.int .u32 (d : Int)) := by simp [u32s, h]
theorem u32s_length (l : List Nat) : (u32s l).length = l.length := by simp [u32s]
theorem u32s_take (l : List Nat) (n : Nat) : (u32s l).take n = u32s (l.take n) := by simp [u32s, List.map_take]
theorem u32s_append (a b : List Nat) : u32s (a ++ b) = u32s a ++ u32s b := by simp [u32s]
/-- A slice that reads as a number's digits. -/
def Dg (w : World) (v : Value) (n : Nat) : Prop := Rd w v (u32s (digs n))
theorem u32s_digs {n i : Nat} (h : i < (digs n).length) : (u32s (digs n))[i]? = some (.int .u32 ((n / 65536 ^ i % 65536 : Nat) : Int)) := u32s_get (digs_some h)
theorem trim_fin {w : World} {a : Value} {l : List Nat} {n : Nat} (ha : Rd w a (u32s l)) (hd : DL l) (hn : n ≤ l.length) (hz : ∀ (i d : Nat), n ≤ i → l[i]? = some d → d = 0) (ht : n = 0 ∨ l[n - 1]? ≠ some 0) : Dg w (subv a 0 n) (dval l) := by
  have h := Rd.sub ha (Nat.zero_le n) (by rw [u32s_length]; exact hn)
  rw [List.drop_zero, Nat.sub_zero, u32s_take, digs_trim hd hn hz ht] at h
  exact h
theorem trim_step {l : List Nat} {n d : Nat} (hz : ∀ (i d : Nat), n ≤ i → l[i]? = some d → d = 0) (hd1 : l[n - 1]? = some d) (h0 : d = 0) : ∀ (i d : Nat), n - 1 ≤ i → l[i]? = some d → d = 0 := fun i d' hi hd' => by
  by_cases h : n ≤ i
  · exact hz i d' h hd'
  · have e : i = n - 1 := by omega
    subst e
    rw [hd1] at hd'
    injection hd' with hd'
    omega
/-- How two numbers stand. -/
def cmpI (a b : Nat) : Int := if a < b then -1 else if a = b then 0 else 1
theorem cmpI_l {a b : Nat} (h : a < b) : cmpI a b = -1 := by unfold cmpI; rw [if_pos h]
theorem cmpI_g {a b : Nat} (h : b < a) : cmpI a b = 1 := by unfold cmpI; rw [if_neg (by omega), if_neg (by omega)]
theorem cmpI_e {a b : Nat} (h : a = b) : cmpI a b = 0 := by unfold cmpI; rw [if_neg (by omega), if_pos h]
theorem u32s_set (l : List Nat) (i d : Nat) : (u32s l).set i (.int .u32 (d : Int)) = u32s (l.set i d) := by simp [u32s, List.map_set]
theorem u32s_rep (n : Nat) : List.replicate n (Value.int .u32 0) = u32s (List.replicate n 0) := by simp [u32s]
theorem cmpI_lt {a b : Nat} : cmpI a b < 0 ↔ a < b := by
  unfold cmpI
  repeat' split
  all_goals omega
theorem cmpI_ge {a b : Nat} : 0 ≤ cmpI a b ↔ b ≤ a := by
  unfold cmpI
  repeat' split
  all_goals omega
theorem cmpI_eq {a b : Nat} : cmpI a b = 0 ↔ a = b := by
  unfold cmpI
  repeat' split
  all_goals omega
theorem cmpI_len {a b : Nat} (h : (digs a).length < (digs b).length) : a < b := by
  have h1 := digs_lt a
  have hb : b ≠ 0 := fun e => by subst e; rw [digs_0] at h; simp at h
  have h2 := digs_ge hb
  have h3 : 65536 ^ (digs a).length ≤ 65536 ^ ((digs b).length - 1) := Nat.pow_le_pow_right (by decide) (by omega)
  omega
/-- What is equal above, and below the less, is less. -/
theorem top_lt {a b k x y : Nat} (h : a / 65536 ^ (k + 1) = b / 65536 ^ (k + 1)) (hx : x = a / 65536 ^ k % 65536) (hy : y = b / 65536 ^ k % 65536) (hlt : x < y) : a < b := by
  have e1 : a / 65536 ^ (k + 1) = a / 65536 ^ k / 65536 := by rw [Nat.pow_succ, Nat.div_div_eq_div_mul]
  have e2 : b / 65536 ^ (k + 1) = b / 65536 ^ k / 65536 := by rw [Nat.pow_succ, Nat.div_div_eq_div_mul]
  rw [e1, e2] at h
  have h3 : a / 65536 ^ k < b / 65536 ^ k := by omega
  exact Nat.lt_of_not_le fun hle => by have := Nat.div_le_div_right (c := 65536 ^ k) hle; omega
theorem top_eq {a b k x y : Nat} (h : a / 65536 ^ (k + 1) = b / 65536 ^ (k + 1)) (hx : x = a / 65536 ^ k % 65536) (hy : y = b / 65536 ^ k % 65536) (he : x = y) : a / 65536 ^ k = b / 65536 ^ k := by
  have e1 : a / 65536 ^ (k + 1) = a / 65536 ^ k / 65536 := by rw [Nat.pow_succ, Nat.div_div_eq_div_mul]
  have e2 : b / 65536 ^ (k + 1) = b / 65536 ^ k / 65536 := by rw [Nat.pow_succ, Nat.div_div_eq_div_mul]
  rw [e1, e2] at h
  omega
theorem above_top {a : Nat} {k : Nat} (h : (digs a).length ≤ k) : a / 65536 ^ k = 0 := Nat.div_eq_of_lt (Nat.lt_of_lt_of_le (digs_lt a) (Nat.pow_le_pow_right (by decide) h))
theorem digs_modP {m : Int} (h : m = 0) : digs (modN m) = [65535, 65535, 65535, 65535, 65535, 65535, 0, 0, 0, 0, 0, 0, 1, 0, 65535, 65535] := by
  have e : modN m = dval [65535, 65535, 65535, 65535, 65535, 65535, 0, 0, 0, 0, 0, 0, 1, 0, 65535, 65535] := by unfold modN; rw [show (m == 0) = true by simpa using h]; rfl
  rw [e]
  exact digs_dval (by intro d hd; revert d hd; decide) (by decide)
theorem digs_modN {m : Int} (h : m ≠ 0) : digs (modN m) = [9553, 64611, 51906, 62393, 40580, 42775, 64173, 48358, 65535, 65535, 65535, 65535, 0, 0, 65535, 65535] := by
  have e : modN m = dval [9553, 64611, 51906, 62393, 40580, 42775, 64173, 48358, 65535, 65535, 65535, 65535, 0, 0, 65535, 65535] := by unfold modN; rw [show (m == 0) = false by simpa using h]; rfl
  rw [e]
  exact digs_dval (by intro d hd; revert d hd; decide) (by decide)
theorem u32s_modP {m : Int} (h : m = 0) : ([.int .u32 65535, .int .u32 65535, .int .u32 65535, .int .u32 65535, .int .u32 65535, .int .u32 65535, .int .u32 0, .int .u32 0, .int .u32 0, .int .u32 0, .int .u32 0, .int .u32 0, .int .u32 1, .int .u32 0, .int .u32 65535, .int .u32 65535] : List Value) = u32s (digs (modN m)) := by rw [digs_modP h]; rfl
theorem u32s_modN {m : Int} (h : m ≠ 0) : ([.int .u32 9553, .int .u32 64611, .int .u32 51906, .int .u32 62393, .int .u32 40580, .int .u32 42775, .int .u32 64173, .int .u32 48358, .int .u32 65535, .int .u32 65535, .int .u32 65535, .int .u32 65535, .int .u32 0, .int .u32 0, .int .u32 65535, .int .u32 65535] : List Value) = u32s (digs (modN m)) := by rw [digs_modN h]; rfl
theorem u32s_1 : ([.int .u32 1] : List Value) = u32s (digs 1) := by rw [show digs 1 = [1] from digs_dval (l := [1]) (by intro d hd; revert d hd; decide) (by decide)]; rfl
theorem u32s_0 : ([] : List Value) = u32s (digs 0) := by rw [digs_0]; rfl
theorem is_fin (a b : Nat) : (cmpI a b == 0) = decide (a = b) := by rw [Bool.eq_iff_iff]; simp [cmpI_eq]
theorem cmp_lt {a b k : Nat} (hk : 0 < k) (h : a / 65536 ^ k = b / 65536 ^ k) (hl : ((a / 65536 ^ (k - 1) % 65536 : Nat) : Int) < ((b / 65536 ^ (k - 1) % 65536 : Nat) : Int)) : a < b :=
  top_lt (k := k - 1) (by rw [show k - 1 + 1 = k by omega]; exact h) rfl rfl (Int.ofNat_lt.1 hl)
theorem cmp_eq {a b k : Nat} (hk : 0 < k) (h : a / 65536 ^ k = b / 65536 ^ k) (h1 : ¬ ((a / 65536 ^ (k - 1) % 65536 : Nat) : Int) < ((b / 65536 ^ (k - 1) % 65536 : Nat) : Int)) (h2 : ¬ ((a / 65536 ^ (k - 1) % 65536 : Nat) : Int) > ((b / 65536 ^ (k - 1) % 65536 : Nat) : Int)) : a / 65536 ^ (k - 1) = b / 65536 ^ (k - 1) :=
  top_eq (k := k - 1) (by rw [show k - 1 + 1 = k by omega]; exact h) rfl rfl (by omega)
/-- The digit at a place. -/
def dg (A i : Nat) : Nat := A / 65536 ^ i % 65536
theorem dg_lt (A i : Nat) : dg A i < 65536 := Nat.mod_lt _ (by decide)
theorem dg_top {A i : Nat} (h : (digs A).length ≤ i) : dg A i = 0 := by unfold dg; rw [above_top h]
theorem u32s_dg {n i : Nat} (h : i < (digs n).length) : (u32s (digs n))[i]? = some (.int .u32 (dg n i : Int)) := u32s_digs h
theorem mod_succ (A i : Nat) : A % 65536 ^ (i + 1) = A % 65536 ^ i + dg A i * 65536 ^ i := by
  rw [Nat.pow_succ, Nat.mod_mul, Nat.mul_comm]; rfl
theorem mod_len {A i : Nat} (h : (digs A).length ≤ i) : A % 65536 ^ i = A := Nat.mod_eq_of_lt (Nat.lt_of_lt_of_le (digs_lt A) (Nat.pow_le_pow_right (by decide) h))
theorem u32s_nil : ([] : List Value) = u32s [] := rfl
theorem u32s_snoc (l : List Nat) (d : Nat) : u32s l ++ [.int .u32 (d : Int)] = u32s (l ++ [d]) := by simp [u32s]
theorem DL.snoc {l : List Nat} (h : DL l) {d : Nat} (hd : d < 65536) : DL (l ++ [d]) := h.append (DL.cons hd DL.nil)
theorem dval_snoc (l : List Nat) (d : Nat) : dval (l ++ [d]) = dval l + 65536 ^ l.length * d := by rw [dval_append]; simp [dval]
/-- The lower digits. -/
def dl (A n : Nat) : List Nat := (List.range n).map (dg A)
theorem u32s_dl0 (A : Nat) : ([] : List Value) = u32s (dl A (4 * 0)) := rfl
theorem dl_length (A n : Nat) : (dl A n).length = n := by simp [dl]
theorem dl_succ (A n : Nat) : dl A (n + 1) = dl A n ++ [dg A n] := by simp [dl, List.range_succ]
theorem DL_dl (A n : Nat) : DL (dl A n) := fun d hd => by
  simp only [dl, List.mem_map] at hd
  obtain ⟨i, _, rfl⟩ := hd
  exact dg_lt A i
theorem dval_dl (A n : Nat) : dval (dl A n) = A % 65536 ^ n := by
  induction n with
  | zero => simp [dl, dval, Nat.mod_one]
  | succ n ih => rw [dl_succ, dval_snoc, ih, dl_length, mod_succ, Nat.mul_comm]
theorem dl_snoc (A n : Nat) : u32s (dl A n) ++ [.int .u32 (dg A n : Int)] = u32s (dl A (n + 1)) := by rw [u32s_snoc, dl_succ]
theorem in_shr (A i k : Nat) (hk : k < 4) : (lm A i).fdiv (2 ^ (min (((16 * k : Nat) : Int).toNat) IntKind.u64.bits)) = ((A / 2 ^ (64 * i) % 2 ^ 64 / 2 ^ (16 * k) : Nat) : Int) :=
  shrN (by show 16 * k ≤ 64; omega)
theorem in_and (A i k : Nat) (hk : k < 4) : bits .and .u64 ((A / 2 ^ (64 * i) % 2 ^ 64 / 2 ^ (16 * k) : Nat) : Int) 65535 = ((dg A (4 * i + k) : Nat) : Int) := by
  have h := maskN (k := .u64) rfl (x := A / 2 ^ (64 * i) % 2 ^ 64 / 2 ^ (16 * k)) 16 (Nat.lt_of_le_of_lt (Nat.div_le_self _ _) (Nat.mod_lt _ (by decide))) (by decide)
  have e : ((2 ^ 16 - 1 : Nat) : Int) = 65535 := rfl
  rw [e] at h
  rw [h]
  congr 1
  unfold dg
  have e2 : (65536 : Nat) ^ (4 * i + k) = 2 ^ (64 * i + 16 * k) := by rw [show (65536 : Nat) = 2 ^ 16 by rfl, ← Nat.pow_mul]; congr 1; omega
  rw [e2, Nat.pow_add, ← Nat.div_div_eq_div_mul]
  generalize A / 2 ^ (64 * i) = X
  rcases (by omega : k = 0 ∨ k = 1 ∨ k = 2 ∨ k = 3) with rfl | rfl | rfl | rfl
  all_goals simp only [Nat.reduceMul, Nat.reducePow]
  all_goals omega
theorem in_fin {A i : Nat} (hA : A < two256) (hi : i = 4) : dval (dl A (4 * i)) = A := by subst hi; rw [dval_dl]; exact Nat.mod_eq_of_lt hA
theorem u32add {x y : Int} {r : Nat} (h : x + y = r) (hr : r < 4294967296) : IntKind.u32.wrap (x + y) = r := by rw [h]; exact wrapS rfl hr
theorem u32sub {x y : Int} {r : Nat} (h : x - y = r) (hr : r < 4294967296) : IntKind.u32.wrap (x - y) = r := by rw [h]; exact wrapS rfl hr
theorem u64add {x y : Int} {r : Nat} (h : x + y = r) (hr : r < 18446744073709551616) : IntKind.u64.wrap (x + y) = r := by rw [h]; exact wrapS rfl hr
theorem u64sub {x y : Int} {r : Nat} (h : x - y = r) (hr : r < 18446744073709551616) : IntKind.u64.wrap (x - y) = r := by rw [h]; exact wrapS rfl hr
theorem and16 {x : Int} {n : Nat} (h : x = n) (hn : n < 4294967296) : bits .and .u32 x 65535 = ((n % 65536 : Nat) : Int) := by
  subst h
  exact maskN (k := .u32) rfl 16 hn (by decide)
theorem shr16 {x : Int} {n : Nat} (h : x = n) : x.fdiv (2 ^ (min ((16 : Int).toNat) IntKind.u32.bits)) = ((n / 65536 : Nat) : Int) := by
  subst h
  exact shrN (b := 16) (by decide)
theorem add_step {A B i c : Nat} {ls : List Nat} (hl : ls.length = i) (hv : dval ls + c * 65536 ^ i = A % 65536 ^ i + B % 65536 ^ i) :
    dval (ls ++ [(c + dg A i + dg B i) % 65536]) + (c + dg A i + dg B i) / 65536 * 65536 ^ (i + 1) = A % 65536 ^ (i + 1) + B % 65536 ^ (i + 1) := by
  rw [dval_snoc, hl, mod_succ, mod_succ, Nat.pow_succ]
  have h1 := Nat.div_add_mod (c + dg A i + dg B i) 65536
  generalize (c + dg A i + dg B i) % 65536 = x at *
  generalize (c + dg A i + dg B i) / 65536 = y at *
  have h2 : 65536 ^ i * x + y * (65536 ^ i * 65536) = 65536 ^ i * (c + dg A i + dg B i) := by rw [← h1, Nat.mul_add, Nat.add_comm]; congr 1; rw [Nat.mul_comm y, Nat.mul_assoc]
  have h3 : 65536 ^ i * (c + dg A i + dg B i) = c * 65536 ^ i + dg A i * 65536 ^ i + dg B i * 65536 ^ i := by rw [Nat.mul_comm, Nat.add_mul, Nat.add_mul]
  omega
theorem add_end {A B i c : Nat} {ls : List Nat} (hl : ls.length = i) (hA : (digs A).length ≤ i) (hB : (digs B).length ≤ i) (hv : dval ls + c * 65536 ^ i = A % 65536 ^ i + B % 65536 ^ i) : dval (ls ++ [c]) = A + B := by
  rw [mod_len hA, mod_len hB] at hv
  rw [dval_snoc, hl, Nat.mul_comm]; exact hv
theorem sub_step {A B i c : Nat} {ls : List Nat} (hc : c ≤ 1) (hl : ls.length = i) (hv : dval ls + B % 65536 ^ i = A % 65536 ^ i + c * 65536 ^ i) :
    dval (ls ++ [(65536 + dg A i - c - dg B i) % 65536]) + B % 65536 ^ (i + 1) = A % 65536 ^ (i + 1) + (1 - (65536 + dg A i - c - dg B i) / 65536) * 65536 ^ (i + 1) := by
  rw [dval_snoc, hl, mod_succ, mod_succ, Nat.pow_succ]
  have ha := dg_lt A i
  have hb := dg_lt B i
  have h1 := Nat.div_add_mod (65536 + dg A i - c - dg B i) 65536
  have h0 : (65536 + dg A i - c - dg B i) / 65536 ≤ 1 := by omega
  have hN : (65536 + dg A i - c - dg B i) + c + dg B i = 65536 + dg A i := by omega
  generalize 65536 + dg A i - c - dg B i = N at *
  have hd : N % 65536 + c + dg B i + 65536 * (N / 65536) = 65536 + dg A i := by omega
  have hm : N % 65536 + c + dg B i = (1 - N / 65536) * 65536 + dg A i := by omega
  generalize N % 65536 = x at *
  generalize 1 - N / 65536 = y at *
  have h3 : 65536 ^ i * x + c * 65536 ^ i + dg B i * 65536 ^ i = y * (65536 ^ i * 65536) + dg A i * 65536 ^ i := by
    have := congrArg (· * 65536 ^ i) hm
    simp only [Nat.add_mul] at this
    rw [Nat.mul_comm (65536 ^ i) x, this, Nat.mul_assoc, Nat.mul_comm 65536]
  omega
theorem sub_end {A B i c : Nat} {ls : List Nat} (hd : DL ls) (hc : c ≤ 1) (hl : ls.length = i) (hA : (digs A).length ≤ i) (hB : B ≤ A) (hv : dval ls + B % 65536 ^ i = A % 65536 ^ i + c * 65536 ^ i) : dval ls = A - B := by
  rw [mod_len hA, mod_len (Nat.le_trans (digs_mono hB) hA)] at hv
  have := dval_lt hd
  rw [hl] at this
  rcases (by omega : c = 0 ∨ c = 1) with rfl | rfl
  · omega
  · omega
end Go.Proofs.Ytjmgilhlpohcmaa
