/- Numbers as digits of sixteen bits, the lowest first. Numbers as digits: halves, products, what is left. Numbers as digits: what is left. Numbers as digits: powers. Conditions: as each theorem says. -/
import Derived.Test.YtmbcolbbekbccaaSlc
import Derived.Test.YtmbcolbbekbccaaFm
import Derived.Test.YtmbcolbbekbccaaInt
namespace Go.Proofs.Ytmbcolbbekbccaa
section
open Go Go.RowKit

def u32s (l : List Nat) : List Value := l.map fun (d : Nat) => Value.int .u32 (d : Int)
def dval : List Nat → Nat
  | [] => 0
  | d :: l => d + 65536 * dval l
def digs (n : Nat) : List Nat := if h : n = 0 then [] else n % 65536 :: digs (n / 65536)
termination_by n
decreasing_by exact Nat.div_lt_self (Nat.pos_of_ne_zero h) (by decide)
def DL (l : List Nat) : Prop := ∀ d ∈ l, d < 65536
theorem digs_0 : digs 0 = [] := by rw [digs]; simp
theorem digs_pos {n : Nat} (h : n ≠ 0) : digs n = n % 65536 :: digs (n / 65536) := by rw [digs]; simp [h]
theorem digs_DL (n : Nat) : DL (digs n) := by
  induction n using Nat.strongRecOn with
  | _ n ih =>
    by_cases h : n = 0
    · subst h; rw [digs_0]; intro d hd; cases hd
    · rw [digs_pos h]
      intro d hd
      rcases List.mem_cons.1 hd with rfl | hd
      · exact Nat.mod_lt _ (by decide)
      · exact ih (n / 65536) (Nat.div_lt_self (Nat.pos_of_ne_zero h) (by decide)) d hd
theorem dval_digs (n : Nat) : dval (digs n) = n := by
  induction n using Nat.strongRecOn with
  | _ n ih =>
    by_cases h : n = 0
    · subst h; rw [digs_0]; rfl
    · rw [digs_pos h, dval, ih (n / 65536) (Nat.div_lt_self (Nat.pos_of_ne_zero h) (by decide))]
      omega
theorem DL.nil : DL [] := fun d hd => by cases hd
theorem DL.cons {d : Nat} {l : List Nat} (h : d < 65536) (hl : DL l) : DL (d :: l) := fun x hx => by
  rcases List.mem_cons.1 hx with rfl | hx
  · exact h
  · exact hl x hx
theorem DL.tail {d : Nat} {l : List Nat} (h : DL (d :: l)) : d < 65536 ∧ DL l := ⟨h d (by simp), fun x hx => h x (by simp [hx])⟩
theorem DL.append {a b : List Nat} (ha : DL a) (hb : DL b) : DL (a ++ b) := fun x hx => by
  rcases List.mem_append.1 hx with h | h
  · exact ha x h
  · exact hb x h
theorem DL.take {a : List Nat} (ha : DL a) (n : Nat) : DL (a.take n) := fun x hx => ha x (List.mem_of_mem_take hx)
theorem DL.get {l : List Nat} (h : DL l) {i d : Nat} (hi : l[i]? = some d) : d < 65536 := h d (List.mem_of_getElem? hi)
theorem dval_lt : ∀ {l : List Nat}, DL l → dval l < 65536 ^ l.length
  | [], _ => by simp [dval]
  | d :: l, h => by
    have := dval_lt h.tail.2
    have := h.tail.1
    simp only [dval, List.length_cons, Nat.pow_succ]
    omega
theorem dval_append (a b : List Nat) : dval (a ++ b) = dval a + 65536 ^ a.length * dval b := by
  induction a with
  | nil => simp [dval]
  | cons d a ih =>
    simp only [List.cons_append, dval, ih, List.length_cons, Nat.pow_succ, Nat.mul_add, Nat.add_assoc]
    congr 2
    rw [← Nat.mul_assoc, Nat.mul_comm 65536]
theorem dval_take {l : List Nat} (h : DL l) (i : Nat) : dval (l.take i) = dval l % 65536 ^ i := by
  by_cases hi : i ≤ l.length
  · have hl : (l.take i).length = i := by simp; omega
    have h1 := dval_append (l.take i) (l.drop i)
    have h2 := dval_lt (DL.take h i)
    rw [List.take_append_drop, hl] at h1
    rw [hl] at h2
    rw [h1, Nat.add_mul_mod_self_left, Nat.mod_eq_of_lt h2]
  · rw [List.take_of_length_le (by omega)]
    exact (Nat.mod_eq_of_lt (Nat.lt_of_lt_of_le (dval_lt h) (Nat.pow_le_pow_right (by decide) (by omega)))).symm
theorem dval_drop {l : List Nat} (h : DL l) (i : Nat) : dval (l.drop i) = dval l / 65536 ^ i := by
  by_cases hi : i ≤ l.length
  · have hl : (l.take i).length = i := by simp; omega
    have h1 := dval_append (l.take i) (l.drop i)
    have h2 := dval_lt (DL.take h i)
    rw [List.take_append_drop, hl] at h1
    rw [hl] at h2
    rw [h1, Nat.add_mul_div_left _ _ (Nat.pow_pos (by decide)), Nat.div_eq_of_lt h2, Nat.zero_add]
  · rw [List.drop_of_length_le (by omega)]
    exact (Nat.div_eq_of_lt (Nat.lt_of_lt_of_le (dval_lt h) (Nat.pow_le_pow_right (by decide) (by omega)))).symm
theorem dval_get {l : List Nat} (h : DL l) {i d : Nat} (hd : l[i]? = some d) : d = dval l / 65536 ^ i % 65536 := by
  rw [← dval_drop h]
  have hi := (List.getElem?_eq_some_iff.1 hd).1
  have e : l.drop i = d :: l.drop (i + 1) := by
    rw [List.drop_eq_getElem_cons hi, (List.getElem?_eq_some_iff.1 hd).2]
  rw [e, dval, Nat.add_mul_mod_self_left, Nat.mod_eq_of_lt (h.get hd)]
theorem digs_dval : ∀ {l : List Nat}, DL l → l.getLast? ≠ some 0 → digs (dval l) = l
  | [], _, _ => by rw [dval, digs_0]
  | [d], h, ht => by
    have hd : d ≠ 0 := fun e => ht (by simp [e])
    have := h.tail.1
    rw [dval, dval, Nat.mul_zero, Nat.add_zero, digs_pos hd, Nat.div_eq_of_lt this, digs_0, Nat.mod_eq_of_lt this]
  | d :: d' :: l, h, ht => by
    have ih := digs_dval h.tail.2 (by simpa using ht)
    have hd := h.tail.1
    have hv : dval (d' :: l) ≠ 0 := fun e => by rw [e, digs_0] at ih; cases ih
    have h1 : dval (d :: d' :: l) = d + 65536 * dval (d' :: l) := rfl
    rw [h1, digs_pos (by omega), Nat.add_mul_mod_self_left, Nat.mod_eq_of_lt hd, Nat.add_mul_div_left _ _ (by decide), Nat.div_eq_of_lt hd, Nat.zero_add, ih]
theorem dval_zeros {l : List Nat} (h : ∀ (i d : Nat), l[i]? = some d → d = 0) : dval l = 0 := by
  induction l with
  | nil => rfl
  | cons d l ih =>
    have h0 := h 0 d rfl
    have := ih fun i x hx => h (i + 1) x (by simpa using hx)
    rw [dval, h0, this]
/-- Without noughts on top. -/
theorem digs_trim {l : List Nat} (h : DL l) {n : Nat} (hn : n ≤ l.length) (hz : ∀ i d, n ≤ i → l[i]? = some d → d = 0) (ht : n = 0 ∨ l[n - 1]? ≠ some 0) : l.take n = digs (dval l) := by
  have h1 : dval l = dval (l.take n) := by
    have := dval_append (l.take n) (l.drop n)
    rw [List.take_append_drop, dval_zeros (l := l.drop n) fun i d hd => hz (n + i) d (by omega) (by simpa using hd)] at this
    simpa using this
  rw [h1]
  refine (digs_dval (DL.take h n) ?_).symm
  rw [List.getLast?_eq_getElem?]
  rcases ht with rfl | ht
  · simp
  · have hl : (l.take n).length = n := by simp; omega
    rw [hl]
    by_cases h0 : n = 0
    · subst h0; simp
    · rw [List.getElem?_take, if_pos (by omega)]; exact ht
theorem digs_top {n : Nat} : (digs n).getLast? ≠ some 0 := by
  induction n using Nat.strongRecOn with
  | _ n ih =>
    by_cases h : n = 0
    · subst h; rw [digs_0]; simp
    · rw [digs_pos h]
      by_cases h2 : n / 65536 = 0
      · rw [h2, digs_0]
        simp
        omega
      · have := ih (n / 65536) (Nat.div_lt_self (Nat.pos_of_ne_zero h) (by decide))
        rw [digs_pos h2] at this ⊢
        simpa using this
theorem digs_lt (n : Nat) : n < 65536 ^ (digs n).length := by have := dval_lt (digs_DL n); rwa [dval_digs] at this
theorem digs_ge {n : Nat} (h : n ≠ 0) : 65536 ^ ((digs n).length - 1) ≤ n := by
  have hne : digs n ≠ [] := by rw [digs_pos h]; simp
  have h1 := dval_append ((digs n).take ((digs n).length - 1)) ((digs n).drop ((digs n).length - 1))
  have hlen : 0 < (digs n).length := List.length_pos_iff.2 hne
  have hl : ((digs n).take ((digs n).length - 1)).length = (digs n).length - 1 := by simp
  rw [List.take_append_drop, dval_digs, hl] at h1
  have h2 : dval ((digs n).drop ((digs n).length - 1)) ≠ 0 := by
    have ht := digs_top (n := n)
    rw [List.getLast?_eq_getElem?] at ht
    rw [List.drop_eq_getElem_cons (by omega), List.drop_of_length_le (by omega), dval, dval]
    rw [List.getElem?_eq_getElem (by omega)] at ht
    intro e
    exact ht (by congr 1)
  have h3 : 65536 ^ ((digs n).length - 1) * 1 ≤ 65536 ^ ((digs n).length - 1) * dval ((digs n).drop ((digs n).length - 1)) := Nat.mul_le_mul_left _ (Nat.pos_of_ne_zero h2)
  omega
theorem digs_len_le {n k : Nat} (h : n < 65536 ^ k) : (digs n).length ≤ k := by
  by_cases h0 : n = 0
  · subst h0; rw [digs_0]; simp
  · rcases Nat.lt_or_ge k (digs n).length with h2 | h2
    · have := digs_ge h0
      have h3 : 65536 ^ k ≤ 65536 ^ ((digs n).length - 1) := Nat.pow_le_pow_right (by decide) (by omega)
      omega
    · exact h2
theorem digs_mono {a b : Nat} (h : a ≤ b) : (digs a).length ≤ (digs b).length := digs_len_le (Nat.lt_of_le_of_lt h (digs_lt b))
theorem digs_get {n i d : Nat} (h : (digs n)[i]? = some d) : d = n / 65536 ^ i % 65536 := by have := dval_get (digs_DL n) h; rwa [dval_digs] at this
theorem digs_some {n i : Nat} (h : i < (digs n).length) : (digs n)[i]? = some (n / 65536 ^ i % 65536) := by
  have := List.getElem?_eq_getElem h
  rw [this]; congr 1; exact digs_get this
theorem u32s_get {l : List Nat} {i d : Nat} (h : l[i]? = some d) : (u32s l)[i]? = some (.int .u32 (d : Int)) := by simp [u32s, h]
theorem u32s_length (l : List Nat) : (u32s l).length = l.length := by simp [u32s]
theorem u32s_take (l : List Nat) (n : Nat) : (u32s l).take n = u32s (l.take n) := by simp [u32s, List.map_take]
theorem u32s_append (a b : List Nat) : u32s (a ++ b) = u32s a ++ u32s b := by simp [u32s]
/-- A slice that reads as a number's digits. -/
def Dg (w : World) (v : Value) (n : Nat) : Prop := Rd w v (u32s (digs n))
theorem u32s_digs {n i : Nat} (h : i < (digs n).length) : (u32s (digs n))[i]? = some (.int .u32 ((n / 65536 ^ i % 65536 : Nat) : Int)) := u32s_get (digs_some h)
theorem trim_fin {w : World} {a : Value} {l : List Nat} {n : Nat} (ha : Rd w a (u32s l)) (hd : DL l) (hn : n ≤ l.length) (hz : ∀ (i d : Nat), n ≤ i → l[i]? = some d → d = 0) (ht : n = 0 ∨ l[n - 1]? ≠ some 0) : Dg w (subv a 0 n) (dval l) := by
  have h := Rd.sub ha (Nat.zero_le n) (by rw [u32s_length]; exact hn)
  rw [List.drop_zero, Nat.sub_zero, u32s_take, digs_trim hd hn hz ht] at h
  exact h
theorem trim_step {l : List Nat} {n d : Nat} (hz : ∀ (i d : Nat), n ≤ i → l[i]? = some d → d = 0) (hd1 : l[n - 1]? = some d) (h0 : d = 0) : ∀ (i d : Nat), n - 1 ≤ i → l[i]? = some d → d = 0 := fun i d' hi hd' => by
  by_cases h : n ≤ i
  · exact hz i d' h hd'
  · have e : i = n - 1 := by omega
    subst e
    rw [hd1] at hd'
    injection hd' with hd'
    omega
/-- How two numbers stand. -/
def cmpI (a b : Nat) : Int := if a < b then -1 else if a = b then 0 else 1
theorem cmpI_l {a b : Nat} (h : a < b) : cmpI a b = -1 := by unfold cmpI; rw [if_pos h]
theorem cmpI_g {a b : Nat} (h : b < a) : cmpI a b = 1 := by unfold cmpI; rw [if_neg (by omega), if_neg (by omega)]
theorem cmpI_e {a b : Nat} (h : a = b) : cmpI a b = 0 := by unfold cmpI; rw [if_neg (by omega), if_pos h]
theorem u32s_set (l : List Nat) (i d : Nat) : (u32s l).set i (.int .u32 (d : Int)) = u32s (l.set i d) := by simp [u32s, List.map_set]
theorem u32s_rep (n : Nat) : List.replicate n (Value.int .u32 0) = u32s (List.replicate n 0) := by simp [u32s]
theorem cmpI_lt {a b : Nat} : cmpI a b < 0 ↔ a < b := by
  unfold cmpI
  repeat' split
  all_goals omega
theorem cmpI_ge {a b : Nat} : 0 ≤ cmpI a b ↔ b ≤ a := by
  unfold cmpI
  repeat' split
  all_goals omega
theorem cmpI_eq {a b : Nat} : cmpI a b = 0 ↔ a = b := by
  unfold cmpI
  repeat' split
  all_goals omega
theorem cmpI_len {a b : Nat} (h : (digs a).length < (digs b).length) : a < b := by
  have h1 := digs_lt a
  have hb : b ≠ 0 := fun e => by subst e; rw [digs_0] at h; simp at h
  have h2 := digs_ge hb
  have h3 : 65536 ^ (digs a).length ≤ 65536 ^ ((digs b).length - 1) := Nat.pow_le_pow_right (by decide) (by omega)
  omega
/-- What is equal above, and below the less, is less. -/
theorem top_lt {a b k x y : Nat} (h : a / 65536 ^ (k + 1) = b / 65536 ^ (k + 1)) (hx : x = a / 65536 ^ k % 65536) (hy : y = b / 65536 ^ k % 65536) (hlt : x < y) : a < b := by
  have e1 : a / 65536 ^ (k + 1) = a / 65536 ^ k / 65536 := by rw [Nat.pow_succ, Nat.div_div_eq_div_mul]
  have e2 : b / 65536 ^ (k + 1) = b / 65536 ^ k / 65536 := by rw [Nat.pow_succ, Nat.div_div_eq_div_mul]
  rw [e1, e2] at h
  have h3 : a / 65536 ^ k < b / 65536 ^ k := by omega
  exact Nat.lt_of_not_le fun hle => by have := Nat.div_le_div_right (c := 65536 ^ k) hle; omega
theorem top_eq {a b k x y : Nat} (h : a / 65536 ^ (k + 1) = b / 65536 ^ (k + 1)) (hx : x = a / 65536 ^ k % 65536) (hy : y = b / 65536 ^ k % 65536) (he : x = y) : a / 65536 ^ k = b / 65536 ^ k := by
  have e1 : a / 65536 ^ (k + 1) = a / 65536 ^ k / 65536 := by rw [Nat.pow_succ, Nat.div_div_eq_div_mul]
  have e2 : b / 65536 ^ (k + 1) = b / 65536 ^ k / 65536 := by rw [Nat.pow_succ, Nat.div_div_eq_div_mul]
  rw [e1, e2] at h
  omega
theorem above_top {a : Nat} {k : Nat} (h : (digs a).length ≤ k) : a / 65536 ^ k = 0 := Nat.div_eq_of_lt (Nat.lt_of_lt_of_le (digs_lt a) (Nat.pow_le_pow_right (by decide) h))
theorem digs_modP {m : Int} (h : m = 0) : digs (modN m) = [65535, 65535, 65535, 65535, 65535, 65535, 0, 0, 0, 0, 0, 0, 1, 0, 65535, 65535] := by
  have e : modN m = dval [65535, 65535, 65535, 65535, 65535, 65535, 0, 0, 0, 0, 0, 0, 1, 0, 65535, 65535] := by unfold modN; rw [show (m == 0) = true by simpa using h]; rfl
  rw [e]
  exact digs_dval (by intro d hd; revert d hd; decide) (by decide)
theorem digs_modN {m : Int} (h : m ≠ 0) : digs (modN m) = [9553, 64611, 51906, 62393, 40580, 42775, 64173, 48358, 65535, 65535, 65535, 65535, 0, 0, 65535, 65535] := by
  have e : modN m = dval [9553, 64611, 51906, 62393, 40580, 42775, 64173, 48358, 65535, 65535, 65535, 65535, 0, 0, 65535, 65535] := by unfold modN; rw [show (m == 0) = false by simpa using h]; rfl
  rw [e]
  exact digs_dval (by intro d hd; revert d hd; decide) (by decide)
theorem u32s_modP {m : Int} (h : m = 0) : ([.int .u32 65535, .int .u32 65535, .int .u32 65535, .int .u32 65535, .int .u32 65535, .int .u32 65535, .int .u32 0, .int .u32 0, .int .u32 0, .int .u32 0, .int .u32 0, .int .u32 0, .int .u32 1, .int .u32 0, .int .u32 65535, .int .u32 65535] : List Value) = u32s (digs (modN m)) := by rw [digs_modP h]; rfl
theorem u32s_modN {m : Int} (h : m ≠ 0) : ([.int .u32 9553, .int .u32 64611, .int .u32 51906, .int .u32 62393, .int .u32 40580, .int .u32 42775, .int .u32 64173, .int .u32 48358, .int .u32 65535, .int .u32 65535, .int .u32 65535, .int .u32 65535, .int .u32 0, .int .u32 0, .int .u32 65535, .int .u32 65535] : List Value) = u32s (digs (modN m)) := by rw [digs_modN h]; rfl
theorem u32s_1 : ([.int .u32 1] : List Value) = u32s (digs 1) := by rw [show digs 1 = [1] from digs_dval (l := [1]) (by intro d hd; revert d hd; decide) (by decide)]; rfl
theorem u32s_0 : ([] : List Value) = u32s (digs 0) := by rw [digs_0]; rfl
theorem is_fin (a b : Nat) : (cmpI a b == 0) = decide (a = b) := by rw [Bool.eq_iff_iff]; simp [cmpI_eq]
theorem cmp_lt {a b k : Nat} (hk : 0 < k) (h : a / 65536 ^ k = b / 65536 ^ k) (hl : ((a / 65536 ^ (k - 1) % 65536 : Nat) : Int) < ((b / 65536 ^ (k - 1) % 65536 : Nat) : Int)) : a < b :=
  top_lt (k := k - 1) (by rw [show k - 1 + 1 = k by omega]; exact h) rfl rfl (Int.ofNat_lt.1 hl)
theorem cmp_eq {a b k : Nat} (hk : 0 < k) (h : a / 65536 ^ k = b / 65536 ^ k) (h1 : ¬ ((a / 65536 ^ (k - 1) % 65536 : Nat) : Int) < ((b / 65536 ^ (k - 1) % 65536 : Nat) : Int)) (h2 : ¬ ((a / 65536 ^ (k - 1) % 65536 : Nat) : Int) > ((b / 65536 ^ (k - 1) % 65536 : Nat) : Int)) : a / 65536 ^ (k - 1) = b / 65536 ^ (k - 1) :=
  top_eq (k := k - 1) (by rw [show k - 1 + 1 = k by omega]; exact h) rfl rfl (by omega)
/-- The digit at a place. -/
def dg (A i : Nat) : Nat := A / 65536 ^ i % 65536
theorem dg_lt (A i : Nat) : dg A i < 65536 := Nat.mod_lt _ (by decide)
theorem dg_top {A i : Nat} (h : (digs A).length ≤ i) : dg A i = 0 := by unfold dg; rw [above_top h]
theorem u32s_dg {n i : Nat} (h : i < (digs n).length) : (u32s (digs n))[i]? = some (.int .u32 (dg n i : Int)) := u32s_digs h
theorem mod_succ (A i : Nat) : A % 65536 ^ (i + 1) = A % 65536 ^ i + dg A i * 65536 ^ i := by
  rw [Nat.pow_succ, Nat.mod_mul, Nat.mul_comm]; rfl
theorem mod_len {A i : Nat} (h : (digs A).length ≤ i) : A % 65536 ^ i = A := Nat.mod_eq_of_lt (Nat.lt_of_lt_of_le (digs_lt A) (Nat.pow_le_pow_right (by decide) h))
theorem u32s_nil : ([] : List Value) = u32s [] := rfl
theorem u32s_snoc (l : List Nat) (d : Nat) : u32s l ++ [.int .u32 (d : Int)] = u32s (l ++ [d]) := by simp [u32s]
theorem DL.snoc {l : List Nat} (h : DL l) {d : Nat} (hd : d < 65536) : DL (l ++ [d]) := h.append (DL.cons hd DL.nil)
theorem dval_snoc (l : List Nat) (d : Nat) : dval (l ++ [d]) = dval l + 65536 ^ l.length * d := by rw [dval_append]; simp [dval]
/-- The lower digits. -/
def dl (A n : Nat) : List Nat := (List.range n).map (dg A)
theorem u32s_dl0 (A : Nat) : ([] : List Value) = u32s (dl A (4 * 0)) := rfl
theorem dl_length (A n : Nat) : (dl A n).length = n := by simp [dl]
theorem dl_succ (A n : Nat) : dl A (n + 1) = dl A n ++ [dg A n] := by simp [dl, List.range_succ]
theorem DL_dl (A n : Nat) : DL (dl A n) := fun d hd => by
  simp only [dl, List.mem_map] at hd
  obtain ⟨i, _, rfl⟩ := hd
  exact dg_lt A i
theorem dval_dl (A n : Nat) : dval (dl A n) = A % 65536 ^ n := by
  induction n with
  | zero => simp [dl, dval, Nat.mod_one]
  | succ n ih => rw [dl_succ, dval_snoc, ih, dl_length, mod_succ, Nat.mul_comm]
theorem dl_snoc (A n : Nat) : u32s (dl A n) ++ [.int .u32 (dg A n : Int)] = u32s (dl A (n + 1)) := by rw [u32s_snoc, dl_succ]
theorem in_shr (A i k : Nat) (hk : k < 4) : (lm A i).fdiv (2 ^ (min (((16 * k : Nat) : Int).toNat) IntKind.u64.bits)) = ((A / 2 ^ (64 * i) % 2 ^ 64 / 2 ^ (16 * k) : Nat) : Int) :=
  shrN (by show 16 * k ≤ 64; omega)
theorem in_and (A i k : Nat) (hk : k < 4) : bits .and .u64 ((A / 2 ^ (64 * i) % 2 ^ 64 / 2 ^ (16 * k) : Nat) : Int) 65535 = ((dg A (4 * i + k) : Nat) : Int) := by
  have h := maskN (k := .u64) rfl (x := A / 2 ^ (64 * i) % 2 ^ 64 / 2 ^ (16 * k)) 16 (Nat.lt_of_le_of_lt (Nat.div_le_self _ _) (Nat.mod_lt _ (by decide))) (by decide)
  have e : ((2 ^ 16 - 1 : Nat) : Int) = 65535 := rfl
  rw [e] at h
  rw [h]
  congr 1
  unfold dg
  have e2 : (65536 : Nat) ^ (4 * i + k) = 2 ^ (64 * i + 16 * k) := by rw [show (65536 : Nat) = 2 ^ 16 by rfl, ← Nat.pow_mul]; congr 1; omega
  rw [e2, Nat.pow_add, ← Nat.div_div_eq_div_mul]
  generalize A / 2 ^ (64 * i) = X
  rcases (by omega : k = 0 ∨ k = 1 ∨ k = 2 ∨ k = 3) with rfl | rfl | rfl | rfl
  all_goals simp only [Nat.reduceMul, Nat.reducePow]
  all_goals omega
theorem in_fin {A i : Nat} (hA : A < two256) (hi : i = 4) : dval (dl A (4 * i)) = A := by subst hi; rw [dval_dl]; exact Nat.mod_eq_of_lt hA
theorem u32add {x y : Int} {r : Nat} (h : x + y = r) (hr : r < 4294967296) : IntKind.u32.wrap (x + y) = r := by rw [h]; exact wrapS rfl hr
theorem u32sub {x y : Int} {r : Nat} (h : x - y = r) (hr : r < 4294967296) : IntKind.u32.wrap (x - y) = r := by rw [h]; exact wrapS rfl hr
theorem u64add {x y : Int} {r : Nat} (h : x + y = r) (hr : r < 18446744073709551616) : IntKind.u64.wrap (x + y) = r := by rw [h]; exact wrapS rfl hr
theorem u64sub {x y : Int} {r : Nat} (h : x - y = r) (hr : r < 18446744073709551616) : IntKind.u64.wrap (x - y) = r := by rw [h]; exact wrapS rfl hr
theorem and16 {x : Int} {n : Nat} (h : x = n) (hn : n < 4294967296) : bits .and .u32 x 65535 = ((n % 65536 : Nat) : Int) := by
  subst h
  exact maskN (k := .u32) rfl 16 hn (by decide)
theorem shr16 {x : Int} {n : Nat} (h : x = n) : x.fdiv (2 ^ (min ((16 : Int).toNat) IntKind.u32.bits)) = ((n / 65536 : Nat) : Int) := by
  subst h
  exact shrN (b := 16) (by decide)
theorem add_step {A B i c : Nat} {ls : List Nat} (hl : ls.length = i) (hv : dval ls + c * 65536 ^ i = A % 65536 ^ i + B % 65536 ^ i) :
    dval (ls ++ [(c + dg A i + dg B i) % 65536]) + (c + dg A i + dg B i) / 65536 * 65536 ^ (i + 1) = A % 65536 ^ (i + 1) + B % 65536 ^ (i + 1) := by
  rw [dval_snoc, hl, mod_succ, mod_succ, Nat.pow_succ]
  have h1 := Nat.div_add_mod (c + dg A i + dg B i) 65536
  generalize (c + dg A i + dg B i) % 65536 = x at *
  generalize (c + dg A i + dg B i) / 65536 = y at *
  have h2 : 65536 ^ i * x + y * (65536 ^ i * 65536) = 65536 ^ i * (c + dg A i + dg B i) := by rw [← h1, Nat.mul_add, Nat.add_comm]; congr 1; rw [Nat.mul_comm y, Nat.mul_assoc]
  have h3 : 65536 ^ i * (c + dg A i + dg B i) = c * 65536 ^ i + dg A i * 65536 ^ i + dg B i * 65536 ^ i := by rw [Nat.mul_comm, Nat.add_mul, Nat.add_mul]
  omega
theorem add_end {A B i c : Nat} {ls : List Nat} (hl : ls.length = i) (hA : (digs A).length ≤ i) (hB : (digs B).length ≤ i) (hv : dval ls + c * 65536 ^ i = A % 65536 ^ i + B % 65536 ^ i) : dval (ls ++ [c]) = A + B := by
  rw [mod_len hA, mod_len hB] at hv
  rw [dval_snoc, hl, Nat.mul_comm]; exact hv
theorem sub_step {A B i c : Nat} {ls : List Nat} (hc : c ≤ 1) (hl : ls.length = i) (hv : dval ls + B % 65536 ^ i = A % 65536 ^ i + c * 65536 ^ i) :
    dval (ls ++ [(65536 + dg A i - c - dg B i) % 65536]) + B % 65536 ^ (i + 1) = A % 65536 ^ (i + 1) + (1 - (65536 + dg A i - c - dg B i) / 65536) * 65536 ^ (i + 1) := by
  rw [dval_snoc, hl, mod_succ, mod_succ, Nat.pow_succ]
  have ha := dg_lt A i
  have hb := dg_lt B i
  have h1 := Nat.div_add_mod (65536 + dg A i - c - dg B i) 65536
  have h0 : (65536 + dg A i - c - dg B i) / 65536 ≤ 1 := by omega
  have hN : (65536 + dg A i - c - dg B i) + c + dg B i = 65536 + dg A i := by omega
  generalize 65536 + dg A i - c - dg B i = N at *
  have hd : N % 65536 + c + dg B i + 65536 * (N / 65536) = 65536 + dg A i := by omega
  have hm : N % 65536 + c + dg B i = (1 - N / 65536) * 65536 + dg A i := by omega
  generalize N % 65536 = x at *
  generalize 1 - N / 65536 = y at *
  have h3 : 65536 ^ i * x + c * 65536 ^ i + dg B i * 65536 ^ i = y * (65536 ^ i * 65536) + dg A i * 65536 ^ i := by
    have := congrArg (· * 65536 ^ i) hm
    simp only [Nat.add_mul] at this
    rw [Nat.mul_comm (65536 ^ i) x, this, Nat.mul_assoc, Nat.mul_comm 65536]
  omega
theorem sub_end {A B i c : Nat} {ls : List Nat} (hd : DL ls) (hc : c ≤ 1) (hl : ls.length = i) (hA : (digs A).length ≤ i) (hB : B ≤ A) (hv : dval ls + B % 65536 ^ i = A % 65536 ^ i + c * 65536 ^ i) : dval ls = A - B := by
  rw [mod_len hA, mod_len (Nat.le_trans (digs_mono hB) hA)] at hv
  have := dval_lt hd
  rw [hl] at this
  rcases (by omega : c = 0 ∨ c = 1) with rfl | rfl
  · omega
  · omega
end
section
open Go Go.RowKit

theorem half_step {A k c : Nat} {ol : List Nat} (hk : 0 < k) (hkl : k ≤ ol.length) (hc : c = A / 65536 ^ k % 2) (hv : dval (ol.drop k) = A / 65536 ^ k / 2) :
    (c * 65536 + dg A (k - 1)) % 2 = A / 65536 ^ (k - 1) % 2 ∧ dval ((ol.set (k - 1) ((c * 65536 + dg A (k - 1)) / 2)).drop (k - 1)) = A / 65536 ^ (k - 1) / 2 := by
  have e1 : A / 65536 ^ k = A / 65536 ^ (k - 1) / 65536 := by
    conv => lhs; rw [show k = k - 1 + 1 by omega]
    rw [Nat.pow_succ, Nat.div_div_eq_div_mul]
  have e2 : (ol.set (k - 1) ((c * 65536 + dg A (k - 1)) / 2)).drop (k - 1) = ((c * 65536 + dg A (k - 1)) / 2) :: ol.drop k := by
    rw [List.drop_eq_getElem_cons (by rw [List.length_set]; omega)]
    congr 1
    · simp
    · rw [show k - 1 + 1 = k by omega, List.drop_set_of_lt (by omega)]
  rw [e2, dval, hv, hc, e1]
  unfold dg
  generalize A / 65536 ^ (k - 1) = X
  constructor <;> omega
theorem shl16 {c : Nat} (hc : c ≤ 1) : IntKind.u32.wrap ((c : Int) * 2 ^ (min ((16 : Int).toNat) IntKind.u32.bits)) = ((c * 65536 : Nat) : Int) := by
  have e : ((c : Int) * 2 ^ (min ((16 : Int).toNat) IntKind.u32.bits)) = ((c * 65536 : Nat) : Int) := by rw [Int.natCast_mul]; rfl
  rw [e]; exact wrapS rfl (by show c * 65536 < 2 ^ 32; omega)
theorem or16 {c d : Nat} (hc : c ≤ 1) (hd : d < 65536) : bits .or .u32 ((c * 65536 : Nat) : Int) (d : Int) = ((c * 65536 + d : Nat) : Int) :=
  joinN (k := .u32) rfl (n := 16) hd (by show c * 65536 + d < 2 ^ 32; omega)
theorem and1 {n : Nat} (hn : n < 4294967296) : bits .and .u32 (n : Int) 1 = ((n % 2 : Nat) : Int) := maskN (k := .u32) rfl 1 hn (by decide)
theorem shr1 {n : Nat} : (n : Int).fdiv (2 ^ (min ((1 : Int).toNat) IntKind.u32.bits)) = ((n / 2 : Nat) : Int) := shrN (b := 1) (by decide)
theorem odd_some {A : Nat} (_h : 0 < (digs A).length) : ((dg A 0 % 2 : Nat) : Int) = 1 ↔ A % 2 = 1 := by
  unfold dg; rw [Nat.pow_zero, Nat.div_one]; omega
theorem odd_none {A : Nat} (h : ¬ 0 < (digs A).length) : A = 0 := by
  have := digs_lt A
  rw [show (digs A).length = 0 by omega] at this
  simpa using this
theorem rem2 (n : Nat) : (n : Int).tmod 2 = ((n % 2 : Nat) : Int) := (Int.ofNat_tmod n 2).symm

/-! ### Lists out of functions -/
def fl (f : Nat → Nat) (n : Nat) : List Nat := (List.range n).map f
def fup (f : Nat → Nat) (i d : Nat) : Nat → Nat := fun p => if p = i then d else f p
theorem fup_at (f : Nat → Nat) (i d : Nat) : fup f i d i = d := if_pos rfl
theorem fup_ne {f : Nat → Nat} {i d p : Nat} (h : p ≠ i) : fup f i d p = f p := if_neg h
theorem fl_length (f : Nat → Nat) (n : Nat) : (fl f n).length = n := by simp [fl]
theorem fl_succ (f : Nat → Nat) (n : Nat) : fl f (n + 1) = fl f n ++ [f n] := by simp [fl, List.range_succ]
theorem fl_get (f : Nat → Nat) {n i : Nat} (h : i < n) : (fl f n)[i]? = some (f i) := by simp [fl, h]
theorem fl_set (f : Nat → Nat) (n i d : Nat) : (fl f n).set i d = fl (fup f i d) n := by
  apply List.ext_getElem?
  intro j
  by_cases hj : j < n
  · rw [fl_get _ hj]
    by_cases hi : i = j
    · subst hi; simp [fl, hj, fup]
    · rw [List.getElem?_set_ne hi, fl_get _ hj, fup_ne (fun e => hi e.symm)]
  · rw [List.getElem?_eq_none (by simp [fl]; omega), List.getElem?_eq_none (by simp [fl]; omega)]
theorem fl_take (f : Nat → Nat) {n m : Nat} (h : m ≤ n) : (fl f n).take m = fl f m := by simp [fl, ← List.map_take, List.take_range, Nat.min_eq_left h]
theorem DL_fl {f : Nat → Nat} (h : ∀ p, f p < 65536) (n : Nat) : DL (fl f n) := fun d hd => by
  simp only [fl, List.mem_map] at hd
  obtain ⟨i, _, rfl⟩ := hd
  exact h i
theorem fup_lt {f : Nat → Nat} (h : ∀ p, f p < 65536) {i d : Nat} (hd : d < 65536) : ∀ p, fup f i d p < 65536 := fun p => by unfold fup; split; exact hd; exact h p
theorem dval_fl_succ (f : Nat → Nat) (n : Nat) : dval (fl f (n + 1)) = dval (fl f n) + f n * 65536 ^ n := by rw [fl_succ, dval_snoc, fl_length, Nat.mul_comm]
theorem dval_fl_lt {f : Nat → Nat} (h : ∀ p, f p < 65536) (n : Nat) : dval (fl f n) < 65536 ^ n := by have := dval_lt (DL_fl h n); rwa [fl_length] at this
theorem dval_fl_congr {f g : Nat → Nat} {n : Nat} (h : ∀ p, p < n → f p = g p) : dval (fl f n) = dval (fl g n) := by
  induction n with
  | zero => rfl
  | succ n ih => rw [dval_fl_succ, dval_fl_succ, ih (fun p hp => h p (by omega)), h n (by omega)]
theorem dval_fl_up {f : Nat → Nat} {n i d : Nat} (h : i < n) : dval (fl (fup f i d) n) + f i * 65536 ^ i = dval (fl f n) + d * 65536 ^ i := by
  induction n with
  | zero => omega
  | succ n ih =>
    rw [dval_fl_succ, dval_fl_succ]
    by_cases hi : i = n
    · subst hi
      rw [fup_at, dval_fl_congr (g := f) (fun p hp => fup_ne (by omega))]
      omega
    · rw [fup_ne (by omega)]
      have := ih (by omega)
      omega
theorem dval_fl_zero {f : Nat → Nat} {n : Nat} (h : ∀ p, p < n → f p = 0) : dval (fl f n) = 0 := by
  induction n with
  | zero => rfl
  | succ n ih => rw [dval_fl_succ, ih (fun p hp => h p (by omega)), h n (by omega), Nat.zero_mul]
theorem dval_fl_shift {f g : Nat → Nat} {n : Nat} (h : ∀ p, p < n → g (p + 1) = f p) : dval (fl g (n + 1)) = g 0 + 65536 * dval (fl f n) := by
  induction n with
  | zero => simp [fl, dval]
  | succ n ih =>
    rw [dval_fl_succ, ih (fun p hp => h p (by omega)), dval_fl_succ f, h n (by omega), Nat.mul_add, Nat.pow_succ, Nat.add_assoc]
    congr 2
    rw [Nat.mul_comm (65536 ^ n), ← Nat.mul_assoc, ← Nat.mul_assoc, Nat.mul_comm 65536]
theorem u32s_fl (n : Nat) : List.replicate n (Value.int .u32 0) = u32s (fl (fun _ => 0) n) := by
  rw [u32s_rep]; congr 1; simp [fl, List.map_const']
theorem u32s_fl_get (f : Nat → Nat) {n i : Nat} (h : i < n) : (u32s (fl f n))[i]? = some (.int .u32 (f i : Int)) := u32s_get (fl_get f h)
theorem u32s_fl_set (f : Nat → Nat) (n i d : Nat) : (u32s (fl f n)).set i (.int .u32 (d : Int)) = u32s (fl (fup f i d) n) := by rw [u32s_set, fl_set]
theorem u32s_fl_length (f : Nat → Nat) (n : Nat) : (u32s (fl f n)).length = n := by rw [u32s_length, fl_length]
theorem fl_lenp (f g : Nat → Nat) (n : Nat) : (u32s (fl f n)).length = (u32s (fl g n)).length := by rw [u32s_fl_length, u32s_fl_length]
theorem fl_capp (f g : Nat → Nat) (n : Nat) : (u32s (fl f n) ++ []).length = (u32s (fl g n) ++ []).length := by rw [List.append_nil, List.append_nil, fl_lenp]
theorem rd_fl {w : World} {v : Value} {f : Nat → Nat} {n m : Nat} (hm : m ≤ n) (h : Rd w v (((u32s (fl f n)).drop 0).take (m - 0))) : Rd w v (u32s (fl f m)) := by
  rw [List.drop_zero, Nat.sub_zero, u32s_take, fl_take f hm] at h; exact h

/-! ### Mul -/
theorem mul_in {A B i k c n : Nat} {f g : Nat → Nat} (hik : i + k < n) (hv : dval (fl g n) + c * 65536 ^ (i + k) = dval (fl f n) + dg A i * (B % 65536 ^ k) * 65536 ^ i) :
    dval (fl (fup g (i + k) ((c + (g (i + k) + dg A i * dg B k)) % 65536)) n) + (c + (g (i + k) + dg A i * dg B k)) / 65536 * 65536 ^ (i + (k + 1)) = dval (fl f n) + dg A i * (B % 65536 ^ (k + 1)) * 65536 ^ i := by
  have h1 := dval_fl_up (f := g) (d := (c + (g (i + k) + dg A i * dg B k)) % 65536) hik
  have h2 := Nat.div_add_mod (c + (g (i + k) + dg A i * dg B k)) 65536
  rw [mod_succ, Nat.mul_add, Nat.add_mul, show i + (k + 1) = i + k + 1 by omega, Nat.pow_succ (n := 65536) (m := i + k)]
  have h3 : dg A i * (dg B k * 65536 ^ k) * 65536 ^ i = dg A i * dg B k * 65536 ^ (i + k) := by
    rw [Nat.pow_add, ← Nat.mul_assoc, Nat.mul_assoc (dg A i * dg B k), Nat.mul_comm (65536 ^ k)]
  rw [h3]
  generalize hx : (c + (g (i + k) + dg A i * dg B k)) % 65536 = x at *
  generalize hy : (c + (g (i + k) + dg A i * dg B k)) / 65536 = y at *
  generalize dg A i * dg B k = t at *
  generalize 65536 ^ (i + k) = W at *
  have h4 : 65536 * y * W + x * W = c * W + (g (i + k) * W + t * W) := by rw [← Nat.add_mul, h2, Nat.add_mul, Nat.add_mul]
  have h5 : y * (W * 65536) = 65536 * y * W := by rw [Nat.mul_comm W, ← Nat.mul_assoc, Nat.mul_comm y]
  omega
theorem mul_out {A B i c n : Nat} {f g : Nat → Nat} (hn : i + (digs B).length < n) (hg : g (i + (digs B).length) = 0) (hf : dval (fl f n) = A % 65536 ^ i * B)
    (hv : dval (fl g n) + c * 65536 ^ (i + (digs B).length) = dval (fl f n) + dg A i * (B % 65536 ^ (digs B).length) * 65536 ^ i) :
    dval (fl (fup g (i + (digs B).length) c) n) = A % 65536 ^ (i + 1) * B := by
  have h1 := dval_fl_up (f := g) (d := c) hn
  rw [hg, Nat.zero_mul, Nat.add_zero] at h1
  rw [h1, hv, hf, mod_len (Nat.le_refl _), mod_succ, Nat.add_mul, Nat.mul_assoc (dg A i), Nat.mul_assoc (dg A i), Nat.mul_comm B]
theorem mul_bound {c g a b : Nat} (hc : c < 65536) (hg : g < 65536) (ha : a < 65536) (hb : b < 65536) : a * b ≤ 4294836225 ∧ g + a * b < 18446744073709551616 ∧ c + (g + a * b) < 18446744073709551616 ∧ (c + (g + a * b)) / 65536 < 65536 := by
  have : a * b ≤ 65535 * 65535 := Nat.mul_le_mul (by omega) (by omega)
  omega
theorem and16w {n : Nat} (hn : n < 18446744073709551616) : bits .and .u64 (n : Int) 65535 = ((n % 65536 : Nat) : Int) := maskN (k := .u64) rfl 16 hn (by decide)
theorem shr16w {n : Nat} : (n : Int).fdiv (2 ^ (min ((16 : Int).toNat) IntKind.u64.bits)) = ((n / 65536 : Nat) : Int) := shrN (b := 16) (by decide)
theorem u64mul {a b : Nat} (h : a * b < 18446744073709551616) : IntKind.u64.wrap ((a : Int) * (b : Int)) = ((a * b : Nat) : Int) := by rw [← Int.natCast_mul]; exact wrapS rfl h
theorem to64 {d : Nat} (h : d < 65536) : IntKind.u64.wrap (d : Int) = ((d : Nat) : Int) := wrapS rfl (Nat.lt_trans h (by decide))
theorem to32 {d : Nat} (h : d < 65536) : IntKind.u32.wrap (d : Int) = ((d : Nat) : Int) := wrapS rfl (Nat.lt_trans h (by decide))
theorem odd_fin {A : Nat} (h : 0 < (digs A).length) : (((dg A 0 % 2 : Nat) : Int) == 1) = decide (A % 2 = 1) := by rw [Bool.eq_iff_iff]; simp only [beq_iff_eq, decide_eq_true_eq]; exact odd_some h
theorem odd_fin0 {A : Nat} (h : ¬ 0 < (digs A).length) : false = decide (A % 2 = 1) := by rw [odd_none h]; rfl
theorem len_add {a b k : Nat} (ha : (digs a).length ≤ k) (hb : (digs b).length ≤ k) : (digs (a + b)).length ≤ k + 1 := by
  refine digs_len_le ?_
  have h1 := Nat.lt_of_lt_of_le (digs_lt a) (Nat.pow_le_pow_right (by decide) ha)
  have h2 := Nat.lt_of_lt_of_le (digs_lt b) (Nat.pow_le_pow_right (by decide) hb)
  rw [Nat.pow_succ]; omega
theorem lenAdd {a b : Nat} (ha : (digs a).length < 549755813888) (hb : (digs b).length < 549755813888) : (digs (a + b)).length < 1099511627776 :=
  Nat.lt_of_le_of_lt (len_add (k := 549755813888) (by omega) (by omega)) (by decide)
theorem lenAdd2 {a b : Nat} (ha : (digs a).length < 274877906944) (hb : (digs b).length < 274877906944) : (digs (a + b)).length < 549755813888 :=
  Nat.lt_of_le_of_lt (len_add (k := 274877906944) (by omega) (by omega)) (by decide)
end
section
open Go Go.RowKit

theorem tconv {x : Int} {t : Nat} (h : x = t) (ht : t < 65536) : IntKind.u64.wrap x = (t : Int) := by rw [h]; exact to64 ht
theorem tm_bound {t m : Nat} (ht : t < 65536) (hm : m < 65536) : t * m ≤ 4294836225 := by
  have : t * m ≤ 65535 * 65535 := Nat.mul_le_mul (by omega) (by omega)
  omega
theorem lt_16 {M : Nat} (hM : (digs M).length = 16) : M < 65536 ^ 16 := by have := digs_lt M; rwa [hM] at this
theorem left_step {f g : Nat → Nat} {q t c M : Nat} (hc : c ≤ 131072) (hm : t * dg M q ≤ 4294836225) (hgq : g q < 65536) (he : g q = f q) (hv : dval (fl g q) + t * (M % 65536 ^ q) = dval (fl f q) + c * 65536 ^ q) :
    dval (fl (fup g q ((g q + 1099511627776 - (c + t * dg M q)) % 65536)) (q + 1)) + t * (M % 65536 ^ (q + 1)) = dval (fl f (q + 1)) + (16777216 - (g q + 1099511627776 - (c + t * dg M q)) / 65536) * 65536 ^ (q + 1) := by
  rw [dval_fl_succ, dval_fl_succ, fup_at, dval_fl_congr (g := g) (fun p hp => fup_ne (by omega)), mod_succ, Nat.mul_add, Nat.pow_succ, ← he]
  have hX : g q + 1099511627776 - (c + t * dg M q) + (c + t * dg M q) = g q + 1099511627776 := by omega
  generalize g q + 1099511627776 - (c + t * dg M q) = X at *
  have h1 : c + X % 65536 + t * dg M q = g q + 65536 * (16777216 - X / 65536) := by omega
  generalize 16777216 - X / 65536 = y at *
  generalize X % 65536 = d at *
  have h2 : t * (dg M q * 65536 ^ q) = t * dg M q * 65536 ^ q := by rw [Nat.mul_assoc]
  rw [h2]
  generalize t * dg M q = tm at *
  generalize 65536 ^ q = W at *
  have h3 : c * W + d * W + tm * W = g q * W + y * (W * 65536) := by
    rw [← Nat.add_mul, ← Nat.add_mul, h1, Nat.add_mul, Nat.mul_comm W, ← Nat.mul_assoc, Nat.mul_comm y]
  omega
theorem left_end {f g : Nat → Nat} {q t c M : Nat} (hq : q = 17) (hM : (digs M).length = 16) (hg : ∀ p, g p < 65536) (ht : t * M ≤ dval (fl f 17)) (hv : dval (fl g q) + t * (M % 65536 ^ q) = dval (fl f q) + c * 65536 ^ q) : dval (fl g 17) + t * M = dval (fl f 17) := by
  subst hq
  rw [mod_len (by omega)] at hv
  have h1 := dval_fl_lt hg 17
  revert h1 hv
  generalize 65536 ^ 17 = W
  intro h1 hv
  rcases Nat.eq_zero_or_pos c with rfl | hc
  · omega
  · have : 1 * W ≤ c * W := Nat.mul_le_mul_right _ hc
    omega
theorem left_t1 {f : Nat → Nat} {M : Nat} (h : 0 < f 16 ∨ M ≤ dval (fl f 16)) (h0 : f 16 = 0) : 1 * M ≤ dval (fl f 17) := by
  rw [dval_fl_succ, h0, Nat.zero_mul, Nat.add_zero, Nat.one_mul]; rcases h with h | h
  · omega
  · exact h
theorem left_t2 {f : Nat → Nat} {M : Nat} (hM : (digs M).length = 16) : f 16 * M ≤ dval (fl f 17) := by
  rw [dval_fl_succ]
  exact Nat.le_trans (Nat.mul_le_mul_left (f 16) (Nat.le_of_lt (lt_16 hM))) (Nat.le_add_left _ _)
theorem left_shift {f g : Nat → Nat} {A k M : Nat} (hk : 0 < k) (hM : (digs M).length = 16) (hMp : 0 < M) (hs : ∀ p, 0 < p → p < 17 → g p = f (p - 1)) (hv : dval (fl f 17) = A / 65536 ^ k % M) : dval (fl (fup g 0 (dg A (k - 1))) 17) % M = A / 65536 ^ (k - 1) % M := by
  have h1 := dval_fl_shift (f := f) (g := fup g 0 (dg A (k - 1))) (n := 16) (fun p hp => by rw [fup_ne (by omega), hs (p + 1) (by omega) (by omega)]; rfl)
  have h2 := lt_16 hM
  have h3 : A / 65536 ^ k % M < M := Nat.mod_lt _ hMp
  have h4 : dval (fl f 16) = A / 65536 ^ k % M := by
    rw [dval_fl_succ] at hv
    revert h2 hv
    generalize 65536 ^ 16 = W
    intro hv h2
    rcases Nat.eq_zero_or_pos (f 16) with h | h
    · rw [h] at hv; omega
    · have : 1 * W ≤ f 16 * W := Nat.mul_le_mul_right _ h
      omega
  rw [h1, fup_at, h4, dg]
  have e1 : A / 65536 ^ k = A / 65536 ^ (k - 1) / 65536 := by
    conv => lhs; rw [show k = k - 1 + 1 by omega]
    rw [Nat.pow_succ, Nat.div_div_eq_div_mul]
  rw [e1, Nat.add_mod, Nat.mul_mod, Nat.mod_mod, ← Nat.mul_mod, ← Nat.add_mod, Nat.mod_add_div]
theorem left_mod {a b t M : Nat} (h : a + t * M = b) : a % M = b % M := by rw [← h, Nat.add_mul_mod_self_right]
theorem left_lt {a b t M : Nat} (h : a + t * M = b) (ht : 0 < t) (hM : 0 < M) : a < b := by have := Nat.mul_pos ht hM; omega
theorem left_out {f : Nat → Nat} {M X : Nat} (h0 : f 16 = 0) (hl : dval (fl f 16) < M) (hv : dval (fl f 17) % M = X) : dval (fl f 17) = X := by
  rw [← hv]; exact (Nat.mod_eq_of_lt (by rw [dval_fl_succ, h0, Nat.zero_mul, Nat.add_zero]; exact hl)).symm
theorem len_modN (m : Int) : (digs (modN m)).length = 16 := by
  by_cases h : m = 0
  · rw [digs_modP h]; rfl
  · rw [digs_modN h]; rfl
theorem len_lt {A k : Nat} (h : A < 65536 ^ k) (hk : k ≤ 1000) : (digs A).length ≤ 1000 := Nat.le_trans (digs_len_le h) hk
theorem len_mulB {a b : Nat} (ha : (digs a).length < 1000) (hb : (digs b).length < 1000) : (digs (a * b)).length < 1099511627776 := by
  refine Nat.lt_of_le_of_lt (digs_len_le (k := (digs a).length + (digs b).length) ?_) (by omega)
  rw [Nat.pow_add]
  exact Nat.mul_lt_mul'' (digs_lt a) (digs_lt b)
end
section
open Go Go.RowKit

theorem quoI {k d : Nat} (hk : 0 < k) (hd : 0 < d) (h : k < 4611686018427387904) : IntKind.i64.wrap (((k : Int) - 1).tdiv (d : Int)) = (((k - 1) / d : Nat) : Int) := by
  rw [show (k : Int) - 1 = ((k - 1 : Nat) : Int) by omega, ← Int.ofNat_tdiv]
  have : (k - 1) / d ≤ k - 1 := Nat.div_le_self _ _
  generalize (k - 1) / d = q at *
  exact wr64 (by omega) (by omega)
theorem remI {k d : Nat} (hk : 0 < k) : ((k : Int) - 1).tmod (d : Int) = (((k - 1) % d : Nat) : Int) := by
  rw [show (k : Int) - 1 = ((k - 1 : Nat) : Int) by omega, ← Int.ofNat_tmod]
theorem bit_t {n : Nat} (h : ((n : Int) == 1) = true) : n = 1 := by have := eq_of_beq h; omega
theorem bit_f {n : Nat} (h : ((n : Int) == 1) = false) : n ≠ 1 := fun e => by subst e; cases h
theorem bit_dg (E i : Nat) : dg E (i / 16) / 2 ^ (i % 16) % 2 = E / 2 ^ i % 2 := by
  unfold dg
  have e : (2 : Nat) ^ i = 65536 ^ (i / 16) * 2 ^ (i % 16) := by
    rw [show (65536 : Nat) = 2 ^ 16 from rfl, ← Nat.pow_mul, ← Nat.pow_add]
    congr 1; omega
  rw [e, ← Nat.div_div_eq_div_mul]
  generalize E / 65536 ^ (i / 16) = X
  have h : i % 16 < 16 := Nat.mod_lt _ (by decide)
  generalize i % 16 = r at h
  have e3 : (65536 : Nat) = 2 ^ r * 2 ^ (16 - r) := by rw [← Nat.pow_add, show r + (16 - r) = 16 by omega]
  rw [e3, Nat.mod_mul_right_div_self, show (2 : Nat) ^ (16 - r) = 2 * 2 ^ (15 - r) by rw [← Nat.pow_succ']; congr 1; omega, Nat.mod_mul_right_mod]
theorem bit_and (E i : Nat) : bits .and .u32 ((dg E (i / 16) / 2 ^ (i % 16) : Nat) : Int) 1 = ((E / 2 ^ i % 2 : Nat) : Int) := by
  rw [and1 (Nat.lt_of_le_of_lt (Nat.div_le_self _ _) (Nat.lt_trans (dg_lt _ _) (by decide))), bit_dg]
theorem pow_step (E k : Nat) (hk : 0 < k) : E / 2 ^ (k - 1) = E / 2 ^ k * 2 + E / 2 ^ (k - 1) % 2 := by
  have e1 : E / 2 ^ k = E / 2 ^ (k - 1) / 2 := by
    conv => lhs; rw [show k = k - 1 + 1 by omega]
    rw [Nat.pow_succ, Nat.div_div_eq_div_mul]
  rw [e1]; omega
theorem pow_b0 {A E k p : Nat} (hk : 0 < k) (hb : E / 2 ^ (k - 1) % 2 ≠ 1) : A ^ (E / 2 ^ k) % p * (A ^ (E / 2 ^ k) % p) % p = A ^ (E / 2 ^ (k - 1)) % p := by
  rw [← Nat.mul_mod, ← Nat.pow_add]
  congr 2
  have := pow_step E k hk
  have : E / 2 ^ (k - 1) % 2 = 0 := by omega
  omega
theorem pow_b1 {A E k p : Nat} (hk : 0 < k) (hb : E / 2 ^ (k - 1) % 2 = 1) : A ^ (E / 2 ^ k) % p * (A ^ (E / 2 ^ k) % p) % p * A % p = A ^ (E / 2 ^ (k - 1)) % p := by
  rw [← Nat.mul_mod, ← Nat.pow_add, Nat.mul_mod, Nat.mod_mod, ← Nat.mul_mod, ← Nat.pow_succ]
  congr 2
  have := pow_step E k hk
  omega
theorem one_lt_modN (m : Int) : 1 < modN m := by rcases modN_cases m with h | h <;> rw [h] <;> decide
theorem pow_init (A E : Nat) (m : Int) : A ^ (E / 2 ^ (16 * (digs E).length)) % modN m = 1 := by
  have h1 := digs_lt E
  rw [show (65536 : Nat) = 2 ^ 16 from rfl, ← Nat.pow_mul] at h1
  rw [Nat.div_eq_of_lt h1, Nat.pow_zero, Nat.mod_eq_of_lt (one_lt_modN m)]
theorem len_mod (X : Nat) (m : Int) : (digs (X % modN m)).length < 1000 := by
  have h1 := digs_mono (Nat.le_of_lt (Nat.mod_lt X (mod_modN m).pos))
  have := len_modN m
  omega
end
end Go.Proofs.Ytmbcolbbekbccaa
