/- What walks compute: plain functions with values in Option, and how Go's values stand for Lean's. Conditions: as each theorem says. -/
import Derived.Test.YtdomaggikbmooaaDoorHs
namespace Go.Proofs.YtdomaggikbmooaaDoor
open Go Go.RowKit

/-! ### Words of which functions are made -/
section
variable {α β γ σ : Type}
theorem bnd {o : Option α} {f : α → Option β} {r : β} (h : o.bind f = some r) : ∃ x, o = some x ∧ f x = some r := by
  cases o with
  | none => cases h
  | some x => exact ⟨x, rfl, h⟩
theorem cnd_t {c : Bool} {a b r : α} (h : (bif c then a else b) = r) (hc : c = true) : a = r := by subst hc; exact h
theorem cnd_f {c : Bool} {a b r : α} (h : (bif c then a else b) = r) (hc : c = false) : b = r := by subst hc; exact h
def jnO (o : α ⊕ β) (f : α → Option γ) (g : β → Option γ) : Option γ := match o with
  | .inl a => f a
  | .inr b => g b
def jn (o : Option (α ⊕ β)) (f : α → Option γ) (g : β → Option γ) : Option γ := o.bind fun o => jnO o f g
theorem jn_some {o : Option (α ⊕ β)} {f : α → Option γ} {g : β → Option γ} {r : γ} (h : jn o f g = some r) : ∃ x, o = some x ∧ jnO x f g = some r := bnd h
theorem jnO_l {a : α} {x : α ⊕ β} {f : α → Option γ} {g : β → Option γ} {r : Option γ} (h : jnO x f g = r) (hx : x = .inl a) : f a = r := by subst hx; exact h
theorem jnO_r {b : β} {x : α ⊕ β} {f : α → Option γ} {g : β → Option γ} {r : Option γ} (h : jnO x f g = r) (hx : x = .inr b) : g b = r := by subst hx; exact h
/-- At most n rounds. -/
def iterN (body : σ → Option (σ ⊕ β)) : Nat → σ → Option β
  | 0, _ => none
  | k + 1, s => jn (body s) (iterN body k) some
/-- More rounds than any memory bears. -/
def FU : Nat := 1099511627776
def iter (body : σ → Option (σ ⊕ β)) (s : σ) : Option β := iterN body FU s
theorem iterN_step {body : σ → Option (σ ⊕ β)} {k : Nat} {s s' : σ} (h : body s = some (.inl s')) : iterN body (k + 1) s = iterN body k s' := by
  simp only [iterN, jn, h, Option.bind_some, jnO]
theorem iterN_end {body : σ → Option (σ ⊕ β)} {k : Nat} {s : σ} {b : β} (h : body s = some (.inr b)) : iterN body (k + 1) s = some b := by
  simp only [iterN, jn, h, Option.bind_some, jnO]
/-- How a loop is reckoned: an invariant, a measure that falls. -/
theorem iterN_ind {body : σ → Option (σ ⊕ β)} (I : σ → Prop) (m : σ → Nat) (G : β → Prop) (hr : ∀ s, I s → (∃ s', body s = some (.inl s') ∧ I s' ∧ m s' < m s) ∨ ∃ b, body s = some (.inr b) ∧ G b) :
    ∀ (k : Nat) (s : σ), I s → m s < k → ∃ b, iterN body k s = some b ∧ G b
  | 0, _, _, h => by omega
  | k + 1, s, hI, hk => by
    rcases hr s hI with ⟨s', h1, h2, h3⟩ | ⟨b, h1, h2⟩
    · rw [iterN_step h1]; exact iterN_ind I m G hr k s' h2 (by omega)
    · exact ⟨b, iterN_end h1, h2⟩
theorem iter_ind {body : σ → Option (σ ⊕ β)} (I : σ → Prop) (m : σ → Nat) (G : β → Prop) (s : σ) (h0 : I s) (hm : m s < 1099511627776) (hr : ∀ s, I s → (∃ s', body s = some (.inl s') ∧ I s' ∧ m s' < m s) ∨ ∃ b, body s = some (.inr b) ∧ G b) :
    ∃ b, iter body s = some b ∧ G b := iterN_ind I m G hr FU s h0 hm
theorem iter_eq {body : σ → Option (σ ⊕ β)} (I : σ → Prop) (m : σ → Nat) (b : β) (s : σ) (h0 : I s) (hm : m s < 1099511627776) (hr : ∀ s, I s → (∃ s', body s = some (.inl s') ∧ I s' ∧ m s' < m s) ∨ body s = some (.inr b)) :
    iter body s = some b := by
  obtain ⟨b', h1, h2⟩ := iter_ind (body := body) I m (fun x => x = b) s h0 hm fun s hs => (hr s hs).imp id fun h => ⟨b, h, rfl⟩
  rw [h1, h2]
def idx (l : List α) (i : Int) : Option α := bif decide (i < 0) then none else l[i.toNat]?
theorem idx_some {l : List α} {i : Int} {x : α} (h : idx l i = some x) : i = (i.toNat : Int) ∧ l[i.toNat]? = some x := by
  unfold idx at h
  by_cases hi : i < 0
  · simp [hi] at h
  · simp only [hi, decide_false, cond_false] at h; exact ⟨by omega, h⟩
theorem idx_nat {l : List α} (i : Nat) : idx l (i : Int) = l[i]? := by
  have h : ¬ ((i : Int) < 0) := by omega
  simp only [idx, h, decide_false, cond_false, Int.toNat_natCast]
theorem idx_lt {l : List α} {i : Int} {x : α} (h : idx l i = some x) : i.toNat < l.length := (List.getElem?_eq_some_iff.1 (idx_some h).2).1
/-- l[lo:hi] -/
def sub3 (l : List α) (lo hi : Int) : Option (List α) := bif decide (0 ≤ lo) && decide (lo ≤ hi) && decide (hi ≤ (l.length : Int)) then some ((l.take hi.toNat).drop lo.toNat) else none
theorem sub3_some {l r : List α} {lo hi : Int} (h : sub3 l lo hi = some r) : lo = (lo.toNat : Int) ∧ hi = (hi.toNat : Int) ∧ lo.toNat ≤ hi.toNat ∧ hi.toNat ≤ l.length ∧ (l.take hi.toNat).drop lo.toNat = r := by
  unfold sub3 at h
  by_cases hc : decide (0 ≤ lo) && decide (lo ≤ hi) && decide (hi ≤ (l.length : Int))
  · rw [hc] at h
    simp only [Bool.and_eq_true, decide_eq_true_eq] at hc
    simp only [cond_true, Option.some.injEq] at h
    exact ⟨by omega, by omega, by omega, by omega, h⟩
  · simp only [Bool.not_eq_true] at hc; rw [hc] at h; cases h
/-- l[lo:] and l[:hi] -/
def subL (l : List α) (lo : Int) : Option (List α) := bif decide (0 ≤ lo) && decide (lo ≤ (l.length : Int)) then some (l.drop lo.toNat) else none
theorem subL_some {l r : List α} {lo : Int} (h : subL l lo = some r) : lo = (lo.toNat : Int) ∧ lo.toNat ≤ l.length ∧ l.drop lo.toNat = r := by
  unfold subL at h
  by_cases hc : decide (0 ≤ lo) && decide (lo ≤ (l.length : Int))
  · rw [hc] at h
    simp only [Bool.and_eq_true, decide_eq_true_eq] at hc
    simp only [cond_true, Option.some.injEq] at h
    exact ⟨by omega, by omega, h⟩
  · simp only [Bool.not_eq_true] at hc; rw [hc] at h; cases h
def subH (l : List α) (hi : Int) : Option (List α) := bif decide (0 ≤ hi) && decide (hi ≤ (l.length : Int)) then some (l.take hi.toNat) else none
theorem subH_some {l r : List α} {hi : Int} (h : subH l hi = some r) : hi = (hi.toNat : Int) ∧ hi.toNat ≤ l.length ∧ l.take hi.toNat = r := by
  unfold subH at h
  by_cases hc : decide (0 ≤ hi) && decide (hi ≤ (l.length : Int))
  · rw [hc] at h
    simp only [Bool.and_eq_true, decide_eq_true_eq] at hc
    simp only [cond_true, Option.some.injEq] at h
    exact ⟨by omega, by omega, h⟩
  · simp only [Bool.not_eq_true] at hc; rw [hc] at h; cases h
theorem subL_ok {l : List α} {n : Nat} (h : n ≤ l.length) : subL l (n : Int) = some (l.drop n) := by
  unfold subL
  rw [show (decide (0 ≤ (n : Int)) && decide ((n : Int) ≤ (l.length : Int))) = true by simp; omega]; rfl
theorem subH_ok {l : List α} {n : Nat} (h : n ≤ l.length) : subH l (n : Int) = some (l.take n) := by
  unfold subH
  rw [show (decide (0 ≤ (n : Int)) && decide ((n : Int) ≤ (l.length : Int))) = true by simp; omega]; rfl
theorem sub3_ok {l : List α} {n m : Nat} (h : n ≤ m) (h2 : m ≤ l.length) : sub3 l (n : Int) (m : Int) = some ((l.take m).drop n) := by
  unfold sub3
  rw [show (decide (0 ≤ (n : Int)) && decide ((n : Int) ≤ (m : Int)) && decide ((m : Int) ≤ (l.length : Int))) = true by simp; omega]; rfl
theorem setL_len {l r : List α} {i : Int} {x : α} (h : (bif decide (0 ≤ i) && decide (i < (l.length : Int)) then some (l.set i.toNat x) else none) = some r) : r.length = l.length := by
  cases hc : (decide (0 ≤ i) && decide (i < (l.length : Int))) with
  | true => rw [hc] at h; simp only [cond_true, Option.some.injEq] at h; rw [← h, List.length_set]
  | false => rw [hc] at h; cases h
def LIM : Nat := 68719476736
/-- append, and the sum of strings: none where it passes all bounds -/
def app (a b : List α) : Option (List α) := bif decide (a.length + b.length ≤ LIM) then some (a ++ b) else none
theorem app_some {a b r : List α} (h : app a b = some r) : a.length + b.length ≤ 68719476736 ∧ a ++ b = r := by
  unfold app at h
  by_cases hc : a.length + b.length ≤ LIM
  · simp only [hc, decide_true, cond_true, Option.some.injEq] at h; exact ⟨hc, h⟩
  · simp only [hc, decide_false, cond_false] at h; cases h
theorem app_ok {a b : List α} (h : a.length + b.length ≤ 68719476736) : app a b = some (a ++ b) := by
  have h' : a.length + b.length ≤ LIM := h
  simp only [app, h', decide_true, cond_true]
def mkL (n : Int) (z : α) : Option (List α) := bif decide (0 ≤ n) && decide (n ≤ (LIM : Int)) then some (List.replicate n.toNat z) else none
theorem mkL_some {n : Int} {z : α} {r : List α} (h : mkL n z = some r) : 0 ≤ n ∧ n ≤ 68719476736 ∧ List.replicate n.toNat z = r := by
  unfold mkL at h
  by_cases hc : decide (0 ≤ n) && decide (n ≤ (LIM : Int))
  · rw [hc] at h
    simp only [Bool.and_eq_true, decide_eq_true_eq] at hc
    simp only [cond_true, Option.some.injEq] at h
    exact ⟨hc.1, hc.2, h⟩
  · simp only [Bool.not_eq_true] at hc; rw [hc] at h; cases h
def setL (l : List α) (i : Int) (x : α) : Option (List α) := bif decide (0 ≤ i) && decide (i < (l.length : Int)) then some (l.set i.toNat x) else none
theorem setL_some {l r : List α} {i : Int} {x : α} (h : setL l i x = some r) : i = (i.toNat : Int) ∧ i.toNat < l.length ∧ l.set i.toNat x = r := by
  unfold setL at h
  by_cases hc : decide (0 ≤ i) && decide (i < (l.length : Int))
  · rw [hc] at h
    simp only [Bool.and_eq_true, decide_eq_true_eq] at hc
    simp only [cond_true, Option.some.injEq] at h
    exact ⟨by omega, by omega, h⟩
  · simp only [Bool.not_eq_true] at hc; rw [hc] at h; cases h
/-- A check ahead of what follows. -/
def chk (c : Bool) : Option Unit := bif c then some () else none
theorem chk_some {c : Bool} {u : Unit} (h : chk c = some u) : c = true := by cases c with
  | true => rfl
  | false => cases h
end

/-! ### Whole numbers of fixed width -/
abbrev w64 (x : Int) : Int := IntKind.i64.wrap x
def i8 (x : Int) : UInt8 := UInt8.ofNat (x % 256).toNat
def i16 (x : Int) : UInt16 := UInt16.ofNat (x % 65536).toNat
def i32 (x : Int) : UInt32 := UInt32.ofNat (x % 4294967296).toNat
def i64 (x : Int) : UInt64 := UInt64.ofNat (x % 18446744073709551616).toNat
theorem i8_wrap (x : Int) : IntKind.u8.wrap x = ((i8 x).toNat : Int) := by
  have e : IntKind.u8.wrap x = x % 256 := by simp [IntKind.wrap, IntKind.signed, IntKind.bits]
  rw [e]; simp [i8]; omega
theorem i16_wrap (x : Int) : IntKind.u16.wrap x = ((i16 x).toNat : Int) := by
  have e : IntKind.u16.wrap x = x % 65536 := by simp [IntKind.wrap, IntKind.signed, IntKind.bits]
  rw [e]; simp [i16]; omega
theorem i32_wrap (x : Int) : IntKind.u32.wrap x = ((i32 x).toNat : Int) := by
  have e : IntKind.u32.wrap x = x % 4294967296 := by simp [IntKind.wrap, IntKind.signed, IntKind.bits]
  rw [e]; simp [i32]; omega
theorem i64_wrap (x : Int) : IntKind.u64.wrap x = ((i64 x).toNat : Int) := by
  have e : IntKind.u64.wrap x = x % 18446744073709551616 := by simp [IntKind.wrap, IntKind.signed, IntKind.bits]
  rw [e]; simp [i64]; omega
theorem i8_of {x : Int} (h : 0 ≤ x) (h2 : x < 256) : ((i8 x).toNat : Int) = x := by simp [i8]; omega
theorem i16_of {x : Int} (h : 0 ≤ x) (h2 : x < 65536) : ((i16 x).toNat : Int) = x := by simp [i16]; omega
theorem i32_of {x : Int} (h : 0 ≤ x) (h2 : x < 4294967296) : ((i32 x).toNat : Int) = x := by simp [i32]; omega
theorem i64_of {x : Int} (h : 0 ≤ x) (h2 : x < 18446744073709551616) : ((i64 x).toNat : Int) = x := by simp [i64]; omega
theorem i8_nat (b : UInt8) : i8 (b.toNat : Int) = b := by
  apply UInt8.toNat.inj; have := i8_of (x := (b.toNat : Int)) (by omega) (by have := b.toNat_lt; omega); omega
theorem i8_same (b : UInt8) : IntKind.u8.wrap (b.toNat : Int) = (b.toNat : Int) := by rw [i8_wrap, i8_nat]
theorem i8_rem (a : UInt8) (b : Int) (h : 0 ≤ b) : Int.tmod (a.toNat : Int) b = ((i8 (Int.tmod (a.toNat : Int) b)).toNat : Int) := by
  have h1 := a.toNat_lt
  have h2 : 0 ≤ Int.tmod (a.toNat : Int) b := Int.tmod_nonneg _ (by omega)
  have h3 : Int.tmod (a.toNat : Int) b ≤ (a.toNat : Int) := by
    obtain ⟨n, rfl⟩ := Int.eq_ofNat_of_zero_le h
    rw [← Int.ofNat_tmod]; have := Nat.mod_le a.toNat n; omega
  rw [i8_of h2 (by omega)]
theorem i8_and (a b : UInt8) : bits .and .u8 (a.toNat : Int) (b.toNat : Int) = ((a &&& b).toNat : Int) := andN rfl a.toNat_lt b.toNat_lt
theorem i8_or (a b : UInt8) : bits .or .u8 (a.toNat : Int) (b.toNat : Int) = ((a ||| b).toNat : Int) := orN rfl a.toNat_lt b.toNat_lt
theorem i8_xor (a b : UInt8) : bits .xor .u8 (a.toNat : Int) (b.toNat : Int) = ((a ^^^ b).toNat : Int) := xorN rfl a.toNat_lt b.toNat_lt
theorem i32_and (a b : UInt32) : bits .and .u32 (a.toNat : Int) (b.toNat : Int) = ((a &&& b).toNat : Int) := andN rfl a.toNat_lt b.toNat_lt
theorem i32_or (a b : UInt32) : bits .or .u32 (a.toNat : Int) (b.toNat : Int) = ((a ||| b).toNat : Int) := orN rfl a.toNat_lt b.toNat_lt
theorem i32_xor (a b : UInt32) : bits .xor .u32 (a.toNat : Int) (b.toNat : Int) = ((a ^^^ b).toNat : Int) := xorN rfl a.toNat_lt b.toNat_lt
theorem i64_and (a b : UInt64) : bits .and .u64 (a.toNat : Int) (b.toNat : Int) = ((a &&& b).toNat : Int) := andN rfl a.toNat_lt b.toNat_lt
theorem i64_or (a b : UInt64) : bits .or .u64 (a.toNat : Int) (b.toNat : Int) = ((a ||| b).toNat : Int) := orN rfl a.toNat_lt b.toNat_lt
theorem i64_xor (a b : UInt64) : bits .xor .u64 (a.toNat : Int) (b.toNat : Int) = ((a ^^^ b).toNat : Int) := xorN rfl a.toNat_lt b.toNat_lt
theorem w64_u8 (a : UInt8) : w64 (a.toNat : Int) = (a.toNat : Int) := by have := a.toNat_lt; exact wr64 (by omega) (by omega)
theorem w64_u16 (a : UInt16) : w64 (a.toNat : Int) = (a.toNat : Int) := by have := a.toNat_lt; exact wr64 (by omega) (by omega)
theorem w64_u32 (a : UInt32) : w64 (a.toNat : Int) = (a.toNat : Int) := by have := a.toNat_lt; exact wr64 (by omega) (by omega)
def shlI (k : IntKind) (a b : Int) : Int := k.wrap (a * 2 ^ (min b.toNat k.bits))
def shrI (k : IntKind) (a b : Int) : Int := a.fdiv (2 ^ (min b.toNat k.bits))
theorem fdiv_pow {a : Nat} (k : Nat) : (a : Int).fdiv (2 ^ k) = ((a / 2 ^ k : Nat) : Int) := by
  rw [show ((2 : Int) ^ k) = ((2 ^ k : Nat) : Int) by rw [Int.natCast_pow]; rfl]
  exact (Int.ofNat_fdiv a (2 ^ k)).symm
theorem i8_shr (a : UInt8) (b : Int) : Int.fdiv (a.toNat : Int) (2 ^ (min b.toNat IntKind.u8.bits)) = ((i8 (shrI .u8 (a.toNat : Int) b)).toNat : Int) := by
  have h1 := a.toNat_lt
  unfold shrI
  rw [fdiv_pow, i8_of (Int.natCast_nonneg _) (by have := Nat.div_le_self a.toNat (2 ^ (min b.toNat IntKind.u8.bits)); omega)]
theorem i8_shl (a : UInt8) (b : Int) : IntKind.u8.wrap ((a.toNat : Int) * 2 ^ (min b.toNat IntKind.u8.bits)) = ((i8 (shlI .u8 (a.toNat : Int) b)).toNat : Int) := by
  have e : shlI .u8 (a.toNat : Int) b = IntKind.u8.wrap ((a.toNat : Int) * 2 ^ (min b.toNat IntKind.u8.bits)) := rfl
  rw [← e, e, i8_wrap, i8_nat]
theorem i32_shr (a : UInt32) (b : Int) : Int.fdiv (a.toNat : Int) (2 ^ (min b.toNat IntKind.u32.bits)) = ((i32 (shrI .u32 (a.toNat : Int) b)).toNat : Int) := by
  have h1 := a.toNat_lt
  unfold shrI
  rw [fdiv_pow, i32_of (Int.natCast_nonneg _) (by have := Nat.div_le_self a.toNat (2 ^ (min b.toNat IntKind.u32.bits)); omega)]
theorem i64_shr (a : UInt64) (b : Int) : Int.fdiv (a.toNat : Int) (2 ^ (min b.toNat IntKind.u64.bits)) = ((i64 (shrI .u64 (a.toNat : Int) b)).toNat : Int) := by
  have h1 := a.toNat_lt
  unfold shrI
  rw [fdiv_pow, i64_of (Int.natCast_nonneg _) (by have := Nat.div_le_self a.toNat (2 ^ (min b.toNat IntKind.u64.bits)); omega)]
theorem i32_nat (b : UInt32) : i32 (b.toNat : Int) = b := by
  apply UInt32.toNat.inj; have := i32_of (x := (b.toNat : Int)) (by omega) (by have := b.toNat_lt; omega); omega
theorem i64_nat (b : UInt64) : i64 (b.toNat : Int) = b := by
  apply UInt64.toNat.inj; have := i64_of (x := (b.toNat : Int)) (by omega) (by have := b.toNat_lt; omega); omega
theorem i32_shl (a : UInt32) (b : Int) : IntKind.u32.wrap ((a.toNat : Int) * 2 ^ (min b.toNat IntKind.u32.bits)) = ((i32 (shlI .u32 (a.toNat : Int) b)).toNat : Int) := by
  have e : shlI .u32 (a.toNat : Int) b = IntKind.u32.wrap ((a.toNat : Int) * 2 ^ (min b.toNat IntKind.u32.bits)) := rfl
  rw [← e, e, i32_wrap, i32_nat]
theorem i64_shl (a : UInt64) (b : Int) : IntKind.u64.wrap ((a.toNat : Int) * 2 ^ (min b.toNat IntKind.u64.bits)) = ((i64 (shlI .u64 (a.toNat : Int) b)).toNat : Int) := by
  have e : shlI .u64 (a.toNat : Int) b = IntKind.u64.wrap ((a.toNat : Int) * 2 ^ (min b.toNat IntKind.u64.bits)) := rfl
  rw [← e, e, i64_wrap, i64_nat]
theorem not_true {b : Bool} (h : b = true) : (!b) = false := by rw [h]; rfl
theorem not_false {b : Bool} (h : b = false) : (!b) = true := by rw [h]; rfl

/-! ### How values stand for Lean's -/
class Rp (α : Type) where
  sz : Nat
  rep : Mem → List Value → α → Prop
  len : ∀ {S c x}, rep S c x → c.length = sz
  mono : ∀ {S T c x}, rep S c x → Mem.le S T → rep T c x
  one : ∀ {S c x}, rep S c x → ∀ v ∈ c, v.oneCell' = true
def RL {α : Type} [Rp α] (S : Mem) : List Value → List α → Prop
  | cs, [] => cs = []
  | cs, x :: xs => ∃ c d, cs = c ++ d ∧ Rp.rep S c x ∧ RL S d xs
section
variable {α β : Type} [Rp α] [Rp β] {S T : Mem}
theorem RL.mono : ∀ {xs : List α} {cs : List Value}, RL S cs xs → Mem.le S T → RL T cs xs
  | [], _, h, _ => h
  | _ :: _, _, ⟨c, d, e, h1, h2⟩, hl => ⟨c, d, e, Rp.mono h1 hl, RL.mono h2 hl⟩
theorem RL.len : ∀ {xs : List α} {cs : List Value}, RL S cs xs → cs.length = xs.length * Rp.sz α
  | [], _, h => by rw [show _ = [] from h]; simp
  | x :: xs, _, ⟨c, d, e, h1, h2⟩ => by rw [e, List.length_append, Rp.len h1, RL.len h2, List.length_cons, Nat.add_mul]; omega
theorem RL.one : ∀ {xs : List α} {cs : List Value}, RL S cs xs → ∀ v ∈ cs, v.oneCell' = true
  | [], _, h, v, hv => by rw [show _ = [] from h] at hv; cases hv
  | x :: xs, _, ⟨c, d, e, h1, h2⟩, v, hv => by
    rw [e] at hv
    rcases List.mem_append.1 hv with h | h
    · exact Rp.one h1 v h
    · exact RL.one h2 v h
theorem RL.nil : RL S [] ([] : List α) := rfl
theorem RL.cons {c d : List Value} {x : α} {xs : List α} (h1 : Rp.rep S c x) (h2 : RL S d xs) : RL S (c ++ d) (x :: xs) := ⟨c, d, rfl, h1, h2⟩
theorem RL.single {c : List Value} {x : α} (h1 : Rp.rep S c x) : RL S c [x] := ⟨c, [], by simp, h1, rfl⟩
theorem RL.append : ∀ {xs : List α} {cs ds : List Value} {ys : List α}, RL S cs xs → RL S ds ys → RL S (cs ++ ds) (xs ++ ys)
  | [], cs, _, _, h, k => by rw [show cs = [] from h]; exact k
  | x :: xs, _, ds, ys, ⟨c, d, e, h1, h2⟩, k => by rw [e, List.append_assoc]; exact ⟨c, d ++ ds, rfl, h1, RL.append h2 k⟩
theorem RL.get : ∀ {xs : List α} {cs : List Value} {i : Nat} {x : α}, RL S cs xs → xs[i]? = some x → Rp.rep S (piece cs (i * Rp.sz α) (Rp.sz α)) x
  | [], _, _, _, _, h => by simp at h
  | y :: xs, _, 0, x, ⟨c, d, e, h1, h2⟩, h => by
    simp at h; subst h
    rw [e, piece_eq, Nat.zero_mul, List.drop_zero, ← Rp.len h1, List.take_left]; exact h1
  | y :: xs, _, i + 1, x, ⟨c, d, e, h1, h2⟩, h => by
    have ih := RL.get h2 (i := i) (by simpa using h)
    rw [e, piece_eq, Nat.add_mul, Nat.one_mul, Nat.add_comm, ← Rp.len h1, ← List.drop_drop, List.drop_left, Rp.len h1, ← piece_eq]; exact ih
theorem RL.take : ∀ {xs : List α} {cs : List Value} (n : Nat), RL S cs xs → RL S (cs.take (n * Rp.sz α)) (xs.take n)
  | [], cs, n, h => by rw [show cs = [] from h]; simp [RL]
  | x :: xs, _, 0, _ => by simp [RL]
  | x :: xs, _, n + 1, ⟨c, d, e, h1, h2⟩ => by
    refine ⟨c, d.take (n * Rp.sz α), ?_, h1, RL.take n h2⟩
    rw [e, Nat.add_mul, Nat.one_mul, Nat.add_comm, ← Rp.len h1, List.take_length_add_append]
theorem RL.drop : ∀ {xs : List α} {cs : List Value} (n : Nat), RL S cs xs → RL S (cs.drop (n * Rp.sz α)) (xs.drop n)
  | [], cs, n, h => by rw [show cs = [] from h]; simp [RL]
  | x :: xs, cs, 0, h => by simpa using h
  | x :: xs, _, n + 1, ⟨c, d, e, h1, h2⟩ => by
    have ih := RL.drop n h2
    rw [e, Nat.add_mul, Nat.one_mul, Nat.add_comm, ← Rp.len h1, List.drop_length_add_append, Rp.len h1]
    exact ih
theorem RL.sub {xs : List α} {cs : List Value} {lo hi : Nat} (h : RL S cs xs) (h1 : lo ≤ hi) : RL S (piece cs (lo * Rp.sz α) ((hi - lo) * Rp.sz α)) ((xs.take hi).drop lo) := by
  have := RL.drop lo (RL.take hi h)
  rw [List.drop_take] at this
  rw [piece_eq, Nat.sub_mul]
  exact this
theorem RL.set : ∀ {xs : List α} {cs c : List Value} {i : Nat} {x : α}, RL S cs xs → Rp.rep S c x → i < xs.length → RL S (lay cs (i * Rp.sz α) c) (xs.set i x)
  | [], _, _, _, _, _, _, h => by simp at h
  | y :: xs, _, c', 0, x, ⟨c, d, e, h1, h2⟩, hx, _ => by
    refine ⟨c', d, ?_, hx, h2⟩
    have hl : c.length = c'.length := by rw [Rp.len h1, Rp.len hx]
    rw [e, Nat.zero_mul]
    apply List.ext_getElem?
    intro j
    rw [lay_get]
    by_cases hj : j < c'.length
    · rw [if_pos (by simp; omega), List.getElem?_append_left hj]; simp
    · rw [if_neg (by omega), List.getElem?_append_right (by omega), List.getElem?_append_right (by omega), hl]
  | y :: xs, _, c', i + 1, x, ⟨c, d, e, h1, h2⟩, hx, hi => by
    refine ⟨c, lay d (i * Rp.sz α) c', ?_, h1, RL.set h2 hx (by simpa using hi)⟩
    rw [e]
    apply List.ext_getElem?
    intro j
    have hs : (i + 1) * Rp.sz α = c.length + i * Rp.sz α := by rw [Nat.add_mul, Nat.one_mul, Rp.len h1]; omega
    rw [lay_get, hs]
    by_cases hj : j < c.length
    · rw [if_neg (by omega), List.getElem?_append_left hj, List.getElem?_append_left hj]
    · rw [List.getElem?_append_right (by omega), List.getElem?_append_right (by omega), lay_get, List.length_append]
      by_cases hc : i * Rp.sz α ≤ j - c.length ∧ j - c.length < i * Rp.sz α + c'.length ∧ j - c.length < d.length
      · rw [if_pos (by omega), if_pos hc]; congr 1; omega
      · rw [if_neg (by omega), if_neg hc]
theorem RL.replicate {c : List Value} {x : α} (h : Rp.rep S c x) : ∀ n, RL S (List.replicate n c).flatten (List.replicate n x)
  | 0 => rfl
  | n + 1 => ⟨c, _, by simp [List.replicate_succ], h, RL.replicate h n⟩
/-- v reads as xs. -/
def RdS {α : Type} [Rp α] (S : Mem) (v : Value) (xs : List α) : Prop := ∃ cs, SlS S v xs.length (Rp.sz α) cs ∧ RL S cs xs
theorem RdS.mono {v : Value} {xs : List α} (h : RdS S v xs) (hl : Mem.le S T) : RdS T v xs := by
  obtain ⟨cs, h1, h2⟩ := h
  exact ⟨cs, h1.mono hl, h2.mono hl⟩
theorem RdS.nil : RdS S (.slice none 0 0) ([] : List α) := ⟨[], SlS.nil S _, rfl⟩
theorem RdS.sub {v : Value} {xs : List α} (h : RdS S v xs) {lo hi : Nat} (h1 : lo ≤ hi) (h2 : hi ≤ xs.length) : RdS S (subN v (Rp.sz α) lo hi) ((xs.take hi).drop lo) := by
  obtain ⟨cs, k1, k2⟩ := h
  refine ⟨_, ?_, k2.sub h1⟩
  have hl : ((xs.take hi).drop lo).length = hi - lo := by simp; omega
  rw [hl]
  exact k1.sub h1 h2
theorem RdS.subLH {v : Value} {xs r : List α} {lo hi : Int} {sz : Nat} (h : RdS S v xs) (e : sub3 xs lo hi = some r) (hs : Rp.sz α = sz := by rfl) : RdS S (subN v sz lo.toNat hi.toNat) r := by
  obtain ⟨_, _, h1, h2, h3⟩ := sub3_some e
  subst hs; rw [← h3]; exact h.sub h1 h2
theorem RdS.subL {v : Value} {xs r : List α} {lo : Int} {sz : Nat} (h : RdS S v xs) (e : Go.Proofs.YtdomaggikbmooaaDoor.subL xs lo = some r) (hs : Rp.sz α = sz := by rfl) : RdS S (subN v sz lo.toNat xs.length) r := by
  obtain ⟨_, h1, h3⟩ := subL_some e
  subst hs; have := h.sub h1 (Nat.le_refl _); rw [List.take_length, h3] at this; exact this
theorem RdS.subH {v : Value} {xs r : List α} {hi : Int} {sz : Nat} (h : RdS S v xs) (e : Go.Proofs.YtdomaggikbmooaaDoor.subH xs hi = some r) (hs : Rp.sz α = sz := by rfl) : RdS S (subN v sz 0 hi.toNat) r := by
  obtain ⟨_, h1, h3⟩ := subH_some e
  subst hs; have := h.sub (Nat.zero_le _) h1; rw [List.drop_zero, h3] at this; exact this
theorem setL_RL {cs c : List Value} {xs r : List α} {i : Int} {x : α} {sz : Nat} (h : RL S cs xs) (hx : Rp.rep S c x) (e : setL xs i x = some r) (hs : Rp.sz α = sz := by rfl) : RL S (lay cs (i.toNat * sz) c) r := by
  obtain ⟨_, h1, h2⟩ := setL_some e
  subst hs; rw [← h2]; exact h.set hx h1
theorem RdS.get {v : Value} {xs : List α} {i : Nat} {x : α} (h : RdS S v xs) (hx : xs[i]? = some x) : ∃ b o n c cs, v = sl b o n c ∧ i < n ∧ CellAt S b (o + i * Rp.sz α) cs ∧ Rp.rep S cs x := by
  obtain ⟨ds, k1, k2⟩ := h
  have hi := (List.getElem?_eq_some_iff.1 hx).1
  obtain ⟨b, o, c, e, hc⟩ := k1.at hi
  exact ⟨b, o, _, c, _, e, hi, hc, k2.get hx⟩
theorem RdS.oneCell {v : Value} {xs : List α} (h : RdS S v xs) : v.oneCell' = true := by
  obtain ⟨cs, k1, _⟩ := h
  rcases k1 with ⟨rfl, _⟩ | ⟨b, o, c, ds, T, fz, rfl, _⟩ <;> rfl
theorem RdS.cells {v : Value} {xs : List α} (h : RdS S v xs) : v.cells.toList = [v] := by
  obtain ⟨cs, k1, _⟩ := h
  rcases k1 with ⟨rfl, _⟩ | ⟨b, o, c, ds, T, fz, rfl, _⟩ <;> rfl
end
/-! ### The kinds -/
section
variable {α β : Type} [Rp α] [Rp β] {S : Mem}
instance (priority := low) instRpList : Rp (List α) where
  sz := 1
  rep S c xs := ∃ v, c = [v] ∧ RdS S v xs
  len := fun ⟨_, e, _⟩ => by rw [e]; rfl
  mono := fun ⟨v, e, h⟩ hl => ⟨v, e, h.mono hl⟩
  one := fun ⟨v, e, h⟩ u hu => by rw [e, List.mem_singleton] at hu; rw [hu]; exact h.oneCell
instance instRpStr : Rp (List UInt8) where
  sz := 1
  rep _ c x := c = [str x]
  len := fun e => by rw [e]; rfl
  mono := fun e _ => e
  one := fun e u hu => by rw [e, List.mem_singleton] at hu; rw [hu]; rfl
instance instRpInt : Rp Int where
  sz := 1
  rep _ c x := c = [.int .i64 x]
  len := fun e => by rw [e]; rfl
  mono := fun e _ => e
  one := fun e u hu => by rw [e, List.mem_singleton] at hu; rw [hu]; rfl
instance instRpU8 : Rp UInt8 where
  sz := 1
  rep _ c x := c = [.int .u8 (x.toNat : Int)]
  len := fun e => by rw [e]; rfl
  mono := fun e _ => e
  one := fun e u hu => by rw [e, List.mem_singleton] at hu; rw [hu]; rfl
instance instRpU32 : Rp UInt32 where
  sz := 1
  rep _ c x := c = [.int .u32 (x.toNat : Int)]
  len := fun e => by rw [e]; rfl
  mono := fun e _ => e
  one := fun e u hu => by rw [e, List.mem_singleton] at hu; rw [hu]; rfl
instance instRpU64 : Rp UInt64 where
  sz := 1
  rep _ c x := c = [.int .u64 (x.toNat : Int)]
  len := fun e => by rw [e]; rfl
  mono := fun e _ => e
  one := fun e u hu => by rw [e, List.mem_singleton] at hu; rw [hu]; rfl
instance instRpBool : Rp Bool where
  sz := 1
  rep _ c x := c = [.bool x]
  len := fun e => by rw [e]; rfl
  mono := fun e _ => e
  one := fun e u hu => by rw [e, List.mem_singleton] at hu; rw [hu]; rfl
instance instRpUnit : Rp Unit where
  sz := 0
  rep _ c _ := c = []
  len := fun e => by rw [e]; rfl
  mono := fun e _ => e
  one := fun e u hu => by rw [e] at hu; cases hu
instance instRpProd : Rp (α × β) where
  sz := Rp.sz α + Rp.sz β
  rep S c x := ∃ c1 c2, c = c1 ++ c2 ∧ Rp.rep S c1 x.1 ∧ Rp.rep S c2 x.2
  len := fun ⟨c1, c2, e, h1, h2⟩ => by rw [e, List.length_append, Rp.len h1, Rp.len h2]
  mono := fun ⟨c1, c2, e, h1, h2⟩ hl => ⟨c1, c2, e, Rp.mono h1 hl, Rp.mono h2 hl⟩
  one := fun ⟨c1, c2, e, h1, h2⟩ u hu => by
    rw [e] at hu
    rcases List.mem_append.1 hu with h | h
    · exact Rp.one h1 u h
    · exact Rp.one h2 u h
theorem rpI {x : Int} : Rp.rep S [.int .i64 x] x := rfl
theorem rpU8 {x : UInt8} : Rp.rep S [.int .u8 (x.toNat : Int)] x := rfl
theorem rpU8c {x : UInt8} {c : List Value} (h : c = [.int .u8 (x.toNat : Int)]) : Rp.rep S c x := h
theorem rpU32c {x : UInt32} {c : List Value} (h : c = [.int .u32 (x.toNat : Int)]) : Rp.rep S c x := h
theorem rpU64c {x : UInt64} {c : List Value} (h : c = [.int .u64 (x.toNat : Int)]) : Rp.rep S c x := h
theorem rpU32 {x : UInt32} : Rp.rep S [.int .u32 (x.toNat : Int)] x := rfl
theorem rpU64 {x : UInt64} : Rp.rep S [.int .u64 (x.toNat : Int)] x := rfl
theorem rpB {x : Bool} : Rp.rep S [.bool x] x := rfl
theorem rpT {x : List UInt8} : Rp.rep S [str x] x := rfl
theorem rpU {x : Unit} : Rp.rep S [] x := rfl
theorem rpP {c1 c2 : List Value} {x : α} {y : β} (h1 : Rp.rep S c1 x) (h2 : Rp.rep S c2 y) : Rp.rep S (c1 ++ c2) (x, y) := ⟨c1, c2, rfl, h1, h2⟩
theorem rpL {v : Value} {xs : List α} (h : RdS S v xs) : Rp.rep (α := List α) (self := instRpList) S [v] xs := ⟨v, rfl, h⟩
theorem elI {c : List Value} {x : Int} (h : Rp.rep S c x) : c = [.int .i64 x] := h
theorem elU8 {c : List Value} {x : UInt8} (h : Rp.rep S c x) : c = [.int .u8 (x.toNat : Int)] := h
theorem elU32 {c : List Value} {x : UInt32} (h : Rp.rep S c x) : c = [.int .u32 (x.toNat : Int)] := h
theorem elU64 {c : List Value} {x : UInt64} (h : Rp.rep S c x) : c = [.int .u64 (x.toNat : Int)] := h
theorem elB {c : List Value} {x : Bool} (h : Rp.rep S c x) : c = [.bool x] := h
theorem elT {c : List Value} {x : List UInt8} (h : Rp.rep S c x) : c = [str x] := h
theorem elU {c : List Value} {x : Unit} (h : Rp.rep S c x) : c = [] := h
theorem elP {c : List Value} {x : α × β} (h : Rp.rep S c x) : ∃ c1 c2, c = c1 ++ c2 ∧ Rp.rep S c1 x.1 ∧ Rp.rep S c2 x.2 := h
theorem elL {c : List Value} {xs : List α} (h : Rp.rep (α := List α) (self := instRpList) S c xs) : ∃ v, c = [v] ∧ RdS S v xs := h
/-- The bytes of a slice. -/
theorem RL.is_u8s : ∀ {xs : List UInt8} {cs : List Value}, RL S cs xs → cs = u8s xs
  | [], _, h => h
  | x :: xs, _, ⟨c, d, e, h1, h2⟩ => by rw [e, elU8 h1, RL.is_u8s h2]; rfl
theorem RL.of_u8s : ∀ (xs : List UInt8), RL S (u8s xs) xs
  | [] => rfl
  | x :: xs => ⟨_, _, rfl, rpU8, RL.of_u8s xs⟩
end
end Go.Proofs.YtdomaggikbmooaaDoor
