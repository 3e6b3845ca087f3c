/- Plain laws of the words that walks are told in: loops, lists, bytes. Conditions: as each theorem says. -/
import Derived.Test.YtmbcolbbekbccaaPu
import Derived.KernelRfl
namespace Go.Proofs.Ytmbcolbbekbccaa
open Go Go.RowKit
section
variable {α β γ σ : Type}
theorem byte_all (p : UInt8 → Bool) (h : (List.range 256).all (fun n => p (UInt8.ofNat n)) = true) (b : UInt8) : p b = true := by
  have := List.all_eq_true.1 h b.toNat (by have := b.toNat_lt; simp only [List.mem_range]; omega)
  simpa using this
theorem some_bind (x : α) (f : α → Option β) : (some x).bind f = f x := rfl
theorem bind_ok {o : Option α} {a : α} {f : α → Option β} (h : o = some a) : o.bind f = f a := by rw [h]; rfl
theorem jn_l (a : α) (f : α → Option γ) (g : β → Option γ) : jn (some (.inl a)) f g = f a := rfl
theorem jn_r (b : β) (f : α → Option γ) (g : β → Option γ) : jn (some (.inr b)) f g = g b := rfl
theorem w64_of {x : Int} (h : -9223372036854775808 ≤ x) (h2 : x ≤ 9223372036854775807) : w64 x = x := wr64 h (by omega)
theorem idx_ok {l : List α} {i : Nat} {j : Int} (hj : j = (i : Int)) (h : i < l.length) : idx l j = some l[i] := by
  subst hj; rw [idx_nat]; exact List.getElem?_eq_getElem h
theorem mkL_ok {n : Nat} {z : α} (h : n ≤ 68719476736) : mkL (n : Int) z = some (List.replicate n z) := by
  unfold mkL
  have h' : (n : Int) ≤ (LIM : Int) := by unfold LIM; omega
  have h0 : (0 : Int) ≤ (n : Int) := by omega
  simp only [h', h0, decide_true, Bool.and_self, cond_true, Int.toNat_natCast]
theorem chk_ok {c : Bool} (h : c = true) : chk c = some () := by subst h; rfl
theorem cond_t {c : Bool} {a b : α} (h : c = true) : (bif c then a else b) = a := by subst h; rfl
theorem cond_f {c : Bool} {a b : α} (h : c = false) : (bif c then a else b) = b := by subst h; rfl
theorem dec_t {p : Prop} [Decidable p] {a b : α} (h : p) : (bif decide p then a else b) = a := by simp [h]
theorem dec_f {p : Prop} [Decidable p] {a b : α} (h : ¬ p) : (bif decide p then a else b) = b := by simp [h]
/-- A loop whose states are numbered. -/
theorem iter_run {body : σ → Option (σ ⊕ β)} (st : Nat → σ) (n : Nat) (hn : n < 1099511627776) (b : β) (h : ∀ k, k < n → body (st k) = some (.inl (st (k + 1)))) (he : body (st n) = some (.inr b)) : iter body (st 0) = some b := by
  have key : ∀ j k, k ≤ n → n - k < j → iterN body j (st k) = some b := by
    intro j
    induction j with
    | zero => intro k _ h; omega
    | succ j ih =>
      intro k hk hj
      by_cases e : k = n
      · subst e; exact iterN_end he
      · rw [iterN_step (h k (by omega))]; exact ih (k + 1) (by omega) (by omega)
  exact key FU 0 (by omega) (by unfold FU; omega)
theorem take_succ {l : List α} {k : Nat} (h : k < l.length) : l.take (k + 1) = l.take k ++ [l[k]] := by
  rw [List.take_add_one, List.getElem?_eq_getElem h]; rfl
theorem drop_at {l : List α} {k : Nat} (h : k < l.length) : l.drop k = l[k] :: l.drop (k + 1) := List.drop_eq_getElem_cons h
end
end Go.Proofs.Ytmbcolbbekbccaa
