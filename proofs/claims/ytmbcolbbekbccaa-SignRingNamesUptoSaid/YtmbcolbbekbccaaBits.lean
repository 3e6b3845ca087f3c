/- What the model answers for math/bits.Add64, Sub64, for words. -/
import Derived.Test.YtmbcolbbekbccaaRows
import Derived.Test.YtmbcolbbekbccaaFb
import Derived.Shelf.Spec.BitsCarry
namespace Go.Proofs.Ytmbcolbbekbccaa
open Go Go.RowKit
theorem run_Sub64 {x y b : Int} (hx : U x) (hy : U y) (hb : C1 b) (w : World) :
    (callFunc 65 ([.int .u64 x, .int .u64 y, .int .u64 b] : List Value).toArray).run Try.prog w = .ok (.value (.tuple ([.int .u64 (sd x y b), .int .u64 (sb x y b)] : List Value).toArray)) w := by
  obtain ⟨X, rfl⟩ := Int.eq_ofNat_of_zero_le hx.1
  obtain ⟨Y, rfl⟩ := Int.eq_ofNat_of_zero_le hy.1
  have key : ∀ B : Nat, B ≤ 1 → (callFunc 65 #[.int .u64 X, .int .u64 Y, .int .u64 (B : Int)]).run Try.prog w = .ok (.value (.tuple #[.int .u64 (sd X Y B), .int .u64 (sb X Y B)])) w := fun B hB => by
    rw [run_callFunc_extern (f := 65) Try.func65 (by kernel_rfl) (by kernel_rfl) (by kernel_rfl) (e := sub64Entry) (by kernel_rfl), run_sub64 X Y B hB]
    simp only [Result.andThen]
    have h1 : (((X + 18446744073709551616 - Y - B) % 18446744073709551616 : Nat) : Int) = sd X Y B := by unfold sd U at *; omega
    have h2 : ((if X < Y + B then 1 else 0 : Nat) : Int) = sb X Y B := by unfold sb; split <;> split <;> omega
    rw [h1, h2]
  rcases hb with rfl | rfl
  · exact key 0 (by omega)
  · exact key 1 (by omega)
theorem run_Add64 {x y b : Int} (hx : U x) (hy : U y) (hb : C1 b) (w : World) :
    (callFunc 53 ([.int .u64 x, .int .u64 y, .int .u64 b] : List Value).toArray).run Try.prog w = .ok (.value (.tuple ([.int .u64 (ad x y b), .int .u64 (ac x y b)] : List Value).toArray)) w := by
  show (callFunc 53 #[.int .u64 x, .int .u64 y, .int .u64 b]).run Try.prog w = _
  rw [run_callFunc_extern (f := 53) Try.func53 (by kernel_rfl) (by kernel_rfl) (by kernel_rfl) (e := add64Entry) (by kernel_rfl), run_add64 x y b hx.1 hy.1 (by unfold C1 at hb; omega) (by unfold C1 at hb; omega), ac_eq hx hy hb]
  rfl
end Go.Proofs.Ytmbcolbbekbccaa
