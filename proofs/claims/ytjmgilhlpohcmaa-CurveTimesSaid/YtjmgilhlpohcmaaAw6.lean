/- What the calls of awake (layer 6) answer: plain lemmas. No condition. -/
import Derived.Test.YtjmgilhlpohcmaaInv
import Derived.KernelRfl
namespace Go.Proofs.Ytjmgilhlpohcmaa
open Go Go.RowKit
theorem HP.ofE {W w : World} (_hx : Ext W w) : HP W W [] := HP.of (Ext.refl W)
theorem aw1 : (modN 0 == 115792089210356248762697446949407573530086143415290314195533631308867097853951) = true := by kernel_rfl
theorem aw2 : (modN 1 == 115792089210356248762697446949407573529996955224135760342422259061068512044369) = true := by kernel_rfl
theorem aw3 : ((1 + (modN 0 - 2 % modN 0)) % modN 0 == 115792089210356248762697446949407573530086143415290314195533631308867097853950) = true := by kernel_rfl
theorem aw4 : ((1 + (modN 0 - 2 % modN 0)) % modN 0 * ((1 + (modN 0 - 2 % modN 0)) % modN 0) % modN 0 == 1) = true := by kernel_rfl
theorem inv2 : invV 0 2 = 57896044605178124381348723474703786765043071707645157097766815654433548926976 := by
  have h0 : 2 % modN 0 ≠ 0 := fun h => by
    have : 2 % modN 0 = 2 := by kernel_rfl
    omega
  unfold invV
  rw [if_neg h0]
  exact inv_unique (pr_modN 0) (Nat.mod_lt _ (modN_pos 0)) (of_decide_eq_true (by kernel_rfl)) (inv_pow (pr_modN 0) h0) (by kernel_rfl)
theorem aw5 : ((invV 0 2 + invV 0 2) % modN 0 == 1) = true := by rw [inv2]; kernel_rfl
theorem aw6 : (invE 0 2 == 0) = true := by
  have h0 : 2 % modN 0 ≠ 0 := fun h => by
    have : 2 % modN 0 = 2 := by kernel_rfl
    omega
  unfold invE; rw [if_neg h0]; rfl
theorem aw7 : (invE 1 (modN 1) == 61) = true := by unfold invE; rw [if_pos (Nat.mod_self _)]; rfl
theorem aw8 : (ofE 0 (be 32 (modN 0)) == 60) = true := by
  have h : ofOK 0 (be 32 (modN 0)) = false := by
    unfold ofOK
    rw [bval_be 32 (modN 0) (mod_modN 0).lt]
    simp
  rw [(of_f h).2]; rfl
theorem aw9 : (3 ^ 5 % modN 0 == 243) = true := by kernel_rfl
theorem aw10 : (bval [1, 0] % modN 1 == 256) = true := by kernel_rfl
theorem aw11 : ((modN 1 - 0 % modN 1) % modN 1 == 0) = true := by kernel_rfl
end Go.Proofs.Ytjmgilhlpohcmaa
