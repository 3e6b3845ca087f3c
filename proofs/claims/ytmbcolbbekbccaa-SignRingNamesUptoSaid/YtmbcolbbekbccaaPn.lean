/- A key's name and its mac are told by its seed alone: the law's answer, plain. Conditions: as each theorem says. -/
import Derived.Test.YtmbcolbbekbccaaFix
namespace Go.Proofs.Ytmbcolbbekbccaa
open Go Go.RowKit
theorem signRingNames_plain {x y : List UInt8} (hx : x.length ≤ 4194304) (hy : y.length ≤ 4194304) : seneschallaw08_SignRingNames_p x y = some true := by
  unfold seneschallaw08_SignRingNames_p
  have m : sign_Ring_Mac_p (some (ringF [x])) y = some (kidF x, macF (mkF x) y) := rmac_ok (L := []) (by decide) (by omega)
  have hb : seneschalref01_Base64_p ((macF [107, 105, 100] x).take 9) = some (kidF x) := refBase64_run _ (by rw [List.length_take, macF_len]; decide)
  rw [newRing_ok (by omega), some_bind, fixed_ok, some_bind]
  simp only [Bool.not_true, cond_false]
  rw [m, some_bind, kids_ok (L := [x]) (by simp), some_bind, mac_ok4 (by decide) (by omega), some_bind]
  simp only [List.map_cons, List.map_nil, List.length_cons, List.length_nil, macF_len]
  rw [cond_t (by rfl), show idx [kidF x] 0 = some (kidF x) from rfl, some_bind, some_bind, BEq.rfl]
  simp only [cond_true]
  rw [show (((32 : Nat) : Int) == 32) = true from rfl, cond_true, show (9 : Int) = ((9 : Nat) : Int) from rfl, subH_ok (by rw [macF_len]; decide), some_bind, hb, some_bind, some_bind, BEq.rfl]
  simp only [cond_true]
  rw [mac_ok4 (by decide) (by omega), some_bind, mac_ok4 (by rw [macF_len]; decide) (by omega), some_bind, some_bind]
  rw [show macF (mkF x) y = macF (macF [109, 97, 99] x) y from rfl, BEq.rfl]
theorem signRingNames_w (x y : List UInt8) (hx : x.length ≤ 4194304) (hy : y.length ≤ 4194304) (w : World) : Calls Try.prog 4 #[str x, str y] w fun e w' => e = .returned (.bool true) ∧ Ext w w' :=
  seneschallaw08_SignRingNames_c (subMem w) (signRingNames_plain hx hy)
end Go.Proofs.Ytmbcolbbekbccaa
