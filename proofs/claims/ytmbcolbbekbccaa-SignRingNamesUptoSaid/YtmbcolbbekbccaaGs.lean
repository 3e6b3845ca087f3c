/- What the calls of packages field and curve compute, over numbers in words: from the walks of the first kind. Conditions: as each theorem says. -/
import Derived.Test.YtmbcolbbekbccaaNv
import Derived.Test.YtmbcolbbekbccaaFldD
import Derived.Test.YtmbcolbbekbccaaCrvC
import Derived.Test.YtmbcolbbekbccaaKp
import Derived.Test.YtmbcolbbekbccaaClN
namespace Go.Proofs.Ytmbcolbbekbccaa
open Go Go.RowKit
theorem clN_nv (x : W4) : cl24 x = numL (nv x) := by
  unfold numL lm
  rw [nv_wd x (by decide), nv_wd x (by decide), nv_wd x (by decide), nv_wd x (by decide)]
  rfl
theorem clN_tv (A : Nat) : cl24 (tv A) = numL A := by
  have e : ∀ i : Nat, ((UInt64.ofNat (A / 2 ^ (64 * i))).toNat : Int) = lm A i := fun i => by
    rw [lm, UInt64.toNat_ofNat']
  unfold numL
  rw [← e 0, ← e 1, ← e 2, ← e 3]; rfl
theorem clP_ap (x : Pw) : cl29 x = ptT (apT x) := by
  show cl24 x.1 ++ (cl24 x.2.1 ++ [Value.bool x.2.2]) = _
  rw [clN_nv, clN_nv]; rfl
theorem clP_W (t : Ap) : cl29 (ptW t) = ptT t := by
  show cl24 (tv t.1) ++ (cl24 (tv t.2.1) ++ [Value.bool t.2.2]) = _
  rw [clN_tv, clN_tv]
theorem clN_v (A : Nat) : Value.agg (cl24 (tv A)).toArray = numV A := by rw [clN_tv]
theorem clN_w (x : W4) : Value.agg (cl24 x).toArray = numV (nv x) := by rw [clN_nv]
section
variable {S : Mem} {w : World}
def field_Modulus_p (m : Int) : Option W4 := some (tv (modN m))
theorem field_Modulus_c (_ : Sub S w) {x0 : Int} {r : W4} (hF : field_Modulus_p x0 = some r) : Calls Try.prog 26 #[.int .i64 x0] w fun e w' => e = .returned (.agg (cl24 r).toArray) ∧ Ext w w' := by
  obtain rfl := Option.some.inj hF; rw [clN_v]; exact modulus_c x0 w
def field_Add_p (m : Int) (a b : W4) : Option W4 := some (tv ((nv a + nv b) % modN m))
theorem field_Add_c (_ : Sub S w) {x0 : Int} {x1 x2 r : W4} (hF : field_Add_p x0 x1 x2 = some r) : Calls Try.prog 22 #[.int .i64 x0, .agg (cl24 x1).toArray, .agg (cl24 x2).toArray] w fun e w' => e = .returned (.agg (cl24 r).toArray) ∧ Ext w w' := by
  obtain rfl := Option.some.inj hF; rw [clN_v, clN_w, clN_w]; exact add_c x0 _ _ (nv_lt _) (nv_lt _) w
def field_Reduce_p (m : Int) (l : List UInt8) : Option W4 := Option.bind (chk (decide (l.length ≤ LIM))) fun _ => some (tv (bval l % modN m))
theorem field_Reduce_c (_ : Sub S w) {x0 : Int} {x1 : List UInt8} {r : W4} (hF : field_Reduce_p x0 x1 = some r) : Calls Try.prog 42 #[.int .i64 x0, str x1] w fun e w' => e = .returned (.agg (cl24 r).toArray) ∧ Ext w w' := by
  unfold field_Reduce_p at hF
  obtain ⟨y, e, hF⟩ := bnd hF
  have hl := of_decide_eq_true (chk_some e)
  obtain rfl := Option.some.inj hF; rw [clN_v]; exact reduce_c x0 x1 (by unfold LIM at hl; omega) w
def curve_Base_p : Option Pw := some (ptW (GX, GY, false))
theorem curve_Base_c (_ : Sub S w) {r : Pw} (hF : curve_Base_p = some r) : Calls Try.prog 28 #[] w fun e w' => e = .returned (.agg (cl29 r).toArray) ∧ Ext w w' := by
  obtain rfl := Option.some.inj hF; rw [clP_W]; exact base_c w
def curve_Mul_p (x0 : W4) (x1 : Pw) : Option (Pw × Int) := some (ptW (cmul (nv x0) (apT x1)), cerr (apT x1))
theorem curve_Mul_c (_ : Sub S w) {x0 : W4} {x1 : Pw} {r : Pw × Int} (hF : curve_Mul_p x0 x1 = some r) : Calls Try.prog 31 #[.agg (cl24 x0).toArray, .agg (cl29 x1).toArray] w fun e w' => e = .returned (.tuple #[.agg (cl29 r.1).toArray, .int .i64 r.2]) ∧ Ext w w' := by
  obtain rfl := Option.some.inj hF; rw [clP_ap, clP_W, clN_w]
  exact cmul_c (nv x0) (nv_lt x0) (nv x1.1) (nv x1.2.1) x1.2.2 (nv_lt _) (nv_lt _) w
def curve_On_p (x0 : Pw) : Option Bool := some (onT (apT x0))
theorem curve_On_c (_ : Sub S w) {x0 : Pw} {r : Bool} (hF : curve_On_p x0 = some r) : Calls Try.prog 30 #[.agg (cl29 x0).toArray] w fun e w' => e = .returned (.bool r) ∧ Ext w w' := by
  obtain rfl := Option.some.inj hF; rw [clP_ap]; exact on_c (nv x0.1) (nv x0.2.1) x0.2.2 (nv_lt _) (nv_lt _) w
end
end Go.Proofs.Ytmbcolbbekbccaa
