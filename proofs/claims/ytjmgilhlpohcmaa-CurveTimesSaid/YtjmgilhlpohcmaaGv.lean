/- What the calls of package curve compute, over points in words: from the walks of the first kind. Conditions: as each theorem says. -/
import Derived.Test.YtjmgilhlpohcmaaRfC
import Derived.Test.YtjmgilhlpohcmaaRea
import Derived.Test.YtjmgilhlpohcmaaLawC
namespace Go.Proofs.Ytjmgilhlpohcmaa
open Go Go.RowKit
theorem clN_nv (x : W4) : cl24 x = numL (nv x) := by
  unfold numL lm
  rw [nv_wd x (by decide), nv_wd x (by decide), nv_wd x (by decide), nv_wd x (by decide)]
  rfl
theorem clN_tv (A : Nat) : cl24 (tv A) = numL A := by
  have e : ∀ i : Nat, ((UInt64.ofNat (A / 2 ^ (64 * i))).toNat : Int) = lm A i := fun i => by
    rw [lm, UInt64.toNat_ofNat']
  unfold numL
  rw [← e 0, ← e 1, ← e 2, ← e 3]; rfl
theorem clP_ap (x : Pw) : cl52 x = ptT (apT x) := by
  show cl24 x.1 ++ (cl24 x.2.1 ++ [Value.bool x.2.2]) = _
  rw [clN_nv, clN_nv]; rfl
theorem clP_W (t : Ap) : cl52 (ptW t) = ptT t := by
  show cl24 (tv t.1) ++ (cl24 (tv t.2.1) ++ [Value.bool t.2.2]) = _
  rw [clN_tv, clN_tv]
section
variable {S : Mem} {w : World}
def curve_On_p (x0 : Pw) : Option Bool := some (onT (apT x0))
theorem curve_On_c (_ : Sub S w) {x0 : Pw} {r : Bool} (hF : curve_On_p x0 = some r) : Calls Try.prog 44 #[.agg (cl52 x0).toArray] w fun e w' => e = .returned (.bool r) ∧ Ext w w' := by
  obtain rfl := Option.some.inj hF; rw [clP_ap]; exact on_t _ (apT_lt x0) w
def curve_Neg_p (x0 : Pw) : Option (Pw × Int) := some (ptW (cneg (apT x0)), cerr (apT x0))
theorem curve_Neg_c (_ : Sub S w) {x0 : Pw} {r : Pw × Int} (hF : curve_Neg_p x0 = some r) : Calls Try.prog 46 #[.agg (cl52 x0).toArray] w fun e w' => e = .returned (.tuple #[.agg (cl52 r.1).toArray, .int .i64 r.2]) ∧ Ext w w' := by
  obtain rfl := Option.some.inj hF; rw [clP_ap, clP_W]; exact neg_t _ (apT_lt x0) w
def curve_Add_p (x0 x1 : Pw) : Option (Pw × Int) := some (ptW (cadd (apT x0) (apT x1)), cadde (apT x0) (apT x1))
theorem curve_Add_c (_ : Sub S w) {x0 x1 : Pw} {r : Pw × Int} (hF : curve_Add_p x0 x1 = some r) : Calls Try.prog 47 #[.agg (cl52 x0).toArray, .agg (cl52 x1).toArray] w fun e w' => e = .returned (.tuple #[.agg (cl52 r.1).toArray, .int .i64 r.2]) ∧ Ext w w' := by
  obtain rfl := Option.some.inj hF; rw [clP_ap, clP_ap, clP_W]; exact add_t _ _ (apT_lt x0) (apT_lt x1) w
def curve_Mul_p (x0 : W4) (x1 : Pw) : Option (Pw × Int) := some (ptW (cmul (nv x0) (apT x1)), cerr (apT x1))
theorem curve_Mul_c (_ : Sub S w) {x0 : W4} {x1 : Pw} {r : Pw × Int} (hF : curve_Mul_p x0 x1 = some r) : Calls Try.prog 52 #[.agg (cl24 x0).toArray, .agg (cl52 x1).toArray] w fun e w' => e = .returned (.tuple #[.agg (cl52 r.1).toArray, .int .i64 r.2]) ∧ Ext w w' := by
  obtain rfl := Option.some.inj hF; rw [clP_ap, clP_W, clN_nv]; exact mul_t _ _ (nv_lt x0) (apT_lt x1) w
def curve_Bytes_p (x0 : Pw) : Option (List UInt8 × Int) := some (cby (apT x0), cerr (apT x0))
theorem curve_Bytes_c (_ : Sub S w) {x0 : Pw} {r : List UInt8 × Int} (hF : curve_Bytes_p x0 = some r) : Calls Try.prog 39 #[.agg (cl52 x0).toArray] w fun e w' => e = .returned (.tuple #[str r.1, .int .i64 r.2]) ∧ Ext w w' := by
  obtain rfl := Option.some.inj hF; rw [clP_ap]; exact bytes_t _ (apT_lt x0) w
def curve_Of_p (x0 : List UInt8) : Option (Pw × Int) := Option.bind (chk (decide (x0.length ≤ LIM))) fun _ => some (ptW (cofV x0), cofE x0)
theorem curve_Of_c (_ : Sub S w) {x0 : List UInt8} {r : Pw × Int} (hF : curve_Of_p x0 = some r) : Calls Try.prog 40 #[str x0] w fun e w' => e = .returned (.tuple #[.agg (cl52 r.1).toArray, .int .i64 r.2]) ∧ Ext w w' := by
  unfold curve_Of_p at hF
  obtain ⟨y, e, hF⟩ := bnd hF
  have hl := of_decide_eq_true (chk_some e)
  obtain rfl := Option.some.inj hF
  rw [clP_W]; exact cofs_c x0 (by unfold LIM at hl; omega) w
def awake7_p : Option Bool := some true
theorem awake7_g (_ : Sub S w) {r : Bool} (hF : awake7_p = some r) : Calls Try.prog 43 #[] w fun e w' => e = .returned (.bool r) ∧ Ext w w' := by
  obtain rfl := Option.some.inj hF; exact awake7_c w
end
end Go.Proofs.Ytjmgilhlpohcmaa
