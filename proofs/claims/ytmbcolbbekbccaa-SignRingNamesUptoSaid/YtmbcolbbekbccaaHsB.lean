/- What some functions compute, and that they do. Conditions: as each theorem says. -/
import Derived.Test.YtmbcolbbekbccaaHsA
import Derived.Test.YtmbcolbbekbccaaCpy
namespace Go.Proofs.Ytmbcolbbekbccaa
open Go Go.RowKit
attribute [local irreducible] wpList wpT Code.wp Calls Code.rounds
theorem to5 : TOne Try.prog 5 := ⟨fun _ => by kernel_rfl, fun _ => by kernel_rfl⟩
theorem is39 : IsFn Try.prog 39 := isFn Try.func39 (by kernel_rfl) (by kernel_rfl)
theorem is40 : IsFn Try.prog 40 := isFn Try.func40 (by kernel_rfl) (by kernel_rfl)
theorem is43 : IsFn Try.prog 43 := isFn Try.func43 (by kernel_rfl) (by kernel_rfl)
theorem is73 : IsFn Try.prog 73 := isFn Try.func73 (by kernel_rfl) (by kernel_rfl)
def math_bits_Mul64_p (x0 : UInt64) (x1 : UInt64) : Option (UInt64 × UInt64) :=
  some (((i64 ((((i64 ((((i64 ((((i64 (shrI .u64 ((x0).toNat : Int) 32))).toNat : Int) * (((i64 (shrI .u64 ((x1).toNat : Int) 32))).toNat : Int)))).toNat : Int) + (((i64 (shrI .u64 (((i64 ((((i64 ((((i64 (shrI .u64 ((x0).toNat : Int) 32))).toNat : Int) * (((x1 &&& (4294967295 : UInt64))).toNat : Int)))).toNat : Int) + (((i64 (shrI .u64 (((i64 ((((x0 &&& (4294967295 : UInt64))).toNat : Int) * (((x1 &&& (4294967295 : UInt64))).toNat : Int)))).toNat : Int) 32))).toNat : Int)))).toNat : Int) 32))).toNat : Int)))).toNat : Int) + (((i64 (shrI .u64 (((i64 (((((i64 ((((i64 ((((i64 (shrI .u64 ((x0).toNat : Int) 32))).toNat : Int) * (((x1 &&& (4294967295 : UInt64))).toNat : Int)))).toNat : Int) + (((i64 (shrI .u64 (((i64 ((((x0 &&& (4294967295 : UInt64))).toNat : Int) * (((x1 &&& (4294967295 : UInt64))).toNat : Int)))).toNat : Int) 32))).toNat : Int))) &&& (4294967295 : UInt64))).toNat : Int) + (((i64 ((((x0 &&& (4294967295 : UInt64))).toNat : Int) * (((i64 (shrI .u64 ((x1).toNat : Int) 32))).toNat : Int)))).toNat : Int)))).toNat : Int) 32))).toNat : Int))), (i64 (((x0).toNat : Int) * ((x1).toNat : Int)))))
theorem math_bits_Mul64_c {S : Mem} {w : World} (hS : Sub S w) {x0 : UInt64} {x1 : UInt64} {r : UInt64 × UInt64} (hF : math_bits_Mul64_p x0 x1 = some r) :
    Calls Try.prog 73 #[.int .u64 (((x0).toNat : Int)), .int .u64 (((x1).toNat : Int))] w fun e w' => e = .returned (.tuple #[.int .u64 (((r.1).toNat : Int)), .int .u64 (((r.2).toNat : Int))]) ∧ Ext w w' := by
 refine enter (n := 51) Try.func73 rfl rfl rfl ?_
 have H := HS.start hS
 unfold math_bits_Mul64_p at hF
 refine sr ?_; intro K1 hK1
 refine p_as (v := .int .u64 (0)) rfl ?_
 refine p_as (v := .int .u64 (0)) rfl ?_
 refine xk hK1 ?_; clear hK1
 refine sr ?_; intro K2 hK2
 refine p_mv (v := .int .u64 (((x0).toNat : Int))) rfl ?_
 refine p_val (r_bits (bo := .and) (by simp) rfl rfl (i64_and _ (4294967295 : UInt64))) ?_
 refine p_as (v := .int .u64 ((((x0 &&& (4294967295 : UInt64))).toNat : Int))) rfl ?_
 refine xk hK2 ?_; clear hK2
 refine sr ?_; intro K3 hK3
 refine p_mv (v := .int .u64 (((x0).toNat : Int))) rfl ?_
 refine p_val (r_shr rfl rfl (by decide) (i64_shr _ _)) ?_
 refine p_as (v := .int .u64 ((((i64 (shrI .u64 ((x0).toNat : Int) 32))).toNat : Int))) rfl ?_
 refine xk hK3 ?_; clear hK3
 refine sr ?_; intro K4 hK4
 refine p_mv (v := .int .u64 (((x1).toNat : Int))) rfl ?_
 refine p_val (r_bits (bo := .and) (by simp) rfl rfl (i64_and _ (4294967295 : UInt64))) ?_
 refine p_as (v := .int .u64 ((((x1 &&& (4294967295 : UInt64))).toNat : Int))) rfl ?_
 refine xk hK4 ?_; clear hK4
 refine sr ?_; intro K5 hK5
 refine p_mv (v := .int .u64 (((x1).toNat : Int))) rfl ?_
 refine p_val (r_shr rfl rfl (by decide) (i64_shr _ _)) ?_
 refine p_as (v := .int .u64 ((((i64 (shrI .u64 ((x1).toNat : Int) 32))).toNat : Int))) rfl ?_
 refine xk hK5 ?_; clear hK5
 refine sr ?_; intro K6 hK6
 refine p_mv (v := .int .u64 ((((x0 &&& (4294967295 : UInt64))).toNat : Int))) rfl ?_
 refine p_mv (v := .int .u64 ((((x1 &&& (4294967295 : UInt64))).toNat : Int))) rfl ?_
 refine p_val (r_mul rfl rfl (i64_wrap _)) ?_
 refine p_as (v := .int .u64 ((((i64 ((((x0 &&& (4294967295 : UInt64))).toNat : Int) * (((x1 &&& (4294967295 : UInt64))).toNat : Int)))).toNat : Int))) rfl ?_
 refine xk hK6 ?_; clear hK6
 refine sr ?_; intro K7 hK7
 refine p_mv (v := .int .u64 ((((i64 (shrI .u64 ((x0).toNat : Int) 32))).toNat : Int))) rfl ?_
 refine p_mv (v := .int .u64 ((((x1 &&& (4294967295 : UInt64))).toNat : Int))) rfl ?_
 refine p_val (r_mul rfl rfl (i64_wrap _)) ?_
 refine p_mv (v := .int .u64 ((((i64 ((((x0 &&& (4294967295 : UInt64))).toNat : Int) * (((x1 &&& (4294967295 : UInt64))).toNat : Int)))).toNat : Int))) rfl ?_
 refine p_val (r_shr rfl rfl (by decide) (i64_shr _ _)) ?_
 refine p_val (r_add rfl rfl (i64_wrap _)) ?_
 refine p_as (v := .int .u64 ((((i64 ((((i64 ((((i64 (shrI .u64 ((x0).toNat : Int) 32))).toNat : Int) * (((x1 &&& (4294967295 : UInt64))).toNat : Int)))).toNat : Int) + (((i64 (shrI .u64 (((i64 ((((x0 &&& (4294967295 : UInt64))).toNat : Int) * (((x1 &&& (4294967295 : UInt64))).toNat : Int)))).toNat : Int) 32))).toNat : Int)))).toNat : Int))) rfl ?_
 refine xk hK7 ?_; clear hK7
 refine sr ?_; intro K8 hK8
 refine p_mv (v := .int .u64 ((((i64 ((((i64 ((((i64 (shrI .u64 ((x0).toNat : Int) 32))).toNat : Int) * (((x1 &&& (4294967295 : UInt64))).toNat : Int)))).toNat : Int) + (((i64 (shrI .u64 (((i64 ((((x0 &&& (4294967295 : UInt64))).toNat : Int) * (((x1 &&& (4294967295 : UInt64))).toNat : Int)))).toNat : Int) 32))).toNat : Int)))).toNat : Int))) rfl ?_
 refine p_val (r_bits (bo := .and) (by simp) rfl rfl (i64_and _ (4294967295 : UInt64))) ?_
 refine p_as (v := .int .u64 (((((i64 ((((i64 ((((i64 (shrI .u64 ((x0).toNat : Int) 32))).toNat : Int) * (((x1 &&& (4294967295 : UInt64))).toNat : Int)))).toNat : Int) + (((i64 (shrI .u64 (((i64 ((((x0 &&& (4294967295 : UInt64))).toNat : Int) * (((x1 &&& (4294967295 : UInt64))).toNat : Int)))).toNat : Int) 32))).toNat : Int))) &&& (4294967295 : UInt64))).toNat : Int))) rfl ?_
 refine xk hK8 ?_; clear hK8
 refine sr ?_; intro K9 hK9
 refine p_mv (v := .int .u64 ((((i64 ((((i64 ((((i64 (shrI .u64 ((x0).toNat : Int) 32))).toNat : Int) * (((x1 &&& (4294967295 : UInt64))).toNat : Int)))).toNat : Int) + (((i64 (shrI .u64 (((i64 ((((x0 &&& (4294967295 : UInt64))).toNat : Int) * (((x1 &&& (4294967295 : UInt64))).toNat : Int)))).toNat : Int) 32))).toNat : Int)))).toNat : Int))) rfl ?_
 refine p_val (r_shr rfl rfl (by decide) (i64_shr _ _)) ?_
 refine p_as (v := .int .u64 ((((i64 (shrI .u64 (((i64 ((((i64 ((((i64 (shrI .u64 ((x0).toNat : Int) 32))).toNat : Int) * (((x1 &&& (4294967295 : UInt64))).toNat : Int)))).toNat : Int) + (((i64 (shrI .u64 (((i64 ((((x0 &&& (4294967295 : UInt64))).toNat : Int) * (((x1 &&& (4294967295 : UInt64))).toNat : Int)))).toNat : Int) 32))).toNat : Int)))).toNat : Int) 32))).toNat : Int))) rfl ?_
 refine xk hK9 ?_; clear hK9
 refine sr ?_; intro K10 hK10
 refine p_mv (v := .int .u64 (((((i64 ((((i64 ((((i64 (shrI .u64 ((x0).toNat : Int) 32))).toNat : Int) * (((x1 &&& (4294967295 : UInt64))).toNat : Int)))).toNat : Int) + (((i64 (shrI .u64 (((i64 ((((x0 &&& (4294967295 : UInt64))).toNat : Int) * (((x1 &&& (4294967295 : UInt64))).toNat : Int)))).toNat : Int) 32))).toNat : Int))) &&& (4294967295 : UInt64))).toNat : Int))) rfl ?_
 refine p_mv (v := .int .u64 ((((x0 &&& (4294967295 : UInt64))).toNat : Int))) rfl ?_
 refine p_mv (v := .int .u64 ((((i64 (shrI .u64 ((x1).toNat : Int) 32))).toNat : Int))) rfl ?_
 refine p_val (r_mul rfl rfl (i64_wrap _)) ?_
 refine p_val (r_add rfl rfl (i64_wrap _)) ?_
 refine p_as (v := .int .u64 ((((i64 (((((i64 ((((i64 ((((i64 (shrI .u64 ((x0).toNat : Int) 32))).toNat : Int) * (((x1 &&& (4294967295 : UInt64))).toNat : Int)))).toNat : Int) + (((i64 (shrI .u64 (((i64 ((((x0 &&& (4294967295 : UInt64))).toNat : Int) * (((x1 &&& (4294967295 : UInt64))).toNat : Int)))).toNat : Int) 32))).toNat : Int))) &&& (4294967295 : UInt64))).toNat : Int) + (((i64 ((((x0 &&& (4294967295 : UInt64))).toNat : Int) * (((i64 (shrI .u64 ((x1).toNat : Int) 32))).toNat : Int)))).toNat : Int)))).toNat : Int))) rfl ?_
 refine xk hK10 ?_; clear hK10
 refine sr ?_; intro K11 hK11
 refine p_mv (v := .int .u64 ((((i64 (shrI .u64 ((x0).toNat : Int) 32))).toNat : Int))) rfl ?_
 refine p_mv (v := .int .u64 ((((i64 (shrI .u64 ((x1).toNat : Int) 32))).toNat : Int))) rfl ?_
 refine p_val (r_mul rfl rfl (i64_wrap _)) ?_
 refine p_mv (v := .int .u64 ((((i64 (shrI .u64 (((i64 ((((i64 ((((i64 (shrI .u64 ((x0).toNat : Int) 32))).toNat : Int) * (((x1 &&& (4294967295 : UInt64))).toNat : Int)))).toNat : Int) + (((i64 (shrI .u64 (((i64 ((((x0 &&& (4294967295 : UInt64))).toNat : Int) * (((x1 &&& (4294967295 : UInt64))).toNat : Int)))).toNat : Int) 32))).toNat : Int)))).toNat : Int) 32))).toNat : Int))) rfl ?_
 refine p_val (r_add rfl rfl (i64_wrap _)) ?_
 refine p_mv (v := .int .u64 ((((i64 (((((i64 ((((i64 ((((i64 (shrI .u64 ((x0).toNat : Int) 32))).toNat : Int) * (((x1 &&& (4294967295 : UInt64))).toNat : Int)))).toNat : Int) + (((i64 (shrI .u64 (((i64 ((((x0 &&& (4294967295 : UInt64))).toNat : Int) * (((x1 &&& (4294967295 : UInt64))).toNat : Int)))).toNat : Int) 32))).toNat : Int))) &&& (4294967295 : UInt64))).toNat : Int) + (((i64 ((((x0 &&& (4294967295 : UInt64))).toNat : Int) * (((i64 (shrI .u64 ((x1).toNat : Int) 32))).toNat : Int)))).toNat : Int)))).toNat : Int))) rfl ?_
 refine p_val (r_shr rfl rfl (by decide) (i64_shr _ _)) ?_
 refine p_val (r_add rfl rfl (i64_wrap _)) ?_
 refine p_as (v := .int .u64 ((((i64 ((((i64 ((((i64 ((((i64 (shrI .u64 ((x0).toNat : Int) 32))).toNat : Int) * (((i64 (shrI .u64 ((x1).toNat : Int) 32))).toNat : Int)))).toNat : Int) + (((i64 (shrI .u64 (((i64 ((((i64 ((((i64 (shrI .u64 ((x0).toNat : Int) 32))).toNat : Int) * (((x1 &&& (4294967295 : UInt64))).toNat : Int)))).toNat : Int) + (((i64 (shrI .u64 (((i64 ((((x0 &&& (4294967295 : UInt64))).toNat : Int) * (((x1 &&& (4294967295 : UInt64))).toNat : Int)))).toNat : Int) 32))).toNat : Int)))).toNat : Int) 32))).toNat : Int)))).toNat : Int) + (((i64 (shrI .u64 (((i64 (((((i64 ((((i64 ((((i64 (shrI .u64 ((x0).toNat : Int) 32))).toNat : Int) * (((x1 &&& (4294967295 : UInt64))).toNat : Int)))).toNat : Int) + (((i64 (shrI .u64 (((i64 ((((x0 &&& (4294967295 : UInt64))).toNat : Int) * (((x1 &&& (4294967295 : UInt64))).toNat : Int)))).toNat : Int) 32))).toNat : Int))) &&& (4294967295 : UInt64))).toNat : Int) + (((i64 ((((x0 &&& (4294967295 : UInt64))).toNat : Int) * (((i64 (shrI .u64 ((x1).toNat : Int) 32))).toNat : Int)))).toNat : Int)))).toNat : Int) 32))).toNat : Int)))).toNat : Int))) rfl ?_
 refine xk hK11 ?_; clear hK11
 refine sr ?_; intro K12 hK12
 refine p_mv (v := .int .u64 (((x0).toNat : Int))) rfl ?_
 refine p_mv (v := .int .u64 (((x1).toNat : Int))) rfl ?_
 refine p_val (r_mul rfl rfl (i64_wrap _)) ?_
 refine p_as (v := .int .u64 ((((i64 (((x0).toNat : Int) * ((x1).toNat : Int)))).toNat : Int))) rfl ?_
 refine xk hK12 ?_; clear hK12
 refine wp_ret ?_
 obtain rfl := Option.some.inj hF
 refine e_2 rfl (q_tmp (v := .int .u64 ((((i64 ((((i64 ((((i64 ((((i64 (shrI .u64 ((x0).toNat : Int) 32))).toNat : Int) * (((i64 (shrI .u64 ((x1).toNat : Int) 32))).toNat : Int)))).toNat : Int) + (((i64 (shrI .u64 (((i64 ((((i64 ((((i64 (shrI .u64 ((x0).toNat : Int) 32))).toNat : Int) * (((x1 &&& (4294967295 : UInt64))).toNat : Int)))).toNat : Int) + (((i64 (shrI .u64 (((i64 ((((x0 &&& (4294967295 : UInt64))).toNat : Int) * (((x1 &&& (4294967295 : UInt64))).toNat : Int)))).toNat : Int) 32))).toNat : Int)))).toNat : Int) 32))).toNat : Int)))).toNat : Int) + (((i64 (shrI .u64 (((i64 (((((i64 ((((i64 ((((i64 (shrI .u64 ((x0).toNat : Int) 32))).toNat : Int) * (((x1 &&& (4294967295 : UInt64))).toNat : Int)))).toNat : Int) + (((i64 (shrI .u64 (((i64 ((((x0 &&& (4294967295 : UInt64))).toNat : Int) * (((x1 &&& (4294967295 : UInt64))).toNat : Int)))).toNat : Int) 32))).toNat : Int))) &&& (4294967295 : UInt64))).toNat : Int) + (((i64 ((((x0 &&& (4294967295 : UInt64))).toNat : Int) * (((i64 (shrI .u64 ((x1).toNat : Int) 32))).toNat : Int)))).toNat : Int)))).toNat : Int) 32))).toNat : Int)))).toNat : Int))) rfl) (q_tmp (v := .int .u64 ((((i64 (((x0).toNat : Int) * ((x1).toNat : Int)))).toNat : Int))) rfl) ?_
 exact ⟨rfl, H.toExt⟩
def math_bits_Mul_p (x0 : UInt64) (x1 : UInt64) : Option (UInt64 × UInt64) :=
  Option.bind (math_bits_Mul64_p x0 x1) fun y1 => some ((y1.1, y1.2))
theorem math_bits_Mul_c {S : Mem} {w : World} (hS : Sub S w) {x0 : UInt64} {x1 : UInt64} {r : UInt64 × UInt64} (hF : math_bits_Mul_p x0 x1 = some r) :
    Calls Try.prog 43 #[.int .u64 (((x0).toNat : Int)), .int .u64 (((x1).toNat : Int))] w fun e w' => e = .returned (.tuple #[.int .u64 (((r.1).toNat : Int)), .int .u64 (((r.2).toNat : Int))]) ∧ Ext w w' := by
 refine enter (n := 30) Try.func43 rfl rfl rfl ?_
 have H := HS.start hS
 unfold math_bits_Mul_p at hF
 refine sr ?_; intro K1 hK1
 refine p_as (v := .int .u64 (0)) rfl ?_
 refine p_as (v := .int .u64 (0)) rfl ?_
 refine xk hK1 ?_; clear hK1
 refine wp_seq_k ?_; intro K2 hK2
 refine c_false (t := false) rfl rfl ?_
 refine wp_skip ?_
 refine xn hK2 ?_; clear hK2
 refine sr ?_; intro K3 hK3
 refine p_mv (v := .int .u64 (((x0).toNat : Int))) rfl ?_
 refine p_mv (v := .int .u64 (((x1).toNat : Int))) rfl ?_
 obtain ⟨y1, e1, hF⟩ := bnd hF
 refine p_call (l := [.int .u64 (((x0).toNat : Int)), .int .u64 (((x1).toNat : Int))]) is73 rfl ?_
 refine (math_bits_Mul64_c H.sub e1).mono ?_; rintro _ w1 ⟨rfl, hx⟩; replace H := H.ext hx; clear hx
 refine p_mv (v := .tuple #[.int .u64 (((y1.1).toNat : Int)), .int .u64 (((y1.2).toNat : Int))]) rfl ?_
 refine p_val (r_extract (v := .int .u64 (((y1.1).toNat : Int))) rfl rfl) ?_
 refine p_val (r_extract (v := .int .u64 (((y1.2).toNat : Int))) rfl rfl) ?_
 refine p_as (v := .int .u64 (((y1.1).toNat : Int))) rfl ?_
 refine p_as (v := .int .u64 (((y1.2).toNat : Int))) rfl ?_
 refine xk hK3 ?_; clear hK3
 refine sr ?_; intro K4 hK4
 refine p_mv (v := .int .u64 (((y1.1).toNat : Int))) rfl ?_
 refine p_mv (v := .int .u64 (((y1.2).toNat : Int))) rfl ?_
 refine p_as (v := .int .u64 (((y1.1).toNat : Int))) rfl ?_
 refine p_as (v := .int .u64 (((y1.2).toNat : Int))) rfl ?_
 refine xk hK4 ?_; clear hK4
 refine wp_ret ?_
 obtain rfl := Option.some.inj hF
 refine e_2 rfl (q_tmp (v := .int .u64 (((y1.1).toNat : Int))) rfl) (q_tmp (v := .int .u64 (((y1.2).toNat : Int))) rfl) ?_
 exact ⟨rfl, H.toExt⟩
def bytes_Repeat_b0 (y1 : UInt64 × UInt64) (t1 : Int) (s1 : Int × (List UInt8)) : Option ((Int × (List UInt8)) ⊕ ((List UInt8))) :=
  bif decide (s1.1 < (w64 ((y1.2).toNat : Int))) then (Option.bind (subL s1.2 s1.1) fun y4 => Option.bind (subH s1.2 (bif decide (s1.1 ≤ t1) then s1.1 else t1)) fun y5 => some (.inl (((w64 (s1.1 + ((min (y5).length ((s1.2).length - (s1.1 : Int).toNat) : Nat) : Int))), (putB s1.2 ((s1.1 : Int).toNat) y5))))) else (some (.inr (s1.2)))
noncomputable def bytes_Repeat_p (x0 : List UInt8) (x1 : Int) : Option ((List UInt8)) :=
  bif (x1 == 0) then (some (([] : List UInt8))) else (bif decide (x1 < 0) then (none) else (Option.bind (math_bits_Mul_p (i64 ((x0).length : Int)) (i64 x1)) fun y1 => bif (bif decide ((0 : Int) < ((y1.1).toNat : Int)) then true else decide ((9223372036854775807 : Int) < ((y1.2).toNat : Int))) then (none) else (bif (((x0).length : Int) == 0) then (some (([] : List UInt8))) else (Option.bind (bif decide ((8192 : Int) < (w64 ((y1.2).toNat : Int))) then (Option.bind (chk (decide (((x0).length : Int) ≠ 0))) fun y2 => bif ((w64 ((w64 (Int.tdiv 8192 ((x0).length : Int))) * ((x0).length : Int))) == 0) then (some (((x0).length : Int))) else (some ((w64 ((w64 (Int.tdiv 8192 ((x0).length : Int))) * ((x0).length : Int)))))) else (some ((w64 ((y1.2).toNat : Int))))) (fun t1 => Option.bind (chk (decide (0 ≤ (w64 ((y1.2).toNat : Int))) && decide ((w64 ((y1.2).toNat : Int)) ≤ (LIM : Int)))) fun y3 => anyJ ((w64 ((y1.2).toNat : Int)) : Int).toNat fun jk1 => Option.bind (Option.bind (iter (bytes_Repeat_b0 y1 t1) ((((min (x0).length ((jk1).length - 0) : Nat) : Int), (putB jk1 0 x0)))) (fun e => some (e))) (fun t2 => some (t2)))))))
theorem bytes_Repeat_c {S : Mem} {w : World} (H : HS ⟨S, keysR [], w⟩ S w []) {v0_ : Value} {x0 : List UInt8} (h0_ : RdS S v0_ x0) {x1 : Int} {r : (List UInt8)} (hF : bytes_Repeat_p x0 x1 = some r) :
    Calls Try.prog 40 #[v0_, .int .i64 (x1)] w fun e w' => ∃ (S2 : Mem) (pv4 : Value) (pcs4 prs4 : List Value), e = .returned (pv4) ∧ HS ⟨S, keysR [], w⟩ S2 w' [.osl (pv4) (r).length 1 pcs4 prs4 5] ∧ RL S2 pcs4 r := by
 refine enter (n := 77) Try.func40 rfl rfl rfl ?_
 unfold bytes_Repeat_p at hF
 refine sr ?_; intro K1 hK1
 refine p_as (v := .slice none 0 0) rfl ?_
 refine xk hK1 ?_; clear hK1
 refine wp_seq_k ?_; intro K2 hK2
 refine sr ?_; intro K3 hK3
 refine p_mv (v := .int .i64 (x1)) rfl ?_
 refine p_val (r_eqlI rfl rfl) ?_
 refine xk hK3 ?_; clear hK3
 refine c_split (t := (x1 == 0)) rfl (fun hc1 => ?_) (fun hc1 => ?_)
 ·replace hF := cnd_t hF hc1
  refine sr ?_; intro K4 hK4
  have g1 : RL S ([] : List Value) ([] : List UInt8) := RL.nil
  refine p_of1 (a_bslice (N := 0) (vals := []) (l := ([] : List Value)) tn67 H rfl rfl rfl g1.len) ?_; clear H; intro w1 v1 H
  replace H : HS ⟨S, keysR [], w⟩ S w1 [.osl (v1) (([] : List UInt8)).length 1 ([] : List Value) [] 5] := H
  refine p_as (v := v1) rfl ?_
  refine xk hK4 ?_; clear hK4
  refine wp_ret ?_
  refine x_ret ?_
  obtain rfl := Option.some.inj hF
  refine e_1 rfl (q_tmp (v := v1) rfl) ?_
  replace H : HS ⟨S, keysR [], w⟩ S w1 [.osl (v1) (([] : List UInt8)).length 1 ([] : List Value) [] 5] := H
  exact ⟨_, _, _, _, rfl, H, g1⟩
 ·replace hF := cnd_f hF hc1
  refine wp_skip ?_
  refine xn hK2 ?_; clear hK2
  refine wp_seq_k ?_; intro K5 hK5
  refine sr ?_; intro K6 hK6
  refine p_mv (v := .int .i64 (x1)) rfl ?_
  refine p_val (r_lssI rfl rfl) ?_
  refine xk hK6 ?_; clear hK6
  refine c_split (t := decide (x1 < 0)) rfl (fun hc2 => ?_) (fun hc2 => ?_)
  ·replace hF := cnd_t hF hc2
   exact nomatch hF
  ·replace hF := cnd_f hF hc2
   refine wp_skip ?_
   refine xn hK5 ?_; clear hK5
   refine sr ?_; intro K7 hK7
   refine p_mv (v := v0_) rfl ?_
   refine p_val (r_lenR' u67 rfl h0_ H.sub) ?_
   refine p_val (r_conv u3 u94 rfl (i64_wrap _)) ?_
   refine p_mv (v := .int .i64 (x1)) rfl ?_
   refine p_val (r_conv u3 u94 rfl (i64_wrap _)) ?_
   obtain ⟨y1, e1, hF⟩ := bnd hF
   refine p_call (l := [.int .u64 ((((i64 ((x0).length : Int))).toNat : Int)), .int .u64 ((((i64 x1)).toNat : Int))]) is43 rfl ?_
   refine (math_bits_Mul_c H.sub e1).mono ?_; rintro _ w2 ⟨rfl, hx⟩; replace H := H.ext hx; clear hx
   refine p_mv (v := .tuple #[.int .u64 (((y1.1).toNat : Int)), .int .u64 (((y1.2).toNat : Int))]) rfl ?_
   refine p_val (r_extract (v := .int .u64 (((y1.1).toNat : Int))) rfl rfl) ?_
   refine p_val (r_extract (v := .int .u64 (((y1.2).toNat : Int))) rfl rfl) ?_
   refine p_as (v := .int .u64 (((y1.1).toNat : Int))) rfl ?_
   refine p_as (v := .int .u64 (((y1.2).toNat : Int))) rfl ?_
   refine xk hK7 ?_; clear hK7
   refine wp_seq_k ?_; intro K8 hK8
   refine sr ?_; intro K9 hK9
   refine p_mv (v := .int .u64 (((y1.1).toNat : Int))) rfl ?_
   refine p_val (r_gtrI rfl rfl) ?_
   refine p_mv (v := .bool (decide ((0 : Int) < ((y1.1).toNat : Int)))) rfl ?_
   refine nameL fun m1 k1 => ?_
   refine gs_at 3 fun K10 hK10 R2 hR2 => ?_
   have J1 : ∀ (m2 : FM), (∀ t, has [30, 31, 32] t = false → look m2 t = look m1 t) → look m2 32 = .bool ((bif decide ((0 : Int) < ((y1.1).toNat : Int)) then true else decide ((9223372036854775807 : Int) < ((y1.2).toNat : Int)))) → K10 m2 w2 := by
    intro m2 k2 q1
    have q2 : look m2 0 = v0_ := (k2 0 rfl).trans (k1 0)
    have q3 : look m2 6 = .int .u64 (((y1.2).toNat : Int)) := (k2 6 rfl).trans (k1 6)
    refine hK10 _ _ ?_; clear hK10 hR2
    refine xk hK9 ?_; clear hK9
    refine c_split (t := (bif decide ((0 : Int) < ((y1.1).toNat : Int)) then true else decide ((9223372036854775807 : Int) < ((y1.2).toNat : Int)))) q1 (fun hc3 => ?_) (fun hc3 => ?_)
    ·replace hF := cnd_t hF hc3
     exact nomatch hF
    ·replace hF := cnd_f hF hc3
     refine wp_skip ?_
     refine xn hK8 ?_; clear hK8
     refine sr ?_; intro K11 hK11
     refine p_mv q3 ?_
     refine p_val (r_conv (r := (w64 ((y1.2).toNat : Int))) u94 u3 rfl (rfl)) ?_
     refine p_as (v := .int .i64 ((w64 ((y1.2).toNat : Int)))) rfl ?_
     refine xk hK11 ?_; clear hK11
     refine wp_seq_k ?_; intro K12 hK12
     refine sr ?_; intro K13 hK13
     refine p_mv (v := v0_) q2 ?_
     refine p_val (r_lenR' u67 rfl h0_ H.sub) ?_
     refine p_val (r_eqlI rfl rfl) ?_
     refine xk hK13 ?_; clear hK13
     refine c_split (t := (((x0).length : Int) == 0)) rfl (fun hc4 => ?_) (fun hc4 => ?_)
     ·replace hF := cnd_t hF hc4
      refine sr ?_; intro K14 hK14
      have g2 : RL S ([] : List Value) ([] : List UInt8) := RL.nil
      refine p_of1 (a_bslice (N := 0) (vals := []) (l := ([] : List Value)) tn67 H rfl rfl rfl g2.len) ?_; clear H; intro w3 v2 H
      replace H : HS ⟨S, keysR [], w⟩ S w3 [.osl (v2) (([] : List UInt8)).length 1 ([] : List Value) [] 5] := H
      refine p_as (v := v2) rfl ?_
      refine xk hK14 ?_; clear hK14
      refine wp_ret ?_
      refine x_ret ?_
      obtain rfl := Option.some.inj hF
      refine e_1 rfl (q_tmp (v := v2) rfl) ?_
      replace H : HS ⟨S, keysR [], w⟩ S w3 [.osl (v2) (([] : List UInt8)).length 1 ([] : List Value) [] 5] := H
      exact ⟨_, _, _, _, rfl, H, g2⟩
     ·replace hF := cnd_f hF hc4
      refine wp_skip ?_
      refine xn hK12 ?_; clear hK12
      refine sr ?_; intro K15 hK15
      refine p_mv (v := .int .i64 ((w64 ((y1.2).toNat : Int)))) rfl ?_
      refine p_as (v := .int .i64 ((w64 ((y1.2).toNat : Int)))) rfl ?_
      refine xk hK15 ?_; clear hK15
      refine wp_seq_k ?_; intro K16 hK16
      refine nameF fun m3 k3 => ?_
      obtain ⟨t1, hE1, hF1⟩ := bnd hF
      have J3 : ∀ (m4 : FM) (w4 : World), (∀ t, has [8, 41, 42, 43, 44, 45, 46, 47, 48, 49, 50, 51, 52] t = false → look m4 t = look m3 t) → look m4 8 = .int .i64 (t1) → HS ⟨S, keysR [], w⟩ S w4 [] → K16 (fr 77 m4) w4 := by
       clear H; intro m4 w4 k4 q4 H
       have q5 : look m4 0 = v0_ := (k4 0 rfl).trans ((k3 0).trans q2)
       have q6 : look m4 7 = .int .i64 ((w64 ((y1.2).toNat : Int))) := (k4 7 rfl).trans (k3 7)
       refine hK16 _ _ ?_
       refine sr ?_; intro K20 hK20
       refine p_mv q6 ?_
       obtain ⟨y3, e3, hF1⟩ := bnd hF1
       refine p_of1 (a_mnz (ps := #[3]) (t := 67) (a := (w64 ((y1.2).toNat : Int))) Try.func70 (by kernel_rfl) (by kernel_rfl) (by kernel_rfl) (by kernel_rfl) u67 rfl H rfl (of_decide_eq_true (and_l (chk_some e3))) (of_decide_eq_true (and_r (chk_some e3)))) ?_; clear H; rintro w5 _ ⟨b1, c1, jk1, jr1, rfl, hjk1, H⟩
       replace hF1 := anyJ_some hF1 jk1 hjk1
       have g3 : RL S (u8s jk1) jk1 := RL.of_u8s _
       replace H : HS ⟨S, keysR [], w⟩ S w5 [.osl (sl b1 0 (jk1).length c1) (jk1).length 1 (u8s jk1) (u8s jr1) 5] := H
       refine p_mv q6 ?_
       refine p_mv q6 ?_
       refine p_val (r_sliceC (N := (jk1).length) u67 tsz5 rfl rfl rfl (by have h0_ := of_decide_eq_true (and_l (chk_some e3)); omega) (capOf H (k := 0) rfl)) ?_
       have H1 := H.recap (k := 0) rfl; clear H; have H := H1; clear H1
       replace H : HS ⟨S, keysR [], w⟩ S w5 [.osl (sl b1 0 (jk1).length (jk1).length) (jk1).length 1 (u8s jk1) (u8s jr1) 5] := H
       refine p_as (v := sl b1 0 (jk1).length (jk1).length) rfl ?_
       refine xk hK20 ?_; clear hK20
       refine sr ?_; intro K21 hK21
       refine p_mv (v := sl b1 0 (jk1).length (jk1).length) rfl ?_
       refine p_mv (v := v0_) q5 ?_
       refine p_of1 (a_copyO (k := 0) (p := 0) (xs := jk1) (ys := x0) u67 tsz5 H rfl g3 (Eq.trans rfl (HS.subAll H (k := 0) rfl).symm) (Nat.zero_le _) h0_ H.sub rfl) ?_; clear H; rintro w6 _ ⟨rfl, cs3, H, g4⟩
       replace H : HS ⟨S, keysR [], w⟩ S w6 [.osl (sl b1 0 (jk1).length (jk1).length) ((putB jk1 0 x0)).length 1 cs3 (u8s jr1) 5] := H
       refine p_as (v := .int .i64 (((min (x0).length ((jk1).length - 0) : Nat) : Int))) rfl ?_
       refine xk hK21 ?_; clear hK21
       refine wp_seq_k ?_; intro K22 hK22
       refine nameF fun m5 k5 => ?_
       obtain ⟨t2, hE2, hF2⟩ := bnd hF1
       have J2 : ∀ (cs6 rs2 : List Value) (m8 : FM) (w10 : World), (∀ t, has [10, 11, 61, 62, 63, 64, 65, 66, 67, 68, 69, 70, 71, 72, 73, 74, 75] t = false → look m8 t = look m5 t) → HS ⟨S, keysR [], w⟩ S w10 [.osl (sl b1 0 (jk1).length (jk1).length) (t2).length 1 cs6 rs2 5] → RL S cs6 t2 → K22 (fr 77 m8) w10 := by
        clear H; intro cs6 rs2 m8 w10 k9 H g9
        have q11 : look m8 9 = sl b1 0 (jk1).length (jk1).length := (k9 9 rfl).trans (k5 9)
        refine hK22 _ _ ?_
        refine sr ?_; intro K26 hK26
        refine p_mv (v := sl b1 0 (jk1).length (jk1).length) q11 ?_
        refine p_as (v := sl b1 0 (jk1).length (jk1).length) rfl ?_
        refine xk hK26 ?_; clear hK26
        refine wp_ret ?_
        obtain rfl := Option.some.inj hF2
        refine e_1 rfl (q_tmp (v := sl b1 0 (jk1).length (jk1).length) rfl) ?_
        replace H : HS ⟨S, keysR [], w⟩ S w10 [.osl (sl b1 0 (jk1).length (jk1).length) (t2).length 1 cs6 rs2 5] := H
        exact ⟨_, _, _, _, rfl, H, g9⟩
       refine wp_block ?_
       refine nameF fun m6 k6 => ?_
       obtain ⟨out1, hL1, hE3⟩ := bnd hE2
       replace H : HS ⟨S, keysR [], w⟩ S w6 [.osl (sl b1 0 (jk1).length (jk1).length) ((putB jk1 0 x0)).length 1 cs3 (u8s jr1) 5] := H
       refine loopI [10, 11, 61, 62, 63, 64, 65, 66, 67, 68, 69, 70, 71, 72, 73, 74, 75] (fun (s1 : Int × (List UInt8)) (m7 : FM) (w7 : World) => ∃ (cs4 rs1 : List Value), look m7 10 = .int .i64 (s1.1) ∧ HS ⟨S, keysR [], w⟩ S w7 [.osl (sl b1 0 (jk1).length (jk1).length) (s1.2).length 1 cs4 rs1 5] ∧ RL S cs4 s1.2) hL1 ⟨_, _, ((k6 10).trans (k5 10)), H, g4⟩ ?_
       clear H; intro k8 s1 m7 w7 k7 hI1 o3 hb1 hh1; obtain ⟨cs4, rs1, q7, H, g5⟩ := hI1
       have q8 : look m7 7 = .int .i64 ((w64 ((y1.2).toNat : Int))) := (k7 7 rfl).trans ((k6 7).trans ((k5 7).trans q6))
       have q9 : look m7 8 = .int .i64 (t1) := (k7 8 rfl).trans ((k6 8).trans ((k5 8).trans q4))
       have q10 : look m7 9 = sl b1 0 (jk1).length (jk1).length := (k7 9 rfl).trans ((k6 9).trans (k5 9))
       unfold bytes_Repeat_b0 at hb1
       refine wp_seq_k ?_; intro K23 hK23
       refine sr ?_; intro K24 hK24
       refine p_mv q7 ?_
       refine p_mv q8 ?_
       refine p_val (r_lssI rfl rfl) ?_
       refine xk hK24 ?_; clear hK24
       refine c_split (t := decide (s1.1 < (w64 ((y1.2).toNat : Int)))) rfl (fun hc7 => ?_) (fun hc7 => ?_)
       ·replace hb1 := cnd_t hb1 hc7
        refine wp_skip ?_
        refine xn hK23 ?_; clear hK23
        refine wp_block ?_
        refine sr ?_; intro K25 hK25
        refine p_mv q7 ?_
        refine p_mv q9 ?_
        refine p_val (r_min (r := (bif decide (s1.1 ≤ t1) then s1.1 else t1)) rfl rfl rfl) ?_
        refine p_as (v := .int .i64 ((bif decide (s1.1 ≤ t1) then s1.1 else t1))) rfl ?_
        refine xk hK25 ?_; clear hK25
        obtain ⟨y4, e4, hb1⟩ := bnd hb1
        obtain ⟨y5, e5, hb1⟩ := bnd hb1
        apply wp_region_ext 7 (kindsF []) rfl rfl (by kernel_rfl); intro vs1
        simp only [List.take_succ_cons, List.take_zero, List.drop_succ_cons, List.drop_zero]
        replace H := H.drew
        refine t_float (fun w => r_move q7) rfl rfl ?_
        refine t_v (fun w hx => r_move (v := sl b1 0 (jk1).length (jk1).length) q10) ?_
        refine t_v (fun w hx => r_move q7) ?_
        refine t_v (fun w hx => r_subL (p := (s1.1 : Int).toNat) u67 tsz5 rfl rfl (subL_some e4).1 (RdS.ofOwn (H.ext hx) (k := 0) rfl g5) (subL_some e4).2.1) ?_
        refine t_v (fun w hx => r_move (v := sl b1 0 (jk1).length (jk1).length) q10) ?_
        refine t_v (fun w hx => r_move (v := .int .i64 ((bif decide (s1.1 ≤ t1) then s1.1 else t1))) rfl) ?_
        refine t_v (fun w hx => r_subH (h := ((bif decide (s1.1 ≤ t1) then s1.1 else t1) : Int).toNat) u67 tsz5 rfl rfl (subH_some e5).1 (RdS.ofOwn (H.ext hx) (k := 0) rfl g5) (subH_some e5).2.1) ?_
        refine t_nil (fun w8 hx hF hA => ?_)
        replace H := H.ext hx; clear hx hF hA
        refine p_of1 (a_copyO (k := 0) (p := (s1.1 : Int).toNat) (xs := s1.2) (ys := y5) u67 tsz5 H rfl g5 rfl (subL_some e4).2.1 (RdS.subH (RdS.ofOwn H (k := 0) rfl g5) e5) (subMem _) rfl) ?_; clear H; rintro w9 _ ⟨rfl, cs5, H, g8⟩
        replace H : HS ⟨S, keysR [], w⟩ S w9 [.osl (sl b1 0 (jk1).length (jk1).length) ((putB s1.2 ((s1.1 : Int).toNat) y5)).length 1 cs5 rs1 5] := H
        refine p_val (r_addI rfl rfl) ?_
        refine p_as (v := .int .i64 ((w64 (s1.1 + ((min (y5).length ((s1.2).length - (s1.1 : Int).toNat) : Nat) : Int))))) rfl ?_
        refine wpList_nil ?_; refine on_norm ?_
        refine b_norm ?_
        refine x_norm ?_
        replace H : HS ⟨S, keysR [], w⟩ S w9 [.osl (sl b1 0 (jk1).length (jk1).length) ((putB s1.2 ((s1.1 : Int).toNat) y5)).length 1 cs5 rs1 5] := H
        obtain rfl := Option.some.inj hb1
        exact ⟨((w64 (s1.1 + ((min (y5).length ((s1.2).length - (s1.1 : Int).toNat) : Nat) : Int))), (putB s1.2 ((s1.1 : Int).toNat) y5)), _, rfl, (by (repeat (refine keep_cons rfl ?_)); refine keep_sub k7 rfl ?_; (repeat (refine keep_cons rfl ?_)); exact fun _ _ => rfl), ⟨_, _, rfl, H, g8⟩, hh1⟩
       ·replace hb1 := cnd_f hb1 hc7
        refine wp_exit ?_
        refine x_exit ?_
        refine x_exit ?_
        refine b_hit ?_
        refine x_norm ?_
        replace H : HS ⟨S, keysR [], w⟩ S w7 [.osl (sl b1 0 (jk1).length (jk1).length) (s1.2).length 1 cs4 rs1 5] := H
        obtain rfl := Option.some.inj hb1
        obtain rfl := Option.some.inj hh1
        obtain rfl := Option.some.inj hE3
        exact J2 _ _ _ _ (by (repeat (refine keep_cons rfl ?_)); refine keep_sub k7 rfl ?_; (repeat (refine keep_cons rfl ?_)); refine keep_name k6 ?_; (repeat (refine keep_cons rfl ?_)); exact fun _ _ => rfl) H g5
      refine sr ?_; intro K17 hK17
      refine p_mv (k3 8) ?_
      refine p_val (r_gtrI rfl rfl) ?_
      refine xk hK17 ?_; clear hK17
      refine c_split (t := decide ((8192 : Int) < (w64 ((y1.2).toNat : Int)))) rfl (fun hc5 => ?_) (fun hc5 => ?_)
      ·replace hE1 := cnd_t hE1 hc5
       refine sr ?_; intro K18 hK18
       refine p_mv (v := v0_) ((k3 0).trans q2) ?_
       refine p_val (r_lenR' u67 rfl h0_ H.sub) ?_
       obtain ⟨y2, e2, hE1⟩ := bnd hE1
       refine p_val (r_quo (r := w64 (Int.tdiv 8192 ((x0).length : Int))) rfl rfl (of_decide_eq_true (chk_some e2)) rfl) ?_
       refine p_mv (v := v0_) ((k3 0).trans q2) ?_
       refine p_val (r_lenR' u67 rfl h0_ H.sub) ?_
       refine p_val (r_mulI rfl rfl) ?_
       refine p_as (v := .int .i64 ((w64 ((w64 (Int.tdiv 8192 ((x0).length : Int))) * ((x0).length : Int))))) rfl ?_
       refine xk hK18 ?_; clear hK18
       refine sr ?_; intro K19 hK19
       refine p_mv (v := .int .i64 ((w64 ((w64 (Int.tdiv 8192 ((x0).length : Int))) * ((x0).length : Int))))) rfl ?_
       refine p_val (r_eqlI rfl rfl) ?_
       refine xk hK19 ?_; clear hK19
       refine c_split (t := ((w64 ((w64 (Int.tdiv 8192 ((x0).length : Int))) * ((x0).length : Int))) == 0)) rfl (fun hc6 => ?_) (fun hc6 => ?_)
       ·replace hE1 := cnd_t hE1 hc6
        refine wp_region_lit ?_
        refine p_mv (v := v0_) ((k3 0).trans q2) ?_
        refine p_val (r_lenR' u67 rfl h0_ H.sub) ?_
        refine p_as (v := .int .i64 (((x0).length : Int))) rfl ?_
        refine wpList_nil ?_
        refine x_norm ?_
        replace H : HS ⟨S, keysR [], w⟩ S w2 [] := H
        obtain rfl := Option.some.inj hE1
        exact J3 _ _ (by (repeat (refine keep_cons rfl ?_)); exact fun _ _ => rfl) rfl H
       ·replace hE1 := cnd_f hE1 hc6
        refine wp_skip ?_
        refine x_norm ?_
        replace H : HS ⟨S, keysR [], w⟩ S w2 [] := H
        obtain rfl := Option.some.inj hE1
        exact J3 _ _ (by (repeat (refine keep_cons rfl ?_)); exact fun _ _ => rfl) rfl H
      ·replace hE1 := cnd_f hE1 hc5
       refine wp_skip ?_
       refine x_norm ?_
       replace H : HS ⟨S, keysR [], w⟩ S w2 [] := H
       obtain rfl := Option.some.inj hE1
       exact J3 _ _ (by (repeat (refine keep_cons rfl ?_)); exact fun _ _ => rfl) (k3 8) H
   refine p_gs (j := 2) (gvl_at rfl rfl (k1 29)) (fun hb2 => ?_) (fun hb2 => ?_)
   ·skip
    refine p_skip (gvl_at rfl rfl (k1 29)) hb2 ?_
    rw [put_fr]
    refine p_skip (gvl_at rfl rfl (k1 29)) hb2 ?_
    rw [put_fr]
    refine p_val (r_pickt (v := .bool (true)) (k1 29) hb2 rfl) ?_
    refine hR2 _ _ ?_
    exact J1 _ (by (repeat (refine keep_cons rfl ?_)); exact fun _ _ => rfl) (show (.bool (true) : Value) = .bool ((bif decide ((0 : Int) < ((y1.1).toNat : Int)) then true else decide ((9223372036854775807 : Int) < ((y1.2).toNat : Int)))) from congrArg Value.bool (by simp only [hb2, cond_true, cond_false]))
   ·skip
    refine p_want (gvl_at rfl rfl (k1 29)) hb2 ?_
    refine p_mv (k1 6) ?_
    refine p_want (gvl_at rfl rfl (k1 29)) hb2 ?_
    refine p_val (r_gtrI rfl rfl) ?_
    refine p_val (r_pickf (v := .bool (decide ((9223372036854775807 : Int) < ((y1.2).toNat : Int)))) (k1 29) hb2 rfl) ?_
    refine hR2 _ _ ?_
    exact J1 _ (by (repeat (refine keep_cons rfl ?_)); exact fun _ _ => rfl) (show (.bool (decide ((9223372036854775807 : Int) < ((y1.2).toNat : Int))) : Value) = .bool ((bif decide ((0 : Int) < ((y1.1).toNat : Int)) then true else decide ((9223372036854775807 : Int) < ((y1.2).toNat : Int)))) from congrArg Value.bool (by simp only [hb2, cond_true, cond_false]))
def hash_Mac_b0 (t1 : (List UInt8)) (s1 : Int × (List UInt8) × (List UInt8)) : Option ((Int × (List UInt8) × (List UInt8)) ⊕ ((List UInt8) × (List UInt8))) :=
  bif decide (s1.1 < ((t1).length : Int)) then (Option.bind (idx s1.2.2 s1.1) fun y4 => Option.bind (idx t1 s1.1) fun y5 => Option.bind (idx s1.2.2 s1.1) fun y6 => Option.bind (setL s1.2.2 (s1.1 : Int) (y4 ^^^ y5)) fun y7 => Option.bind (idx s1.2.1 s1.1) fun y8 => Option.bind (idx t1 s1.1) fun y9 => Option.bind (idx s1.2.1 s1.1) fun y10 => Option.bind (setL s1.2.1 (s1.1 : Int) (y8 ^^^ y9)) fun y11 => some (.inl (((w64 (s1.1 + 1)), y11, y7)))) else (some (.inr ((s1.2.1, s1.2.2))))
noncomputable def hash_Mac_p (x0 : List UInt8) (x1 : List UInt8) : Option ((List UInt8)) :=
  Option.bind (bif decide ((64 : Int) < ((x0).length : Int)) then (Option.bind (hash_Sum_p x0) fun y1 => some (y1)) else (some (x0))) (fun t1 => Option.bind (bytes_Repeat_p ([(54 : UInt8)] : List UInt8) 64) fun y2 => Option.bind (bytes_Repeat_p ([(92 : UInt8)] : List UInt8) 64) fun y3 => Option.bind (Option.bind (iter (hash_Mac_b0 t1) ((0, y3, y2))) (fun e => some (e))) (fun t2 => Option.bind (app t2.2 x1) fun y12 => Option.bind (hash_Sum_p y12) fun y13 => Option.bind (app t2.1 y13) fun y14 => Option.bind (hash_Sum_p y14) fun y15 => some (y15)))
theorem hash_Mac_c {S : Mem} {w : World} (hS : Sub S w) {x0 : List UInt8} {x1 : List UInt8} {r : (List UInt8)} (hF : hash_Mac_p x0 x1 = some r) :
    Calls Try.prog 15 #[str (x0), str (x1)] w fun e w' => e = .returned (str (r)) ∧ Ext w w' := by
 refine enter (n := 50) Try.func15 rfl rfl rfl ?_
 have H := HS.start hS
 unfold hash_Mac_p at hF
 refine sr ?_; intro K1 hK1
 refine p_as (v := str (([] : List UInt8))) rfl ?_
 refine xk hK1 ?_; clear hK1
 refine wp_seq_k ?_; intro K2 hK2
 refine nameF fun m1 k1 => ?_
 obtain ⟨t1, hE1, hF1⟩ := bnd hF
 have J2 : ∀ (m2 : FM) (w2 : World), (∀ t, has [0, 8, 9, 10, 11, 12] t = false → look m2 t = look m1 t) → look m2 0 = str (t1) → HS ⟨S, [], w⟩ S w2 [] → K2 (fr 50 m2) w2 := by
  clear H; intro m2 w2 k2 q1 H
  have q2 : look m2 1 = str (x1) := (k2 1 rfl).trans (k1 1)
  refine hK2 _ _ ?_
  refine sr ?_; intro K4 hK4
  have g1 : RL S ([Value.int .u8 (54)] ++ ([] : List Value)) ([(54 : UInt8)] : List UInt8) := (RL.cons (rpU8c (x := (54 : UInt8)) rfl) RL.nil)
  refine p_of1 (a_bslice (N := 1) (vals := [(0, .int .u8 (54))]) (l := ([Value.int .u8 (54)] ++ ([] : List Value))) tn67 H rfl rfl rfl g1.len) ?_; clear H; intro w3 v1 H
  generalize ([Value.int .u8 (54)] ++ ([] : List Value)) = cs1 at H g1
  replace H : HS ⟨S, [], w⟩ S w3 [.osl (v1) (([(54 : UInt8)] : List UInt8)).length 1 cs1 [] 5] := H
  obtain ⟨S1, hle1, g2, H1⟩ := H.fixX (k := 0) rfl g1; clear H; have H := H1; clear H1
  replace H : HS ⟨S, [], w⟩ S1 w3 [] := H
  obtain ⟨y2, e2, hF1⟩ := bnd hF1
  refine p_call (l := [v1, .int .i64 (64)]) is40 rfl ?_
  refine (bytes_Repeat_c (H.hand [] rfl) g2 e2).mono ?_; rintro _ w4 ⟨S2, pv1, pcs1, prs1, rfl, H2, pg1⟩
  obtain ⟨H1, hle2⟩ := H.frame [] [] rfl H2; clear H H2; have H := H1; clear H1
  replace g2 := RdS.mono g2 hle2
  replace H : HS ⟨S, [], w⟩ S2 w4 [.osl (pv1) (y2).length 1 pcs1 prs1 5] := H
  have g3 : RL S2 ([Value.int .u8 (92)] ++ ([] : List Value)) ([(92 : UInt8)] : List UInt8) := (RL.cons (rpU8c (x := (92 : UInt8)) rfl) RL.nil)
  refine p_of1 (a_bslice (N := 1) (vals := [(0, .int .u8 (92))]) (l := ([Value.int .u8 (92)] ++ ([] : List Value))) tn67 H rfl rfl rfl g3.len) ?_; clear H; intro w5 v2 H
  generalize ([Value.int .u8 (92)] ++ ([] : List Value)) = cs2 at H g3
  replace H : HS ⟨S, [], w⟩ S2 w5 [.osl (v2) (([(92 : UInt8)] : List UInt8)).length 1 cs2 [] 5, .osl (pv1) (y2).length 1 pcs1 prs1 5] := H
  obtain ⟨S3, hle3, g4, H1⟩ := H.fixX (k := 0) rfl g3; clear H; have H := H1; clear H1
  replace pg1 := RL.mono pg1 hle3
  replace H : HS ⟨S, [], w⟩ S3 w5 [.osl (pv1) (y2).length 1 pcs1 prs1 5] := H
  obtain ⟨y3, e3, hF1⟩ := bnd hF1
  refine p_call (l := [v2, .int .i64 (64)]) is40 rfl ?_
  refine (bytes_Repeat_c (H.hand [] rfl) g4 e3).mono ?_; rintro _ w6 ⟨S4, pv2, pcs2, prs2, rfl, H2, pg2⟩
  obtain ⟨H1, hle4⟩ := H.frame [] [0] rfl H2; clear H H2; have H := H1; clear H1
  replace pg1 := RL.mono pg1 hle4
  replace g4 := RdS.mono g4 hle4
  replace H : HS ⟨S, [], w⟩ S4 w6 [.osl (pv2) (y3).length 1 pcs2 prs2 5, .osl (pv1) (y2).length 1 pcs1 prs1 5] := H
  refine p_as (v := pv1) rfl ?_
  refine p_as (v := pv2) rfl ?_
  refine xk hK4 ?_; clear hK4
  refine wp_seq_k ?_; intro K5 hK5
  refine nameF fun m3 k3 => ?_
  obtain ⟨t2, hE2, hF2⟩ := bnd hF1
  have J1 : ∀ (cs9 rs3 : List Value) (cs10 rs4 : List Value) (m6 : FM) (w12 : World), (∀ t, has [7, 17, 18, 19, 20, 21, 22, 23, 24, 25, 26, 27, 28, 29, 30, 31, 32, 33, 34, 35, 36, 37, 38, 39, 40] t = false → look m6 t = look m3 t) → HS ⟨S, [], w⟩ S4 w12 [.osl (pv2) (t2.1).length 1 cs9 rs3 5, .osl (pv1) (t2.2).length 1 cs10 rs4 5] → RL S4 cs9 t2.1 → RL S4 cs10 t2.2 → K5 (fr 50 m6) w12 := by
   clear H; intro cs9 rs3 cs10 rs4 m6 w12 k7 H g9 g10
   have q9 : look m6 1 = str (x1) := (k7 1 rfl).trans ((k3 1).trans q2)
   have q10 : look m6 5 = pv1 := (k7 5 rfl).trans (k3 5)
   have q11 : look m6 6 = pv2 := (k7 6 rfl).trans (k3 6)
   refine hK5 _ _ ?_
   refine wp_seq_k ?_; intro K12 hK12
   obtain ⟨y12, e12, hF2⟩ := bnd hF2
   obtain ⟨y13, e13, hF2⟩ := bnd hF2
   obtain ⟨y14, e14, hF2⟩ := bnd hF2
   obtain ⟨y15, e15, hF2⟩ := bnd hF2
   apply wp_region_ext 9 (kindsF [(6, .inl (str (y13))), (8, .inl (str (y15)))]) rfl rfl (by kernel_rfl); intro vs3
   simp only [List.take_succ_cons, List.take_zero, List.drop_succ_cons, List.drop_zero]
   replace H := H.drew
   refine t_v (fun w hx => r_move (v := pv2) q11) ?_
   refine t_v (fun w hx => r_strO u67 u5 u9 rfl (H.ext hx) (k := 0) rfl g9) ?_
   refine t_v (fun w hx => r_move (v := pv1) q10) ?_
   refine t_v (fun w hx => r_strO u67 u5 u9 rfl (H.ext hx) (k := 1) rfl g10) ?_
   refine t_v (fun w hx => r_move q9) ?_
   refine t_v (fun w hx => r_cat (r := y12) rfl rfl (by have := (app_some e12).1; omega) (app_some e12).2) ?_
   refine t_call (l := [str (y12)]) rfl rfl is39 rfl (fun w hx hF => (hash_Sum_c (H.ext hx).sub e13).mono (fun _ _ ⟨he, hx⟩ => ⟨he, hx⟩)) ?_
   refine t_v (fun w hx => r_cat (r := y14) rfl rfl (by have := (app_some e14).1; omega) (app_some e14).2) ?_
   refine t_call (l := [str (y14)]) rfl rfl is39 rfl (fun w hx hF => (hash_Sum_c (H.ext hx).sub e15).mono (fun _ _ ⟨he, hx⟩ => ⟨he, hx⟩)) ?_
   refine t_nil (fun w13 hx hF hA => ?_)
   replace H := H.ext hx; clear hx hF hA
   refine p_as (v := str (y15)) rfl ?_
   refine wpList_nil ?_; refine on_norm ?_
   refine xn hK12 ?_; clear hK12
   refine wp_ret ?_
   obtain rfl := Option.some.inj hF2
   refine e_1 rfl (q_tmp (v := str (y15)) rfl) ?_
   exact ⟨rfl, H.toExt⟩
  refine sr ?_; intro K6 hK6
  refine p_mv ((k3 0).trans q1) ?_
  refine p_val (r_lenT (N := (t1).length) u9 rfl rfl) ?_
  refine p_mv (v := .int .i64 (0)) rfl ?_
  refine xk hK6 ?_; clear hK6
  refine wp_block ?_
  refine nameF fun m4 k4 => ?_
  obtain ⟨out1, hL1, hE3⟩ := bnd hE2
  replace H : HS ⟨S, [], w⟩ S4 w6 [.osl (pv2) (y3).length 1 pcs2 prs2 5, .osl (pv1) (y2).length 1 pcs1 prs1 5] := H
  refine loopI [7, 19, 20, 21, 22, 23, 24, 25, 26, 27, 28, 29, 30, 31, 32, 33, 34, 35, 36, 37, 38, 39, 40] (fun (s1 : Int × (List UInt8) × (List UInt8)) (m5 : FM) (w7 : World) => ∃ (cs3 rs1 : List Value) (cs4 rs2 : List Value), look m5 19 = .int .i64 (s1.1) ∧ HS ⟨S, [], w⟩ S4 w7 [.osl (pv2) (s1.2.1).length 1 cs3 rs1 5, .osl (pv1) (s1.2.2).length 1 cs4 rs2 5] ∧ RL S4 cs3 s1.2.1 ∧ RL S4 cs4 s1.2.2) hL1 ⟨_, _, _, _, (k4 19), H, pg2, pg1⟩ ?_
  clear H; intro k6 s1 m5 w7 k5 hI1 o3 hb1 hh1; obtain ⟨cs3, rs1, cs4, rs2, q3, H, g5, g6⟩ := hI1
  have q4 : look m5 1 = str (x1) := (k5 1 rfl).trans ((k4 1).trans ((k3 1).trans q2))
  have q5 : look m5 0 = str (t1) := (k5 0 rfl).trans ((k4 0).trans ((k3 0).trans q1))
  have q6 : look m5 5 = pv1 := (k5 5 rfl).trans ((k4 5).trans (k3 5))
  have q7 : look m5 6 = pv2 := (k5 6 rfl).trans ((k4 6).trans (k3 6))
  have q8 : look m5 18 = .int .i64 (((t1).length : Int)) := (k5 18 rfl).trans (k4 18)
  unfold hash_Mac_b0 at hb1
  refine sr ?_; intro K7 hK7
  refine p_val (r_lssI q3 q8) ?_
  refine xk hK7 ?_; clear hK7
  refine wp_seq_k ?_; intro K8 hK8
  refine c_split (t := decide (s1.1 < ((t1).length : Int))) rfl (fun hc2 => ?_) (fun hc2 => ?_)
  ·replace hb1 := cnd_t hb1 hc2
   refine wp_skip ?_
   refine xn hK8 ?_; clear hK8
   refine wp_seq_k ?_; intro K9 hK9
   refine wp_block ?_
   refine sr ?_; intro K10 hK10
   refine p_mv q3 ?_
   refine p_as (v := .int .i64 (s1.1)) rfl ?_
   refine xk hK10 ?_; clear hK10
   refine wp_seq_k ?_; intro K11 hK11
   obtain ⟨y4, e4, hb1⟩ := bnd hb1
   obtain ⟨b1, c1, hv1⟩ := H.ownAt (k := 1) rfl (idx_lt e4)
   subst hv1
   have hr1 := RL.get g6 (idx_some e4).2; generalize hghr1 : piece cs4 _ _ = cs5 at hr1
   obtain rfl := elU8 hr1
   obtain ⟨y5, e5, hb1⟩ := bnd hb1
   obtain ⟨y6, e6, hb1⟩ := bnd hb1
   apply wp_region_ext 9 (kindsF []) rfl rfl (by kernel_rfl); intro vs1
   simp only [List.take_succ_cons, List.take_zero, List.drop_succ_cons, List.drop_zero]
   replace H := H.drew
   refine t_v (fun w hx => r_move (v := (sl b1 0 (s1.2.2).length c1)) q6) ?_
   refine t_v (fun w hx => r_move (v := .int .i64 (s1.1)) rfl) ?_
   refine t_v (fun w hx => r_addrV (i := (s1.1 : Int).toNat) u67 tsz5 rfl rfl rfl (idx_some e4).1 (idx_lt e4)) ?_
   refine t_v (fun w hx => o_load1 (v := .int .u8 (((y4).toNat : Int))) to5 (H.ext hx) (k := 1) rfl rfl (idx_lt e4) hghr1) ?_
   refine t_v (fun w hx => r_move q5) ?_
   refine t_v (fun w hx => r_move (v := .int .i64 (s1.1)) rfl) ?_
   refine t_v (fun w hx => r_idxT (i := (s1.1 : Int).toNat) (u := y5) u9 rfl rfl (idx_some e5).1 (idx_some e5).2) ?_
   refine t_v (fun w hx => r_bits (bo := .xor) (by simp) rfl rfl (i8_xor _ _)) ?_
   refine t_v (fun w hx => r_addrV (i := (s1.1 : Int).toNat) u67 tsz5 rfl (HS.ownV H (k := 1) rfl) rfl (idx_some e6).1 (idx_lt e6)) ?_
   refine t_nil (fun w8 hx hF hA => ?_)
   replace H := H.ext hx; clear hx hF hA
   obtain ⟨y7, e7, hb1⟩ := bnd hb1
   refine p_ofs (a_storeX (k := 1) (v := .int .u8 ((((y4 ^^^ y5)).toNat : Int))) (l := [Value.int .u8 ((((y4 ^^^ y5)).toNat : Int))]) tsz5 rfl H rfl g6 rfl rfl (cells_one rfl) rpU8 e7) ?_; clear H; rintro w9 ⟨cs6, H, g7⟩
   replace H : HS ⟨S, [], w⟩ S4 w9 [.osl (pv2) (s1.2.1).length 1 cs3 rs1 5, .osl (sl b1 0 (s1.2.2).length c1) (y7).length 1 cs6 rs2 5] := H
   refine wpList_nil ?_; refine on_norm ?_
   refine xn hK11 ?_; clear hK11
   obtain ⟨y8, e8, hb1⟩ := bnd hb1
   obtain ⟨b3, c3, hv3⟩ := H.ownAt (k := 0) rfl (idx_lt e8)
   subst hv3
   have hr2 := RL.get g5 (idx_some e8).2; generalize hghr2 : piece cs3 _ _ = cs7 at hr2
   obtain rfl := elU8 hr2
   obtain ⟨y9, e9, hb1⟩ := bnd hb1
   obtain ⟨y10, e10, hb1⟩ := bnd hb1
   apply wp_region_ext 9 (kindsF []) rfl rfl (by kernel_rfl); intro vs2
   simp only [List.take_succ_cons, List.take_zero, List.drop_succ_cons, List.drop_zero]
   replace H := H.drew
   refine t_v (fun w hx => r_move (v := (sl b3 0 (s1.2.1).length c3)) q7) ?_
   refine t_v (fun w hx => r_move (v := .int .i64 (s1.1)) rfl) ?_
   refine t_v (fun w hx => r_addrV (i := (s1.1 : Int).toNat) u67 tsz5 rfl rfl rfl (idx_some e8).1 (idx_lt e8)) ?_
   refine t_v (fun w hx => o_load1 (v := .int .u8 (((y8).toNat : Int))) to5 (H.ext hx) (k := 0) rfl rfl (idx_lt e8) hghr2) ?_
   refine t_v (fun w hx => r_move q5) ?_
   refine t_v (fun w hx => r_move (v := .int .i64 (s1.1)) rfl) ?_
   refine t_v (fun w hx => r_idxT (i := (s1.1 : Int).toNat) (u := y9) u9 rfl rfl (idx_some e9).1 (idx_some e9).2) ?_
   refine t_v (fun w hx => r_bits (bo := .xor) (by simp) rfl rfl (i8_xor _ _)) ?_
   refine t_v (fun w hx => r_addrV (i := (s1.1 : Int).toNat) u67 tsz5 rfl (HS.ownV H (k := 0) rfl) rfl (idx_some e10).1 (idx_lt e10)) ?_
   refine t_nil (fun w10 hx hF hA => ?_)
   replace H := H.ext hx; clear hx hF hA
   obtain ⟨y11, e11, hb1⟩ := bnd hb1
   refine p_ofs (a_storeX (k := 0) (v := .int .u8 ((((y8 ^^^ y9)).toNat : Int))) (l := [Value.int .u8 ((((y8 ^^^ y9)).toNat : Int))]) tsz5 rfl H rfl g5 rfl rfl (cells_one rfl) rpU8 e11) ?_; clear H; rintro w11 ⟨cs8, H, g8⟩
   replace H : HS ⟨S, [], w⟩ S4 w11 [.osl (sl b3 0 (s1.2.1).length c3) (y11).length 1 cs8 rs1 5, .osl (sl b1 0 (s1.2.2).length c1) (y7).length 1 cs6 rs2 5] := H
   refine wpList_nil ?_; refine on_norm ?_
   refine b_norm ?_
   refine xn hK9 ?_; clear hK9
   refine wp_region_lit ?_
   refine p_val (r_addI q3 rfl) ?_
   refine p_mv (v := .int .i64 ((w64 (s1.1 + 1)))) rfl ?_
   refine wpList_nil ?_
   refine x_norm ?_
   replace H : HS ⟨S, [], w⟩ S4 w11 [.osl (sl b3 0 (s1.2.1).length c3) (y11).length 1 cs8 rs1 5, .osl (sl b1 0 (s1.2.2).length c1) (y7).length 1 cs6 rs2 5] := H
   obtain rfl := Option.some.inj hb1
   exact ⟨((w64 (s1.1 + 1)), y11, y7), _, rfl, (by (repeat (refine keep_cons rfl ?_)); refine keep_sub k5 rfl ?_; (repeat (refine keep_cons rfl ?_)); exact fun _ _ => rfl), ⟨_, _, _, _, rfl, H, g8, g7⟩, hh1⟩
  ·replace hb1 := cnd_f hb1 hc2
   refine wp_exit ?_
   refine x_exit ?_
   refine x_exit ?_
   refine b_hit ?_
   refine x_norm ?_
   replace H : HS ⟨S, [], w⟩ S4 w7 [.osl (pv2) (s1.2.1).length 1 cs3 rs1 5, .osl (pv1) (s1.2.2).length 1 cs4 rs2 5] := H
   obtain rfl := Option.some.inj hb1
   obtain rfl := Option.some.inj hh1
   obtain rfl := Option.some.inj hE3
   exact J1 _ _ _ _ _ _ (by (repeat (refine keep_cons rfl ?_)); refine keep_sub k5 rfl ?_; (repeat (refine keep_cons rfl ?_)); refine keep_name k4 ?_; (repeat (refine keep_cons rfl ?_)); exact fun _ _ => rfl) H g5 g6
 refine sr ?_; intro K3 hK3
 refine p_mv (k1 0) ?_
 refine p_val (r_lenT (N := (x0).length) u9 rfl rfl) ?_
 refine p_val (r_gtrI rfl rfl) ?_
 refine xk hK3 ?_; clear hK3
 refine c_split (t := decide ((64 : Int) < ((x0).length : Int))) rfl (fun hc1 => ?_) (fun hc1 => ?_)
 ·replace hE1 := cnd_t hE1 hc1
  refine wp_region_lit ?_
  refine p_mv (k1 0) ?_
  obtain ⟨y1, e1, hE1⟩ := bnd hE1
  refine p_call (l := [str (x0)]) is39 rfl ?_
  refine (hash_Sum_c H.sub e1).mono ?_; rintro _ w1 ⟨rfl, hx⟩; replace H := H.ext hx; clear hx
  refine p_as (v := str (y1)) rfl ?_
  refine wpList_nil ?_
  refine x_norm ?_
  replace H : HS ⟨S, [], w⟩ S w1 [] := H
  obtain rfl := Option.some.inj hE1
  exact J2 _ _ (by (repeat (refine keep_cons rfl ?_)); exact fun _ _ => rfl) rfl H
 ·replace hE1 := cnd_f hE1 hc1
  refine wp_skip ?_
  refine x_norm ?_
  replace H : HS ⟨S, [], w⟩ S w [] := H
  obtain rfl := Option.some.inj hE1
  exact J2 _ _ (by (repeat (refine keep_cons rfl ?_)); exact fun _ _ => rfl) (k1 0) H
end Go.Proofs.Ytmbcolbbekbccaa
