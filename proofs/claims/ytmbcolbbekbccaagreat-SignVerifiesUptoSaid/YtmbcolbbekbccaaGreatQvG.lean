/- What some functions compute, and that they do. What more calls of packages field, curve and strings compute, over numbers in words. strings.Builder: what its methods do to a builder of the call's own. Conditions: as each theorem says. -/
import Derived.Test.YtmbcolbbekbccaaGreatRows
import Derived.Lib.Builder
import Derived.Lib.UnsafeStr
import Derived.LaidEql
import Derived.Laws.Externs
import Derived.Test.YtmbcolbbekbccaaGreatQvF
namespace Go.Proofs.YtmbcolbbekbccaaGreat
open Go Go.RowKit
attribute [local irreducible] wpList wpT Code.wp Calls Code.rounds
theorem to5 : TOne Tryz.prog 5 := ⟨fun _ => by kernel_rfl, fun _ => by kernel_rfl⟩
theorem is87 : IsFn Tryz.prog 87 := isFn Tryz.func87
theorem is89 : IsFn Tryz.prog 89 := isFn Tryz.func89
theorem is95 : IsFn Tryz.prog 95 := isFn Tryz.func95
def math_bits_Mul64_p (x0 : UInt64) (x1 : UInt64) : Option (UInt64 × UInt64) :=
  some (((i64 ((((i64 ((((i64 ((((i64 (shrI .u64 ((x0).toNat : Int) 32))).toNat : Int) * (((i64 (shrI .u64 ((x1).toNat : Int) 32))).toNat : Int)))).toNat : Int) + (((i64 (shrI .u64 (((i64 ((((i64 ((((i64 (shrI .u64 ((x0).toNat : Int) 32))).toNat : Int) * (((x1 &&& (4294967295 : UInt64))).toNat : Int)))).toNat : Int) + (((i64 (shrI .u64 (((i64 ((((x0 &&& (4294967295 : UInt64))).toNat : Int) * (((x1 &&& (4294967295 : UInt64))).toNat : Int)))).toNat : Int) 32))).toNat : Int)))).toNat : Int) 32))).toNat : Int)))).toNat : Int) + (((i64 (shrI .u64 (((i64 (((((i64 ((((i64 ((((i64 (shrI .u64 ((x0).toNat : Int) 32))).toNat : Int) * (((x1 &&& (4294967295 : UInt64))).toNat : Int)))).toNat : Int) + (((i64 (shrI .u64 (((i64 ((((x0 &&& (4294967295 : UInt64))).toNat : Int) * (((x1 &&& (4294967295 : UInt64))).toNat : Int)))).toNat : Int) 32))).toNat : Int))) &&& (4294967295 : UInt64))).toNat : Int) + (((i64 ((((x0 &&& (4294967295 : UInt64))).toNat : Int) * (((i64 (shrI .u64 ((x1).toNat : Int) 32))).toNat : Int)))).toNat : Int)))).toNat : Int) 32))).toNat : Int))), (i64 (((x0).toNat : Int) * ((x1).toNat : Int)))))
theorem math_bits_Mul64_c {S : Mem} {w : World} (hS : Sub S w) {x0 : UInt64} {x1 : UInt64} {r : UInt64 × UInt64} (hF : math_bits_Mul64_p x0 x1 = some r) :
    Calls Tryz.prog 139 #[.int .u64 (((x0).toNat : Int)), .int .u64 (((x1).toNat : Int))] w fun e w' => e = .returned (.tuple #[.int .u64 (((r.1).toNat : Int)), .int .u64 (((r.2).toNat : Int))]) ∧ Ext w w' := by
 refine enter (n := 51) Tryz.func139 rfl rfl rfl ?_
 have H := HS.start hS
 unfold math_bits_Mul64_p at hF
 refine sr fun K1 hK1 => asI rfl <| asI rfl <| xk hK1 <| sr fun K2 hK2 => mvI rfl <| p_val (r_bits (bo := .and) (by simp) rfl rfl (i64_and _ (4294967295 : UInt64))) <| asI rfl <| xk hK2 ?_
 refine sr fun K3 hK3 => mvI rfl <| p_val (r_shr rfl rfl (by decide) (i64_shr _ _)) <| asI rfl <| xk hK3 <| sr fun K4 hK4 => mvI rfl <| p_val (r_bits (bo := .and) (by simp) rfl rfl (i64_and _ (4294967295 : UInt64))) <| asI rfl ?_
 refine xk hK4 <| sr fun K5 hK5 => mvI rfl <| p_val (r_shr rfl rfl (by decide) (i64_shr _ _)) <| asI rfl <| xk hK5 <| sr fun K6 hK6 => mvI rfl <| mvI rfl ?_
 refine p_val (r_mul rfl rfl (i64_wrap _)) <| asI rfl <| xk hK6 <| sr fun K7 hK7 => mvI rfl <| mvI rfl <| p_val (r_mul rfl rfl (i64_wrap _)) <| mvI rfl <| p_val (r_shr rfl rfl (by decide) (i64_shr _ _)) ?_
 refine p_val (r_add rfl rfl (i64_wrap _)) <| asI rfl <| xk hK7 <| sr fun K8 hK8 => mvI rfl <| p_val (r_bits (bo := .and) (by simp) rfl rfl (i64_and _ (4294967295 : UInt64))) <| asI rfl <| xk hK8 <| sr fun K9 hK9 => ?_
 refine mvI rfl <| p_val (r_shr rfl rfl (by decide) (i64_shr _ _)) <| asI rfl <| xk hK9 <| sr fun K10 hK10 => mvI rfl <| mvI rfl <| mvI rfl <| p_val (r_mul rfl rfl (i64_wrap _)) ?_
 refine p_val (r_add rfl rfl (i64_wrap _)) <| asI rfl <| xk hK10 <| sr fun K11 hK11 => mvI rfl <| mvI rfl <| p_val (r_mul rfl rfl (i64_wrap _)) <| mvI rfl <| p_val (r_add rfl rfl (i64_wrap _)) ?_
 refine mvI rfl <| p_val (r_shr rfl rfl (by decide) (i64_shr _ _)) <| p_val (r_add rfl rfl (i64_wrap _)) <| asI rfl <| xk hK11 <| sr fun K12 hK12 => mvI rfl <| mvI rfl <| p_val (r_mul rfl rfl (i64_wrap _)) ?_
 refine asI rfl <| xk hK12 <| wp_ret ?_
 obtain rfl := osi hF
 refine e_2 rfl (q_tmp rfl) (q_tmp rfl) ?_
 exact ⟨rfl, H.toExt⟩
def math_bits_Mul_p (x0 : UInt64) (x1 : UInt64) : Option (UInt64 × UInt64) :=
  Option.bind (math_bits_Mul64_p x0 x1) fun y1 => some ((y1.1, y1.2))
theorem math_bits_Mul_c {S : Mem} {w : World} (hS : Sub S w) {x0 : UInt64} {x1 : UInt64} {r : UInt64 × UInt64} (hF : math_bits_Mul_p x0 x1 = some r) :
    Calls Tryz.prog 89 #[.int .u64 (((x0).toNat : Int)), .int .u64 (((x1).toNat : Int))] w fun e w' => e = .returned (.tuple #[.int .u64 (((r.1).toNat : Int)), .int .u64 (((r.2).toNat : Int))]) ∧ Ext w w' := by
 refine enter (n := 30) Tryz.func89 rfl rfl rfl ?_
 have H := HS.start hS
 unfold math_bits_Mul_p at hF
 refine sr fun K1 hK1 => asI rfl <| asI rfl <| xk hK1 <| wp_seq_k fun K2 hK2 => c_false (t := false) rfl rfl <| wp_skip <| xn hK2 <| sr fun K3 hK3 => ?_
 refine mvI rfl <| mvI rfl <| bn hF fun y1 e1 hF => p_call (l := [.int .u64 (((x0).toNat : Int)), .int .u64 (((x1).toNat : Int))]) is139 rfl <| (math_bits_Mul64_c H.sub e1).mono <| H.xe fun w1 H => mvU rfl <| p_val (r_extract (v := .int .u64 (((y1.1).toNat : Int))) rfl rfl) <| p_val (r_extract (v := .int .u64 (((y1.2).toNat : Int))) rfl rfl) <| asI rfl ?_
 refine asI rfl <| xk hK3 <| sr fun K4 hK4 => mvI rfl <| mvI rfl <| asI rfl <| asI rfl <| xk hK4 <| wp_ret ?_
 obtain rfl := osi hF
 refine e_2 rfl (q_tmp rfl) (q_tmp rfl) ?_
 exact ⟨rfl, H.toExt⟩
def bytes_Repeat_b0 (y1 : UInt64 × UInt64) (t1 : Int) (s1 : Int × (List UInt8)) : Option ((Int × (List UInt8)) ⊕ ((List UInt8))) :=
  bif decide (s1.1 < (w64 ((y1.2).toNat : Int))) then (Option.bind (subL s1.2 s1.1) fun y4 => Option.bind (subH s1.2 (bif decide (s1.1 ≤ t1) then s1.1 else t1)) fun y5 => some (.inl (((w64 (s1.1 + ((min (y5).length ((s1.2).length - (s1.1 : Int).toNat) : Nat) : Int))), (putB s1.2 ((s1.1 : Int).toNat) y5))))) else (some (.inr (s1.2)))
noncomputable def bytes_Repeat_p (x0 : List UInt8) (x1 : Int) : Option ((List UInt8)) :=
  bif (x1 == 0) then (some (([] : List UInt8))) else (bif decide (x1 < 0) then (none) else (Option.bind (math_bits_Mul_p (i64 ((x0).length : Int)) (i64 x1)) fun y1 => bif (bif decide ((0 : Int) < ((y1.1).toNat : Int)) then true else decide ((9223372036854775807 : Int) < ((y1.2).toNat : Int))) then (none) else (bif (((x0).length : Int) == 0) then (some (([] : List UInt8))) else (Option.bind (bif decide ((8192 : Int) < (w64 ((y1.2).toNat : Int))) then (Option.bind (chk (decide (((x0).length : Int) ≠ 0))) fun y2 => bif ((w64 ((w64 (Int.tdiv 8192 ((x0).length : Int))) * ((x0).length : Int))) == 0) then (some (((x0).length : Int))) else (some ((w64 ((w64 (Int.tdiv 8192 ((x0).length : Int))) * ((x0).length : Int)))))) else (some ((w64 ((y1.2).toNat : Int))))) (fun t1 => Option.bind (chk (decide (0 ≤ (w64 ((y1.2).toNat : Int))) && decide ((w64 ((y1.2).toNat : Int)) ≤ (LIM : Int)))) fun y3 => anyJ ((w64 ((y1.2).toNat : Int)) : Int).toNat fun jk1 => Option.bind (Option.bind (iter (bytes_Repeat_b0 y1 t1) ((((min (x0).length ((jk1).length - 0) : Nat) : Int), (putB jk1 0 x0)))) (fun e => some (e))) (fun t2 => some (t2)))))))
theorem bytes_Repeat_c {S : Mem} {w : World} (H : HS ⟨S, keysR [], w⟩ S w []) {v0_ : Value} {x0 : List UInt8} (h0_ : RdS S v0_ x0) {x1 : Int} {r : (List UInt8)} (hF : bytes_Repeat_p x0 x1 = some r) :
    Calls Tryz.prog 95 #[v0_, .int .i64 (x1)] w fun e w' => ∃ (S2 : Mem) (pv4 : Value) (pcs4 prs4 : List Value), e = .returned (pv4) ∧ HS ⟨S, keysR [], w⟩ S2 w' [.osl (pv4) (r).length 1 pcs4 prs4 5] ∧ RL S2 pcs4 r := by
 refine enter (n := 77) Tryz.func95 rfl rfl rfl ?_
 unfold bytes_Repeat_p at hF
 refine sr fun K1 hK1 => asN rfl <| xk hK1 <| wp_seq_k fun K2 hK2 => sr fun K3 hK3 => mvI rfl <| p_val (r_eqlI rfl rfl) <| xk hK3 ?_
 refine c_split rfl (fun hc1 => ?_) (fun hc1 => ?_)
 ·replace hF := cnd_t hF hc1
  refine sr fun K4 hK4 => ?_
  have g1 : RL S ([] : List Value) ([] : List UInt8) := RL.nil
  refine p_of1 (a_bslice (N := 0) (vals := []) (l := ([] : List Value)) tn127 H rfl rfl rfl g1.len) fun w1 v1 H => ?_
  replace H := hsn H
  refine p_as (v := v1) rfl <| xk hK4 <| wp_ret <| x_ret ?_
  obtain rfl := osi hF
  refine e_1 rfl (q_tmp rfl) ?_
  replace H := hsn H
  exact ⟨_, _, _, _, rfl, H, g1⟩
 ·replace hF := cnd_f hF hc1
  refine wp_skip <| xn hK2 <| wp_seq_k fun K5 hK5 => sr fun K6 hK6 => mvI rfl <| p_val (r_lssI rfl rfl) <| xk hK6 ?_
  refine c_split rfl (fun hc2 => ?_) (fun hc2 => ?_)
  ·replace hF := cnd_t hF hc2
   exact nomatch hF
  ·replace hF := cnd_f hF hc2
   refine wp_skip <| xn hK5 <| sr fun K7 hK7 => p_mv (v := v0_) rfl <| p_val (r_lenR' u127 rfl h0_ H.sub) <| p_val (r_conv u3 u129 rfl (i64_wrap _)) <| mvI rfl <| p_val (r_conv u3 u129 rfl (i64_wrap _)) <| bn hF fun y1 e1 hF => ?_
   refine p_call (l := [.int .u64 ((((i64 ((x0).length : Int))).toNat : Int)), .int .u64 ((((i64 x1)).toNat : Int))]) is89 rfl <| (math_bits_Mul_c H.sub e1).mono <| H.xe fun w2 H => mvU rfl <| p_val (r_extract (v := .int .u64 (((y1.1).toNat : Int))) rfl rfl) <| p_val (r_extract (v := .int .u64 (((y1.2).toNat : Int))) rfl rfl) <| asI rfl <| asI rfl <| xk hK7 <| wp_seq_k fun K8 hK8 => ?_
   refine sr fun K9 hK9 => mvI rfl <| p_val (r_gtrI rfl rfl) <| mvB rfl <| nameL fun m1 k1 => gs_at 3 fun K10 hK10 R2 hR2 => ?_
   have J1 : ∀ (m2 : FM), (∀ t, has [30, 31, 32] t = false → look m2 t = look m1 t) → look m2 32 = .bool ((bif decide ((0 : Int) < ((y1.1).toNat : Int)) then true else decide ((9223372036854775807 : Int) < ((y1.2).toNat : Int)))) → K10 m2 w2 := by
    intro m2 k2 q1
    have q2 : look m2 0 = v0_ := (k2 0 rfl).trans (k1 0)
    have q3 : look m2 6 = .int .u64 (((y1.2).toNat : Int)) := (k2 6 rfl).trans (k1 6)
    refine hK10 _ _ ?_; clear hK10 hR2
    refine xk hK9 ?_
    refine c_split q1 (fun hc3 => ?_) (fun hc3 => ?_)
    ·replace hF := cnd_t hF hc3
     exact nomatch hF
    ·replace hF := cnd_f hF hc3
     refine wp_skip <| xn hK8 <| sr fun K11 hK11 => p_mv q3 <| p_val (r_conv (r := (w64 ((y1.2).toNat : Int))) u129 u3 rfl (rfl)) <| asI rfl <| xk hK11 <| wp_seq_k fun K12 hK12 => sr fun K13 hK13 => ?_
     refine p_mv (v := v0_) q2 <| p_val (r_lenR' u127 rfl h0_ H.sub) <| p_val (r_eqlI rfl rfl) <| xk hK13 ?_
     refine c_split rfl (fun hc4 => ?_) (fun hc4 => ?_)
     ·replace hF := cnd_t hF hc4
      refine sr fun K14 hK14 => ?_
      have g2 : RL S ([] : List Value) ([] : List UInt8) := RL.nil
      refine p_of1 (a_bslice (N := 0) (vals := []) (l := ([] : List Value)) tn127 H rfl rfl rfl g2.len) fun w3 v2 H => ?_
      replace H := hsn H
      refine p_as (v := v2) rfl <| xk hK14 <| wp_ret <| x_ret ?_
      obtain rfl := osi hF
      refine e_1 rfl (q_tmp rfl) ?_
      replace H := hsn H
      exact ⟨_, _, _, _, rfl, H, g2⟩
     ·replace hF := cnd_f hF hc4
      refine wp_skip <| xn hK12 <| sr fun K15 hK15 => mvI rfl <| asI rfl <| xk hK15 <| wp_seq_k fun K16 hK16 => nameF fun m3 k3 => bn hF fun t1 hE1 hF1 => ?_
      have J3 : ∀ (m4 : FM) (w4 : World), (∀ t, has (8 :: rg 41 12 []) t = false → look m4 t = look m3 t) → look m4 8 = .int .i64 (t1) → HS ⟨S, keysR [], w⟩ S w4 [] → K16 (fr 77 m4) w4 := by
       clear H; intro m4 w4 k4 q4 H
       have q5 := (k4 0 rfl).trans ((k3 0).trans q2)
       have q6 : look m4 7 = .int .i64 ((w64 ((y1.2).toNat : Int))) := (k4 7 rfl).trans (k3 7)
       refine hK16 _ _ <| sr fun K20 hK20 => p_mv q6 <| bn hF1 fun y3 e3 hF1 => p_of1 (a_mnz (ps := #[3]) (t := 127) (a := (w64 ((y1.2).toNat : Int))) Tryz.func143 (by kernel_rfl) (by kernel_rfl) (by kernel_rfl) (by kernel_rfl) u127 rfl H rfl (of_decide_eq_true (and_l (chk_some e3))) (of_decide_eq_true (and_r (chk_some e3)))) ?_; clear H; rintro w5 _ ⟨b1, c1, jk1, jr1, rfl, hjk1, H⟩
       replace hF1 := anyJ_some hF1 jk1 hjk1
       have g3 : RL S (u8s jk1) jk1 := RL.of_u8s _
       replace H := hsn H
       refine p_mv q6 <| p_mv q6 <| p_val (r_sliceC (N := (jk1).length) u127 tsz5 rfl rfl rfl (by have h0_ := of_decide_eq_true (and_l (chk_some e3)); omega) (capOf H (k := 0) rfl)) ?_
       have H1 := H.recap (k := 0) rfl; clear H; have H := H1; clear H1
       replace H := hsn H
       refine p_as (v := sl b1 0 (jk1).length (jk1).length) rfl <| xk hK20 <| sr fun K21 hK21 => p_mv (v := sl b1 0 (jk1).length (jk1).length) rfl <| p_mv (v := v0_) q5 <| p_of1 (a_copyO (k := 0) (p := 0) (xs := jk1) (ys := x0) u127 tsz5 H rfl g3 (Eq.trans rfl (HS.subAll H (k := 0) rfl).symm) (Nat.zero_le _) h0_ H.sub rfl) ?_; clear H; rintro w6 _ ⟨rfl, cs3, H, g4⟩
       replace H := hsn H
       refine asI rfl <| xk hK21 <| wp_seq_k fun K22 hK22 => nameF fun m5 k5 => bn hF1 fun t2 hE2 hF2 => ?_
       have J2 : ∀ (cs6 rs2 : List Value) (m8 : FM) (w10 : World), (∀ t, has (10 :: 11 :: rg 61 15 []) t = false → look m8 t = look m5 t) → HS ⟨S, keysR [], w⟩ S w10 [.osl (sl b1 0 (jk1).length (jk1).length) (t2).length 1 cs6 rs2 5] → RL S cs6 t2 → K22 (fr 77 m8) w10 := by
        clear H; intro cs6 rs2 m8 w10 k9 H g9
        have q11 : look m8 9 = sl b1 0 (jk1).length (jk1).length := (k9 9 rfl).trans (k5 9)
        refine hK22 _ _ <| sr fun K26 hK26 => p_mv (v := sl b1 0 (jk1).length (jk1).length) q11 <| p_as (v := sl b1 0 (jk1).length (jk1).length) rfl <| xk hK26 <| wp_ret ?_
        obtain rfl := osi hF2
        refine e_1 rfl (q_tmp rfl) ?_
        replace H := hsn H
        exact ⟨_, _, _, _, rfl, H, g9⟩
       refine wp_block <| nameF fun m6 k6 => bn hE2 fun out1 hL1 hE3 => ?_
       replace H := hsn H
       refine loopI (10 :: 11 :: rg 61 15 []) (fun (s1 : Int × (List UInt8)) (m7 : FM) (w7 : World) => ∃ (cs4 rs1 : List Value), look m7 10 = .int .i64 (s1.1) ∧ HS ⟨S, keysR [], w⟩ S w7 [.osl (sl b1 0 (jk1).length (jk1).length) (s1.2).length 1 cs4 rs1 5] ∧ RL S cs4 s1.2) hL1 ⟨_, _, ((k6 10).trans (k5 10)), H, g4⟩ ?_
       clear H; intro k8 s1 m7 w7 k7 hI1 o3 hb1 hh1; obtain ⟨cs4, rs1, q7, H, g5⟩ := hI1
       have q8 := (k7 7 rfl).trans ((k6 7).trans ((k5 7).trans q6))
       have q9 := (k7 8 rfl).trans ((k6 8).trans ((k5 8).trans q4))
       have q10 : look m7 9 = sl b1 0 (jk1).length (jk1).length := (k7 9 rfl).trans ((k6 9).trans (k5 9))
       unfold bytes_Repeat_b0 at hb1
       refine wp_seq_k fun K23 hK23 => sr fun K24 hK24 => p_mv q7 <| p_mv q8 <| p_val (r_lssI rfl rfl) <| xk hK24 ?_
       refine c_split rfl (fun hc7 => ?_) (fun hc7 => ?_)
       ·replace hb1 := cnd_t hb1 hc7
        refine wp_skip <| xn hK23 <| wp_block <| sr fun K25 hK25 => p_mv q7 <| p_mv q9 <| p_val (r_min (r := (bif decide (s1.1 ≤ t1) then s1.1 else t1)) rfl rfl rfl) <| asI rfl <| xk hK25 ?_
        refine bn hb1 fun y4 e4 hb1 => bn hb1 fun y5 e5 hb1 => ?_
        apply wp_region_ext 7 (kindsF []) rfl rfl (by kernel_rfl); intro vs1
        simp only [tkS, tkZ, drS, drZ]
        replace H := H.drew
        refine t_float (fun w => r_move q7) rfl rfl <| tp (r_move (v := sl b1 0 (jk1).length (jk1).length) q10) <| tp (r_move q7) <| t_v (fun w hx => r_subL (p := (s1.1 : Int).toNat) u127 tsz5 rfl rfl (subL_some e4).1 (RdS.ofOwn (H.ext hx) (k := 0) rfl g5) (subL_some e4).2.1) <| tp (r_move (v := sl b1 0 (jk1).length (jk1).length) q10) <| tp (r_move (v := .int .i64 ((bif decide (s1.1 ≤ t1) then s1.1 else t1))) rfl) ?_
        refine t_v (fun w hx => r_subH (h := ((bif decide (s1.1 ≤ t1) then s1.1 else t1) : Int).toNat) u127 tsz5 rfl rfl (subH_some e5).1 (RdS.ofOwn (H.ext hx) (k := 0) rfl g5) (subH_some e5).2.1) ?_
        refine t_nil (fun w8 hx hF hA => ?_)
        replace H := H.ext hx; clear hx hF hA
        refine p_of1 (a_copyO (k := 0) (p := (s1.1 : Int).toNat) (xs := s1.2) (ys := y5) u127 tsz5 H rfl g5 rfl (subL_some e4).2.1 (RdS.subH (RdS.ofOwn H (k := 0) rfl g5) e5) (subMem _) rfl) ?_; clear H; rintro w9 _ ⟨rfl, cs5, H, g8⟩
        replace H := hsn H
        refine p_val (r_addI rfl rfl) <| asI rfl ?_
        refine wpList_nil ?_; refine on_norm ?_
        refine b_norm <| x_norm ?_
        replace H := hsn H
        obtain rfl := osi hb1
        exact ⟨((w64 (s1.1 + ((min (y5).length ((s1.2).length - (s1.1 : Int).toNat) : Nat) : Int))), (putB s1.2 ((s1.1 : Int).toNat) y5)), _, rfl, (kS k7 rfl kcx), ⟨_, _, rfl, H, g8⟩, hh1⟩
       ·replace hb1 := cnd_f hb1 hc7
        refine wp_exit <| x_exit <| x_exit <| b_hit <| x_norm ?_
        replace H := hsn H
        obtain rfl := osi hb1
        obtain rfl := osi hh1
        obtain rfl := osi hE3
        exact J2 _ _ _ _ (kS k7 rfl (kN k6 kcx)) H g5
      refine sr fun K17 hK17 => p_mv (k3 8) <| p_val (r_gtrI rfl rfl) <| xk hK17 ?_
      refine c_split rfl (fun hc5 => ?_) (fun hc5 => ?_)
      ·replace hE1 := cnd_t hE1 hc5
       refine sr fun K18 hK18 => p_mv (v := v0_) ((k3 0).trans q2) <| p_val (r_lenR' u127 rfl h0_ H.sub) <| bn hE1 fun y2 e2 hE1 => p_val (r_quo (r := w64 (Int.tdiv 8192 ((x0).length : Int))) rfl rfl (of_decide_eq_true (chk_some e2)) rfl) <| p_mv (v := v0_) ((k3 0).trans q2) <| p_val (r_lenR' u127 rfl h0_ H.sub) <| p_val (r_mulI rfl rfl) <| asI rfl ?_
       refine xk hK18 <| sr fun K19 hK19 => mvI rfl <| p_val (r_eqlI rfl rfl) <| xk hK19 ?_
       refine c_split rfl (fun hc6 => ?_) (fun hc6 => ?_)
       ·replace hE1 := cnd_t hE1 hc6
        refine wp_region_lit <| p_mv (v := v0_) ((k3 0).trans q2) <| p_val (r_lenR' u127 rfl h0_ H.sub) <| asI rfl <| wpList_nil <| x_norm ?_
        replace H := hsn H
        obtain rfl := osi hE1
        exact J3 _ _ kcx rfl H
       ·replace hE1 := cnd_f hE1 hc6
        refine wp_skip <| x_norm ?_
        replace H := hsn H
        obtain rfl := osi hE1
        exact J3 _ _ kcx rfl H
      ·replace hE1 := cnd_f hE1 hc5
       refine wp_skip <| x_norm ?_
       replace H := hsn H
       obtain rfl := osi hE1
       exact J3 _ _ kcx (k3 8) H
   refine p_gs (j := 2) (gvl_at rfl rfl (k1 29)) (fun hb2 => ?_) (fun hb2 => ?_)
   ·skip
    refine p_skip (gvl_at rfl rfl (k1 29)) hb2 ?_
    rw [put_fr]
    refine p_skip (gvl_at rfl rfl (k1 29)) hb2 ?_
    rw [put_fr]
    refine p_val (r_pickt (v := .bool (true)) (k1 29) hb2 rfl) <| hR2 _ _ ?_
    exact J1 _ kcx (show (.bool (true) : Value) = .bool ((bif decide ((0 : Int) < ((y1.1).toNat : Int)) then true else decide ((9223372036854775807 : Int) < ((y1.2).toNat : Int)))) from congrArg Value.bool (by simp only [hb2, cond_true, cond_false]))
   ·skip
    refine p_want (gvl_at rfl rfl (k1 29)) hb2 <| p_mv (k1 6) <| p_want (gvl_at rfl rfl (k1 29)) hb2 <| p_val (r_gtrI rfl rfl) <| p_val (r_pickf (v := .bool (decide ((9223372036854775807 : Int) < ((y1.2).toNat : Int)))) (k1 29) hb2 rfl) <| hR2 _ _ ?_
    exact J1 _ kcx (show (.bool (decide ((9223372036854775807 : Int) < ((y1.2).toNat : Int))) : Value) = .bool ((bif decide ((0 : Int) < ((y1.1).toNat : Int)) then true else decide ((9223372036854775807 : Int) < ((y1.2).toNat : Int)))) from congrArg Value.bool (by simp only [hb2, cond_true, cond_false]))
def hash_Mac_b0 (t1 : (List UInt8)) (s1 : Int × (List UInt8) × (List UInt8)) : Option ((Int × (List UInt8) × (List UInt8)) ⊕ ((List UInt8) × (List UInt8))) :=
  bif decide (s1.1 < ((t1).length : Int)) then (Option.bind (idx s1.2.2 s1.1) fun y4 => Option.bind (idx t1 s1.1) fun y5 => Option.bind (idx s1.2.2 s1.1) fun y6 => Option.bind (setL s1.2.2 (s1.1 : Int) (y4 ^^^ y5)) fun y7 => Option.bind (idx s1.2.1 s1.1) fun y8 => Option.bind (idx t1 s1.1) fun y9 => Option.bind (idx s1.2.1 s1.1) fun y10 => Option.bind (setL s1.2.1 (s1.1 : Int) (y8 ^^^ y9)) fun y11 => some (.inl (((w64 (s1.1 + 1)), y11, y7)))) else (some (.inr ((s1.2.1, s1.2.2))))
noncomputable def hash_Mac_p (x0 : List UInt8) (x1 : List UInt8) : Option ((List UInt8)) :=
  Option.bind (bif decide ((64 : Int) < ((x0).length : Int)) then (Option.bind (hash_Sum_p x0) fun y1 => some (y1)) else (some (x0))) (fun t1 => Option.bind (bytes_Repeat_p ([(54 : UInt8)] : List UInt8) 64) fun y2 => Option.bind (bytes_Repeat_p ([(92 : UInt8)] : List UInt8) 64) fun y3 => Option.bind (Option.bind (iter (hash_Mac_b0 t1) ((0, y3, y2))) (fun e => some (e))) (fun t2 => Option.bind (app t2.2 x1) fun y12 => Option.bind (hash_Sum_p y12) fun y13 => Option.bind (app t2.1 y13) fun y14 => Option.bind (hash_Sum_p y14) fun y15 => some (y15)))
theorem hash_Mac_c {S : Mem} {w : World} (hS : Sub S w) {x0 : List UInt8} {x1 : List UInt8} {r : (List UInt8)} (hF : hash_Mac_p x0 x1 = some r) :
    Calls Tryz.prog 46 #[str (x0), str (x1)] w fun e w' => e = .returned (str (r)) ∧ Ext w w' := by
 refine enter (n := 50) Tryz.func46 rfl rfl rfl ?_
 have H := HS.start hS
 unfold hash_Mac_p at hF
 refine sr fun K1 hK1 => asT rfl <| xk hK1 <| wp_seq_k fun K2 hK2 => nameF fun m1 k1 => bn hF fun t1 hE1 hF1 => ?_
 have J2 : ∀ (m2 : FM) (w2 : World), (∀ t, has [0, 8, 9, 10, 11, 12] t = false → look m2 t = look m1 t) → look m2 0 = str (t1) → HS ⟨S, [], w⟩ S w2 [] → K2 (fr 50 m2) w2 := by
  clear H; intro m2 w2 k2 q1 H
  have q2 : look m2 1 = str (x1) := (k2 1 rfl).trans (k1 1)
  refine hK2 _ _ <| sr fun K4 hK4 => p_of2 (a_bsliceG (N := 1) (xs := ([(54 : UInt8)] : List UInt8)) (RL.cons (rpU8c (x := (54 : UInt8)) rfl) RL.nil) tn127 H rfl rfl rfl) fun w3 v1 cs1 H g1 => ?_
  replace H := hsn H
  obtain ⟨S1, hle1, g2, H1⟩ := H.fixX (k := 0) rfl g1; clear H; have H := H1; clear H1
  replace H := hsn H
  refine bn hF1 fun y2 e2 hF1 => p_call (l := [v1, .int .i64 (64)]) is95 rfl <| (bytes_Repeat_c (H.hand [] rfl) g2 e2).mono ?_; rintro _ w4 ⟨S2, pv1, pcs1, prs1, rfl, H2, pg1⟩
  obtain ⟨H1, hle2⟩ := H.frame [] [] rfl H2; clear H H2; have H := H1; clear H1
  replace g2 := g2.mono hle2
  replace H := hsn H
  refine p_of2 (a_bsliceG (N := 1) (xs := ([(92 : UInt8)] : List UInt8)) (RL.cons (rpU8c (x := (92 : UInt8)) rfl) RL.nil) tn127 H rfl rfl rfl) fun w5 v2 cs2 H g3 => ?_
  replace H := hsn H
  obtain ⟨S3, hle3, g4, H1⟩ := H.fixX (k := 0) rfl g3; clear H; have H := H1; clear H1
  replace pg1 := pg1.mono hle3
  replace H := hsn H
  refine bn hF1 fun y3 e3 hF1 => p_call (l := [v2, .int .i64 (64)]) is95 rfl <| (bytes_Repeat_c (H.hand [] rfl) g4 e3).mono ?_; rintro _ w6 ⟨S4, pv2, pcs2, prs2, rfl, H2, pg2⟩
  obtain ⟨H1, hle4⟩ := H.frame [] [0] rfl H2; clear H H2; have H := H1; clear H1
  replace pg1 := pg1.mono hle4
  replace g4 := g4.mono hle4
  replace H := hsn H
  refine p_as (v := pv1) rfl <| p_as (v := pv2) rfl <| xk hK4 <| wp_seq_k fun K5 hK5 => nameF fun m3 k3 => bn hF1 fun t2 hE2 hF2 => ?_
  have J1 : ∀ (cs9 rs3 : List Value) (cs10 rs4 : List Value) (m6 : FM) (w12 : World), (∀ t, has (7 :: rg 17 24 []) t = false → look m6 t = look m3 t) → HS ⟨S, [], w⟩ S4 w12 [.osl (pv2) (t2.1).length 1 cs9 rs3 5, .osl (pv1) (t2.2).length 1 cs10 rs4 5] → RL S4 cs9 t2.1 → RL S4 cs10 t2.2 → K5 (fr 50 m6) w12 := by
   clear H; intro cs9 rs3 cs10 rs4 m6 w12 k7 H g9 g10
   have q9 := (k7 1 rfl).trans ((k3 1).trans q2)
   have q10 : look m6 5 = pv1 := (k7 5 rfl).trans (k3 5)
   have q11 : look m6 6 = pv2 := (k7 6 rfl).trans (k3 6)
   refine hK5 _ _ <| wp_seq_k fun K12 hK12 => bn hF2 fun y12 e12 hF2 => bn hF2 fun y13 e13 hF2 => bn hF2 fun y14 e14 hF2 => bn hF2 fun y15 e15 hF2 => ?_
   apply wp_region_ext 9 (kindsF [(6, .inl (str (y13))), (8, .inl (str (y15)))]) rfl rfl (by kernel_rfl); intro vs3
   simp only [tkS, tkZ, drS, drZ]
   replace H := H.drew
   refine tp (r_move (v := pv2) q11) <| t_v (fun w hx => r_strO u127 u5 u9 rfl (H.ext hx) (k := 0) rfl g9) <| tp (r_move (v := pv1) q10) <| t_v (fun w hx => r_strO u127 u5 u9 rfl (H.ext hx) (k := 1) rfl g10) <| tp (r_move q9) <| tp (r_cat (r := y12) rfl rfl (by have := (app_some e12).1; omega) (app_some e12).2) ?_
   refine t_call (l := [str (y12)]) rfl rfl is87 rfl (fun w hx hF => (hash_Sum_c (H.ext hx).sub e13).mono (fun _ _ h => h)) <| tp (r_cat (r := y14) rfl rfl (by have := (app_some e14).1; omega) (app_some e14).2) ?_
   refine t_call (l := [str (y14)]) rfl rfl is87 rfl (fun w hx hF => (hash_Sum_c (H.ext hx).sub e15).mono (fun _ _ h => h)) ?_
   refine t_nil (fun w13 hx hF hA => ?_)
   replace H := H.ext hx; clear hx hF hA
   refine asT rfl ?_
   refine wpList_nil ?_; refine on_norm ?_
   refine xn hK12 <| wp_ret ?_
   obtain rfl := osi hF2
   refine e_1 rfl (q_tmp rfl) ?_
   exact ⟨rfl, H.toExt⟩
  refine sr fun K6 hK6 => p_mv ((k3 0).trans q1) <| p_val (r_lenT (N := (t1).length) u9 rfl rfl) <| mvI rfl <| xk hK6 <| wp_block <| nameF fun m4 k4 => bn hE2 fun out1 hL1 hE3 => ?_
  replace H := hsn H
  refine loopI (7 :: rg 19 22 []) (fun (s1 : Int × (List UInt8) × (List UInt8)) (m5 : FM) (w7 : World) => ∃ (cs3 rs1 : List Value) (cs4 rs2 : List Value), look m5 19 = .int .i64 (s1.1) ∧ HS ⟨S, [], w⟩ S4 w7 [.osl (pv2) (s1.2.1).length 1 cs3 rs1 5, .osl (pv1) (s1.2.2).length 1 cs4 rs2 5] ∧ RL S4 cs3 s1.2.1 ∧ RL S4 cs4 s1.2.2) hL1 ⟨_, _, _, _, (k4 19), H, pg2, pg1⟩ ?_
  clear H; intro k6 s1 m5 w7 k5 hI1 o3 hb1 hh1; obtain ⟨cs3, rs1, cs4, rs2, q3, H, g5, g6⟩ := hI1
  have q4 := (k5 1 rfl).trans ((k4 1).trans ((k3 1).trans q2))
  have q5 := (k5 0 rfl).trans ((k4 0).trans ((k3 0).trans q1))
  have q6 : look m5 5 = pv1 := (k5 5 rfl).trans ((k4 5).trans (k3 5))
  have q7 : look m5 6 = pv2 := (k5 6 rfl).trans ((k4 6).trans (k3 6))
  have q8 : look m5 18 = .int .i64 (((t1).length : Int)) := (k5 18 rfl).trans (k4 18)
  unfold hash_Mac_b0 at hb1
  refine sr fun K7 hK7 => p_val (r_lssI q3 q8) <| xk hK7 <| wp_seq_k fun K8 hK8 => ?_
  refine c_split rfl (fun hc2 => ?_) (fun hc2 => ?_)
  ·replace hb1 := cnd_t hb1 hc2
   refine wp_skip <| xn hK8 <| wp_seq_k fun K9 hK9 => wp_block <| sr fun K10 hK10 => p_mv q3 <| asI rfl <| xk hK10 <| wp_seq_k fun K11 hK11 => ?_
   refine bn hb1 fun y4 e4 hb1 => ?_
   obtain ⟨b1, c1, hv1⟩ := H.ownAt (k := 1) rfl (idx_lt e4)
   subst hv1
   have hr1 := RL.get g6 (idx_some e4).2; generalize hghr1 : piece cs4 _ _ = cs5 at hr1
   obtain rfl := elU8 hr1
   refine bn hb1 fun y5 e5 hb1 => bn hb1 fun y6 e6 hb1 => ?_
   apply wp_region_ext 9 (kindsF []) rfl rfl (by kernel_rfl); intro vs1
   simp only [tkS, tkZ, drS, drZ]
   replace H := H.drew
   refine tp (r_move (v := (sl b1 0 (s1.2.2).length c1)) q6) <| tp (r_move (v := .int .i64 (s1.1)) rfl) <| tp (r_addrV (i := (s1.1 : Int).toNat) u127 tsz5 rfl rfl rfl (idx_some e4).1 (idx_lt e4)) <| t_v (fun w hx => o_load1 (v := .int .u8 (((y4).toNat : Int))) to5 (H.ext hx) (k := 1) rfl rfl (idx_lt e4) hghr1) <| tp (r_move q5) <| tp (r_move (v := .int .i64 (s1.1)) rfl) ?_
   refine tp (r_idxT (i := (s1.1 : Int).toNat) (u := y5) u9 rfl rfl (idx_some e5).1 (idx_some e5).2) <| tp (r_bits (bo := .xor) (by simp) rfl rfl (i8_xor _ _)) <| tp (r_addrV (i := (s1.1 : Int).toNat) u127 tsz5 rfl (HS.ownV H (k := 1) rfl) rfl (idx_some e6).1 (idx_lt e6)) ?_
   refine t_nil (fun w8 hx hF hA => ?_)
   replace H := H.ext hx; clear hx hF hA
   refine bn hb1 fun y7 e7 hb1 => p_oft (a_storeX (k := 1) (l := [Value.int .u8 ((((y4 ^^^ y5)).toNat : Int))]) tsz5 rfl H rfl g6 rfl rfl (cells_one rfl) rpU8 e7) fun w9 cs6 H g7 => ?_
   replace H := hsn H
   refine wpList_nil ?_; refine on_norm ?_
   refine xn hK11 <| bn hb1 fun y8 e8 hb1 => ?_
   obtain ⟨b3, c3, hv3⟩ := H.ownAt (k := 0) rfl (idx_lt e8)
   subst hv3
   have hr2 := RL.get g5 (idx_some e8).2; generalize hghr2 : piece cs3 _ _ = cs7 at hr2
   obtain rfl := elU8 hr2
   refine bn hb1 fun y9 e9 hb1 => bn hb1 fun y10 e10 hb1 => ?_
   apply wp_region_ext 9 (kindsF []) rfl rfl (by kernel_rfl); intro vs2
   simp only [tkS, tkZ, drS, drZ]
   replace H := H.drew
   refine tp (r_move (v := (sl b3 0 (s1.2.1).length c3)) q7) <| tp (r_move (v := .int .i64 (s1.1)) rfl) <| tp (r_addrV (i := (s1.1 : Int).toNat) u127 tsz5 rfl rfl rfl (idx_some e8).1 (idx_lt e8)) <| t_v (fun w hx => o_load1 (v := .int .u8 (((y8).toNat : Int))) to5 (H.ext hx) (k := 0) rfl rfl (idx_lt e8) hghr2) <| tp (r_move q5) <| tp (r_move (v := .int .i64 (s1.1)) rfl) ?_
   refine tp (r_idxT (i := (s1.1 : Int).toNat) (u := y9) u9 rfl rfl (idx_some e9).1 (idx_some e9).2) <| tp (r_bits (bo := .xor) (by simp) rfl rfl (i8_xor _ _)) <| tp (r_addrV (i := (s1.1 : Int).toNat) u127 tsz5 rfl (HS.ownV H (k := 0) rfl) rfl (idx_some e10).1 (idx_lt e10)) ?_
   refine t_nil (fun w10 hx hF hA => ?_)
   replace H := H.ext hx; clear hx hF hA
   refine bn hb1 fun y11 e11 hb1 => p_oft (a_storeX (k := 0) (l := [Value.int .u8 ((((y8 ^^^ y9)).toNat : Int))]) tsz5 rfl H rfl g5 rfl rfl (cells_one rfl) rpU8 e11) fun w11 cs8 H g8 => ?_
   replace H := hsn H
   refine wpList_nil ?_; refine on_norm ?_
   refine b_norm <| xn hK9 <| wp_region_lit <| p_val (r_addI q3 rfl) <| mvI rfl <| wpList_nil <| x_norm ?_
   replace H := hsn H
   obtain rfl := osi hb1
   exact ⟨((w64 (s1.1 + 1)), y11, y7), _, rfl, (kS k5 rfl kcx), ⟨_, _, _, _, rfl, H, g8, g7⟩, hh1⟩
  ·replace hb1 := cnd_f hb1 hc2
   refine wp_exit <| x_exit <| x_exit <| b_hit <| x_norm ?_
   replace H := hsn H
   obtain rfl := osi hb1
   obtain rfl := osi hh1
   obtain rfl := osi hE3
   exact J1 _ _ _ _ _ _ (kS k5 rfl (kN k4 kcx)) H g5 g6
 refine sr fun K3 hK3 => p_mv (k1 0) <| p_val (r_lenT (N := (x0).length) u9 rfl rfl) <| p_val (r_gtrI rfl rfl) <| xk hK3 ?_
 refine c_split rfl (fun hc1 => ?_) (fun hc1 => ?_)
 ·replace hE1 := cnd_t hE1 hc1
  refine wp_region_lit <| p_mv (k1 0) <| bn hE1 fun y1 e1 hE1 => p_call (l := [str (x0)]) is87 rfl <| (hash_Sum_c H.sub e1).mono <| H.xe fun w1 H => asT rfl <| wpList_nil <| x_norm ?_
  replace H := hsn H
  obtain rfl := osi hE1
  exact J2 _ _ kcx rfl H
 ·replace hE1 := cnd_f hE1 hc1
  refine wp_skip <| x_norm ?_
  replace H := hsn H
  obtain rfl := osi hE1
  exact J2 _ _ kcx (k1 0) H
end Go.Proofs.YtmbcolbbekbccaaGreat
namespace Go.Proofs.YtmbcolbbekbccaaGreat
open Go Go.RowKit
attribute [local irreducible] wpList wpT Code.wp Calls Code.rounds
theorem is34 : IsFn Tryz.prog 34 := isFn Tryz.func34
theorem is35 : IsFn Tryz.prog 35 := isFn Tryz.func35
theorem is41 : IsFn Tryz.prog 41 := isFn Tryz.func41
theorem is48 : IsFn Tryz.prog 48 := isFn Tryz.func48
theorem is61 : IsFn Tryz.prog 61 := isFn Tryz.func61
theorem eqt24 (x y : Qw) : EqR Tryz.prog 2 24 (.agg (cl24 x).toArray) (.agg (cl24 y).toArray) (x == y) :=
  EqR.arr (k := 4) (E := 22) (sz := 1) (by kernel_rfl) (fun w => sz22 w) (l := [(22, 0), (22, 1), (22, 2), (22, 3)]) rfl (EqL.cons (part1 (v := Value.int .u64 ((x.1.toNat : Int))) to22 rfl) (part1 (v := Value.int .u64 ((y.1.toNat : Int))) to22 rfl) (eqU64 u22) (EqL.cons (part1 (v := Value.int .u64 ((x.2.1.toNat : Int))) to22 rfl) (part1 (v := Value.int .u64 ((y.2.1.toNat : Int))) to22 rfl) (eqU64 u22) (EqL.cons (part1 (v := Value.int .u64 ((x.2.2.1.toNat : Int))) to22 rfl) (part1 (v := Value.int .u64 ((y.2.2.1.toNat : Int))) to22 rfl) (eqU64 u22) (EqL.last (part1 (v := Value.int .u64 ((x.2.2.2.toNat : Int))) to22 rfl) (part1 (v := Value.int .u64 ((y.2.2.2.toNat : Int))) to22 rfl) (eqU64 u22)))))
theorem tsz24 : TSz Tryz.prog 24 4 := fun _ => by kernel_rfl
theorem tsz26 : TSz Tryz.prog 26 9 := fun _ => by kernel_rfl
def sign_zero_p  : Option (Qw) :=
  some (((0 : UInt64), (0 : UInt64), (0 : UInt64), (0 : UInt64)))
theorem sign_zero_c {S : Mem} {w : World} (hS : Sub S w)  {r : Qw} (hF : sign_zero_p = some r) :
    Calls Tryz.prog 48 #[] w fun e w' => e = .returned (.agg ((cl24 r)).toArray) ∧ Ext w w' := by
 refine enter (n := 2) Tryz.func48 rfl rfl rfl ?_
 have H := HS.start hS
 unfold sign_zero_p at hF
 refine sr fun K1 hK1 => p_ofb (a_alloc (l := (cl24 ((0 : UInt64), (0 : UInt64), (0 : UInt64), (0 : UInt64)))) H tz24 rfl) fun w1 b1 H => xk hK1 <| sr fun K2 hK2 => p_val (r_build (vals := []) (l := (cl24 ((0 : UInt64), (0 : UInt64), (0 : UInt64), (0 : UInt64)))) tb24 rfl rfl) ?_
 refine p_ofs (a_store (k := 0) (l := (cl24 ((0 : UInt64), (0 : UInt64), (0 : UInt64), (0 : UInt64)))) tsz24 H rfl rfl rfl (cells_agg _) rfl (onz rfl) rfl) fun w2 H => ?_
 replace H := hsn H
 refine xk hK2 <| wp_ret ?_
 obtain rfl := osi hF
 refine e_1 rfl (qh_cell (l := (cl24 ((0 : UInt64), (0 : UInt64), (0 : UInt64), (0 : UInt64)))) tg24 H rfl (k := 0) rfl rfl rfl) ?_
 exact ⟨rfl, H.toExt⟩
def sign_fine_p (x0 : Qw) : Option (Bool) :=
  Option.bind (sign_zero_p) fun y1 => bif ((x0 : Qw) != (y1 : Qw)) then (Option.bind (sign_zero_p) fun y2 => Option.bind (field_Add_p 1 x0 y2) fun y3 => some (((y3 : Qw) == (x0 : Qw)))) else (some (false))
theorem sign_fine_c {S : Mem} {w : World} (hS : Sub S w) {x0 : Qw} {r : Bool} (hF : sign_fine_p x0 = some r) :
    Calls Tryz.prog 34 #[.agg ((cl24 x0)).toArray] w fun e w' => e = .returned (.bool (r)) ∧ Ext w w' := by
 refine enter (n := 13) Tryz.func34 rfl rfl rfl ?_
 have H := HS.start hS
 unfold sign_fine_p at hF
 refine sr fun K1 hK1 => p_ofb (a_box (l := (cl24 x0)) H rfl) fun w1 b1 H => asB rfl <| xk hK1 <| wp_seq_k fun K2 hK2 => bn hF fun y1 e1 hF => ?_
 rcases Bool.eq_false_or_eq_true (((x0 : Qw) != (y1 : Qw))) with hb1 | hb1
 ·replace hF := cnd_t hF hb1
  refine bn hF fun y2 e2 hF => bn hF fun y3 e3 hF => ?_
  apply wp_region_ext 10 (kindsF [(1, .inl (.agg ((cl24 y1)).toArray)), (5, .inl (.agg ((cl24 y2)).toArray)), (6, .inl (.agg ((cl24 y3)).toArray))]) rfl rfl (by kernel_rfl); intro vs1
  simp only [tkS, tkZ, drS, drZ]
  replace H := H.drew
  refine t_v (fun w hx => h_load (l := (cl24 x0)) tg24 (H.ext hx) rfl (k := 0) rfl rfl rfl) <| t_call (l := []) rfl rfl is48 rfl (fun w hx hF => (sign_zero_c (H.ext hx).sub e1).mono (fun _ _ h => h)) <| tp (r_neR eg24 (by decide) (eqt24 x0 y1) rfl rfl) <| tp (r_move (v := .bool (((x0 : Qw) != (y1 : Qw)))) rfl) ?_
  refine t_valG rfl hb1 (fun w hx => h_load (l := (cl24 x0)) tg24 (H.ext hx) rfl (k := 0) rfl rfl rfl) rfl rfl <| t_callG rfl hb1 (l := []) rfl rfl is48 rfl (fun w hx hF => (sign_zero_c (H.ext hx).sub e2).mono (fun _ _ h => h)) <| t_callG rfl hb1 (l := [.int .i64 (1), .agg ((cl24 x0)).toArray, .agg ((cl24 y2)).toArray]) rfl rfl is49 rfl (fun w hx hF => (field_Add_c (H.ext hx).sub e3).mono (fun _ _ h => h)) ?_
  refine t_valG rfl hb1 (fun w hx => h_load (l := (cl24 x0)) tg24 (H.ext hx) rfl (k := 0) rfl rfl rfl) rfl rfl <| t_valG rfl hb1 (fun w hx => r_eqR eg24 (by decide) (eqt24 y3 x0) rfl rfl) rfl rfl <| tp (r_pickt (v := .bool (((y3 : Qw) == (x0 : Qw)))) rfl hb1 rfl) ?_
  refine t_nil (fun w2 hx hF hA => ?_)
  replace H := H.ext hx; clear hx hF hA
  refine asB rfl ?_
  refine wpList_nil ?_; refine on_norm ?_
  refine xn hK2 <| wp_ret ?_
  obtain rfl := osi hF
  refine e_1 rfl (q_tmp rfl) ?_
  exact ⟨rfl, H.toExt⟩
 ·replace hF := cnd_f hF hb1
  apply wp_region_ext 10 (kindsF [(1, .inl (.agg ((cl24 y1)).toArray))]) rfl rfl (by kernel_rfl); intro vs1
  simp only [tkS, tkZ, drS, drZ]
  replace H := H.drew
  refine t_v (fun w hx => h_load (l := (cl24 x0)) tg24 (H.ext hx) rfl (k := 0) rfl rfl rfl) <| t_call (l := []) rfl rfl is48 rfl (fun w hx hF => (sign_zero_c (H.ext hx).sub e1).mono (fun _ _ h => h)) <| tp (r_neR eg24 (by decide) (eqt24 x0 y1) rfl rfl) <| tp (r_move (v := .bool (((x0 : Qw) != (y1 : Qw)))) rfl) <| t_skip rfl hb1 rfl ?_
  rw [put_fr]
  refine t_skip rfl hb1 rfl ?_
  rw [put_fr]
  refine t_skip rfl hb1 rfl ?_
  rw [put_fr]
  refine t_skip rfl hb1 rfl ?_
  rw [put_fr]
  refine t_skip rfl hb1 rfl ?_
  rw [put_fr]
  refine tp (r_pickf (v := .bool (false)) rfl hb1 rfl) ?_
  refine t_nil (fun w3 hx hF hA => ?_)
  replace H := H.ext hx; clear hx hF hA
  refine asB rfl ?_
  refine wpList_nil ?_; refine on_norm ?_
  refine xn hK2 <| wp_ret ?_
  obtain rfl := osi hF
  refine e_1 rfl (q_tmp rfl) ?_
  exact ⟨rfl, H.toExt⟩
def sign_times_p (x0 : Qw) : Option (Qp) :=
  Option.bind (curve_Base_p) fun y1 => Option.bind (curve_Mul_p x0 y1) fun y2 => some (y2.1)
theorem sign_times_c {S : Mem} {w : World} (hS : Sub S w) {x0 : Qw} {r : Qp} (hF : sign_times_p x0 = some r) :
    Calls Tryz.prog 35 #[.agg ((cl24 x0)).toArray] w fun e w' => e = .returned (.agg ((cl26 r)).toArray) ∧ Ext w w' := by
 refine enter (n := 12) Tryz.func35 rfl rfl rfl ?_
 have H := HS.start hS
 unfold sign_times_p at hF
 refine sr fun K1 hK1 => p_ofb (a_box (l := (cl24 x0)) H rfl) fun w1 b1 H => p_ofb (a_alloc (l := (cl26 (((0 : UInt64), (0 : UInt64), (0 : UInt64), (0 : UInt64)), ((0 : UInt64), (0 : UInt64), (0 : UInt64), (0 : UInt64)), false))) H tz26 rfl) fun w2 b2 H => xk hK1 <| wp_seq_k fun K2 hK2 => bn hF fun y1 e1 hF => bn hF fun y2 e2 hF => ?_
 apply wp_region_ext 7 (kindsF [(1, .inl (.agg ((cl26 y1)).toArray)), (2, .inl (.tuple #[.agg ((cl26 y2.1)).toArray, .int .i64 (y2.2)])), (6, .inr (lowR (NewAt w2.drew ((cl26 (((0 : UInt64), (0 : UInt64), (0 : UInt64), (0 : UInt64)), ((0 : UInt64), (0 : UInt64), (0 : UInt64), (0 : UInt64)), false))) 26)))]) rfl rfl (by kernel_rfl); intro vs1
 simp only [tkS, tkZ, drS, drZ]
 replace H := H.drew
 refine t_v (fun w hx => h_load (l := (cl24 x0)) tg24 (H.ext hx) rfl (k := 1) rfl rfl rfl) <| t_call (l := []) rfl rfl is41 rfl (fun w hx hF => (curve_Base_c (H.ext hx).sub e1).mono (fun _ _ h => h)) <| t_call (l := [.agg ((cl24 x0)).toArray, .agg ((cl26 y1)).toArray]) rfl rfl is61 rfl (fun w hx hF => (curve_Mul_c (H.ext hx).sub e2).mono (fun _ _ h => h)) ?_
 refine tp (r_move (v := .tuple #[.agg ((cl26 y2.1)).toArray, .int .i64 (y2.2)]) rfl) <| tp (r_extract (v := .agg ((cl26 y2.1)).toArray) rfl rfl) <| t_float (fun w => r_extract (v := .int .i64 (y2.2)) rfl rfl) rfl rfl <| t_alloc rfl rfl tz26 rfl ?_
 refine t_nil (fun w3 hx hF hA => ?_)
 obtain ⟨F1, hd1, h01⟩ := depE hF
 obtain ⟨⟨b3, eq1, hb1, hh1⟩, hn1⟩ := fact_relF hF 6 rfl rfl
 have hle1 := gf_le (F := F1) (w := w3) H.sub; replace H := (HS.adopt (H.callF (F := F1) hx) (Nat.le_trans H.fr.size hb1) (gf_none hb1 (by rw [h01]; exact noF hA (by decide) rfl eq1 hn1)) hh1 (HS.keys_lt H hb1)); clear hx hF hA hd1 h01; generalize gf S w2.drew F1 w3 = S1 at hle1 H
 refine p_ofs (a_store (k := 0) (l := (cl26 y2.1)) tsz26 H eq1 rfl rfl (cells_agg _) rfl (onz rfl) rfl) fun w4 H => ?_
 replace H := hsn H
 refine asI rfl ?_
 refine wpList_nil ?_; refine on_norm ?_
 refine xn hK2 <| sr fun K3 hK3 => p_val (h_load (l := (cl26 y2.1)) tg26 H eq1 (k := 0) rfl rfl rfl) <| p_ofs (a_store (k := 1) (l := (cl26 y2.1)) tsz26 H rfl rfl rfl (cells_agg _) rfl (onz rfl) rfl) fun w5 H => ?_
 replace H := hsn H
 refine xk hK3 <| wp_ret ?_
 obtain rfl := osi hF
 refine e_1 rfl (qh_cell (l := (cl26 y2.1)) tg26 H rfl (k := 1) rfl rfl rfl) ?_
 exact ⟨rfl, H.toExt⟩
def sign_Public_p (x0 : Qw) : Option (Qp × Int) :=
  Option.bind (sign_fine_p x0) fun y1 => bif (!y1) then (some (((((0 : UInt64), (0 : UInt64), (0 : UInt64), (0 : UInt64)), ((0 : UInt64), (0 : UInt64), (0 : UInt64), (0 : UInt64)), false), 80))) else (Option.bind (sign_times_p x0) fun y2 => some ((y2, 0)))
theorem sign_Public_c {S : Mem} {w : World} (hS : Sub S w) {x0 : Qw} {r : Qp × Int} (hF : sign_Public_p x0 = some r) :
    Calls Tryz.prog 9 #[.agg ((cl24 x0)).toArray] w fun e w' => e = .returned (.tuple #[.agg ((cl26 r.1)).toArray, .int .i64 (r.2)]) ∧ Ext w w' := by
 refine enter (n := 10) Tryz.func9 rfl rfl rfl ?_
 have H := HS.start hS
 unfold sign_Public_p at hF
 refine sr fun K1 hK1 => p_ofb (a_box (l := (cl24 x0)) H rfl) fun w1 b1 H => p_ofb (a_alloc (l := (cl26 (((0 : UInt64), (0 : UInt64), (0 : UInt64), (0 : UInt64)), ((0 : UInt64), (0 : UInt64), (0 : UInt64), (0 : UInt64)), false))) H tz26 rfl) fun w2 b2 H => asI rfl <| xk hK1 <| wp_seq_k fun K2 hK2 => sr fun K3 hK3 => p_val (h_load (l := (cl24 x0)) tg24 H rfl (k := 1) rfl rfl rfl) <| bn hF fun y1 e1 hF => ?_
 refine p_call (l := [.agg ((cl24 x0)).toArray]) is34 rfl <| (sign_fine_c H.sub e1).mono <| H.xe fun w3 H => p_val (r_not (t := (!y1)) rfl rfl) <| xk hK3 ?_
 refine c_split rfl (fun hc1 => ?_) (fun hc1 => ?_)
 ·replace hF := cnd_t hF hc1
  refine sr fun K4 hK4 => p_val (r_build (vals := []) (l := (cl26 (((0 : UInt64), (0 : UInt64), (0 : UInt64), (0 : UInt64)), ((0 : UInt64), (0 : UInt64), (0 : UInt64), (0 : UInt64)), false))) tb26 rfl rfl) ?_
  refine p_ofs (a_store (k := 0) (l := (cl26 (((0 : UInt64), (0 : UInt64), (0 : UInt64), (0 : UInt64)), ((0 : UInt64), (0 : UInt64), (0 : UInt64), (0 : UInt64)), false))) tsz26 H rfl rfl rfl (cells_agg _) rfl (onz rfl) rfl) fun w4 H => ?_
  replace H := hsn H
  refine asI rfl <| xk hK4 <| wp_ret <| x_ret ?_
  obtain rfl := osi hF
  refine e_2 rfl (qh_cell (l := (cl26 (((0 : UInt64), (0 : UInt64), (0 : UInt64), (0 : UInt64)), ((0 : UInt64), (0 : UInt64), (0 : UInt64), (0 : UInt64)), false))) tg26 H rfl (k := 0) rfl rfl rfl) (q_tmp rfl) ?_
  exact ⟨rfl, H.toExt⟩
 ·replace hF := cnd_f hF hc1
  refine wp_skip <| xn hK2 <| sr fun K5 hK5 => p_val (h_load (l := (cl24 x0)) tg24 H rfl (k := 1) rfl rfl rfl) <| bn hF fun y2 e2 hF => p_call (l := [.agg ((cl24 x0)).toArray]) is35 rfl <| (sign_times_c H.sub e2).mono <| H.xe fun w5 H => p_ofs (a_store (k := 0) (l := (cl26 y2)) tsz26 H rfl rfl rfl (cells_agg _) rfl (onz rfl) rfl) fun w6 H => ?_
  replace H := hsn H
  refine asI rfl <| xk hK5 <| wp_ret ?_
  obtain rfl := osi hF
  refine e_2 rfl (qh_cell (l := (cl26 y2)) tg26 H rfl (k := 0) rfl rfl rfl) (q_tmp rfl) ?_
  exact ⟨rfl, H.toExt⟩
end Go.Proofs.YtmbcolbbekbccaaGreat
namespace Go.Proofs.YtmbcolbbekbccaaGreat
open Go Go.RowKit
section
variable {S : Mem} {w : World}
def field_Mul_p (m : Int) (a b : W4) : Option W4 := some (tv (nv a * nv b % modN m))
theorem field_Mul_c (_ : Sub S w) {x0 : Int} {x1 x2 r : W4} (hF : field_Mul_p x0 x1 x2 = some r) : Calls Tryz.prog 51 #[.int .i64 x0, .agg (cl24 x1).toArray, .agg (cl24 x2).toArray] w fun e w' => e = .returned (.agg (cl24 r).toArray) ∧ Ext w w' := by
 obtain rfl := osi hF; rw [clN_v, clN_w, clN_w]; exact mul_c x0 _ _ (nv_lt _) (nv_lt _) w
def field_Inv_p (m : Int) (a : W4) : Option (W4 × Int) := some (tv (invV m (nv a)), invE m (nv a))
theorem field_Inv_c (_ : Sub S w) {x0 : Int} {x1 : W4} {r : W4 × Int} (hF : field_Inv_p x0 x1 = some r) : Calls Tryz.prog 50 #[.int .i64 x0, .agg (cl24 x1).toArray] w fun e w' => e = .returned (.tuple #[.agg (cl24 r.1).toArray, .int .i64 r.2]) ∧ Ext w w' := by
 obtain rfl := osi hF; rw [clN_v, clN_w]; exact inv_c x0 _ (nv_lt _) w
def field_Of_p (m : Int) (l : List UInt8) : Option (W4 × Int) := Option.bind (chk (decide (l.length ≤ LIM))) fun _ => some (tv (ofV m l), ofE m l)
theorem field_Of_c (_ : Sub S w) {x0 : Int} {x1 : List UInt8} {r : W4 × Int} (hF : field_Of_p x0 x1 = some r) : Calls Tryz.prog 47 #[.int .i64 x0, str x1] w fun e w' => e = .returned (.tuple #[.agg (cl24 r.1).toArray, .int .i64 r.2]) ∧ Ext w w' := by
 unfold field_Of_p at hF
 obtain ⟨y, e, hF⟩ := bnd hF
 have hl := of_decide_eq_true (chk_some e)
 obtain rfl := osi hF; rw [clN_v]; exact of_c x0 x1 (by unfold LIM at hl; omega) w
def curve_Add_p (x0 x1 : Pw) : Option (Pw × Int) := some (ptW (cadd (apT x0) (apT x1)), cadde (apT x0) (apT x1))
theorem curve_Add_c (_ : Sub S w) {x0 x1 : Pw} {r : Pw × Int} (hF : curve_Add_p x0 x1 = some r) : Calls Tryz.prog 62 #[.agg (cl26 x0).toArray, .agg (cl26 x1).toArray] w fun e w' => e = .returned (.tuple #[.agg (cl26 r.1).toArray, .int .i64 r.2]) ∧ Ext w w' := by
 obtain rfl := osi hF; rw [clP_ap, clP_ap, clP_W]
 exact cadd_c (nv x0.1) (nv x0.2.1) x0.2.2 (nv_lt _) (nv_lt _) (nv x1.1) (nv x1.2.1) x1.2.2 (nv_lt _) (nv_lt _) w
end
end Go.Proofs.YtmbcolbbekbccaaGreat
namespace Go.Proofs.YtmbcolbbekbccaaGreat
open Go Go.RowKit
attribute [local irreducible] wpList wpT Code.wp Calls Code.rounds
theorem is42 : IsFn Tryz.prog 42 := isFn Tryz.func42
theorem is47 : IsFn Tryz.prog 47 := isFn Tryz.func47
theorem is62 : IsFn Tryz.prog 62 := isFn Tryz.func62
theorem is86 : IsFn Tryz.prog 86 := isFn Tryz.func86
def sign_sum_p (x0 : List UInt8) : Option (Qw) :=
  Option.bind (hash_Sum_p x0) fun y1 => Option.bind (field_Reduce_p 1 y1) fun y2 => some (y2)
theorem sign_sum_c {S : Mem} {w : World} (hS : Sub S w) {x0 : List UInt8} {r : Qw} (hF : sign_sum_p x0 = some r) :
    Calls Tryz.prog 42 #[str (x0)] w fun e w' => e = .returned (.agg ((cl24 r)).toArray) ∧ Ext w w' := by
 refine enter (n := 6) Tryz.func42 rfl rfl rfl ?_
 have H := HS.start hS
 unfold sign_sum_p at hF
 refine sr fun K1 hK1 => p_ofb (a_alloc (l := (cl24 ((0 : UInt64), (0 : UInt64), (0 : UInt64), (0 : UInt64)))) H tz24 rfl) fun w1 b1 H => xk hK1 <| sr fun K2 hK2 => mvT rfl <| bn hF fun y1 e1 hF => p_call (l := [str (x0)]) is87 rfl <| (hash_Sum_c H.sub e1).mono <| H.xe fun w2 H => bn hF fun y2 e2 hF => ?_
 refine p_call (l := [.int .i64 (1), str (y1)]) is86 rfl <| (field_Reduce_c H.sub e2).mono <| H.xe fun w3 H => p_ofs (a_store (k := 0) (l := (cl24 y2)) tsz24 H rfl rfl rfl (cells_agg _) rfl (onz rfl) rfl) fun w4 H => ?_
 replace H := hsn H
 refine xk hK2 <| wp_ret ?_
 obtain rfl := osi hF
 refine e_1 rfl (qh_cell (l := (cl24 y2)) tg24 H rfl (k := 0) rfl rfl rfl) ?_
 exact ⟨rfl, H.toExt⟩
def sign_Verify_p (x0 : Qp) (x1 : List UInt8) (x2 : List UInt8) : Option (Bool) :=
  Option.bind (bif (((x2).length : Int) != 64) then (some (true)) else (some (x0.2.2))) (fun t1 => Option.bind (bif t1 then (some (true)) else (Option.bind (curve_On_p x0) fun y1 => some ((!y1)))) (fun t2 => bif t2 then (some (false)) else (Option.bind (subH x2 32) fun y2 => Option.bind (field_Of_p 1 y2) fun y3 => Option.bind (subL x2 32) fun y4 => Option.bind (field_Of_p 1 y4) fun y5 => Option.bind (bif (bif (y3.2 != 0) then true else (y5.2 != 0)) then (some (true)) else (Option.bind (sign_fine_p y3.1) fun y6 => some ((!y6)))) (fun t3 => Option.bind (bif t3 then (some (true)) else (Option.bind (sign_fine_p y5.1) fun y7 => some ((!y7)))) (fun t4 => bif t4 then (some (false)) else (Option.bind (field_Inv_p 1 y5.1) fun y8 => Option.bind (sign_sum_p x1) fun y9 => Option.bind (field_Mul_p 1 y9 y8.1) fun y10 => Option.bind (sign_times_p y10) fun y11 => Option.bind (field_Mul_p 1 y3.1 y8.1) fun y12 => Option.bind (curve_Mul_p y12 x0) fun y13 => Option.bind (curve_Add_p y11 y13.1) fun y14 => bif (!y14.1.2.2) then (Option.bind (sign_zero_p) fun y15 => Option.bind (field_Add_p 1 y14.1.1 y15) fun y16 => some (((y16 : Qw) == (y3.1 : Qw)))) else (some (false))))))))
theorem sign_Verify_c {S : Mem} {w : World} (hS : Sub S w) {x0 : Qp} {x1 : List UInt8} {x2 : List UInt8} {r : Bool} (hF : sign_Verify_p x0 x1 x2 = some r) :
    Calls Tryz.prog 14 #[.agg ((cl26 x0)).toArray, str (x1), str (x2)] w fun e w' => e = .returned (.bool (r)) ∧ Ext w w' := by
 refine enter (n := 93) Tryz.func14 rfl rfl rfl ?_
 have H := HS.start hS
 unfold sign_Verify_p at hF
 refine sr fun K1 hK1 => p_ofb (a_box (l := (cl26 x0)) H rfl) fun w1 b1 H => asB rfl <| xk hK1 <| wp_seq_k fun K2 hK2 => sr fun K3 hK3 => mvT rfl <| p_val (r_lenT (N := (x2).length) u9 rfl rfl) <| p_val (r_neqI rfl rfl) ?_
 refine mvB rfl <| nameL fun m1 k1 => gs_at 3 fun K4 hK4 R2 hR2 => bn hF fun t1 hE1 hF1 => ?_
 have J5 : ∀ (m2 : FM) (w2 : World), (∀ t, has [22, 23, 24] t = false → look m2 t = look m1 t) → look m2 24 = .bool (t1) → HS ⟨S, [], w⟩ S w2 [.blk b1 ((cl26 x0)) 26] → K4 m2 w2 := by
  clear H; intro m2 w2 k2 q1 H
  have q2 : look m2 1 = str (x1) := (k2 1 rfl).trans (k1 1)
  have q3 : look m2 2 = str (x2) := (k2 2 rfl).trans (k1 2)
  have q4 : look m2 3 = .pointer (some ⟨b1, 0, none⟩) := (k2 3 rfl).trans (k1 3)
  refine hK4 _ _ <| p_mv q1 <| nameL fun m3 k3 => gs_at 4 fun K5 hK5 R3 hR3 => bn hF1 fun t2 hE2 hF2 => ?_
  have J4 : ∀ (m4 : FM) (w4 : World), (∀ t, has [26, 27, 28, 29] t = false → look m4 t = look m3 t) → look m4 29 = .bool (t2) → HS ⟨S, [], w⟩ S w4 [.blk b1 ((cl26 x0)) 26] → K5 m4 w4 := by
   clear H; intro m4 w4 k4 q5 H
   have q6 := (k4 1 rfl).trans ((k3 1).trans q2)
   have q7 := (k4 2 rfl).trans ((k3 2).trans q3)
   have q8 := (k4 3 rfl).trans ((k3 3).trans q4)
   refine hK5 _ _ <| xk hK3 ?_
   refine c_split q5 (fun hc1 => ?_) (fun hc1 => ?_)
   ·replace hF2 := cnd_t hF2 hc1
    refine sr fun K6 hK6 => asB rfl <| xk hK6 <| wp_ret <| x_ret ?_
    obtain rfl := osi hF2
    refine e_1 rfl (q_tmp rfl) ?_
    exact ⟨rfl, H.toExt⟩
   ·replace hF2 := cnd_f hF2 hc1
    refine wp_skip <| xn hK2 <| sr fun K7 hK7 => p_mv q7 <| bn hF2 fun y2 e2 hF2 => p_val (r_sliceTH (h := (32 : Int).toNat) (r := y2) u9 rfl rfl (subH_some e2).1 (subH_some e2).2.1 (subH_some e2).2.2) <| bn hF2 fun y3 e3 hF2 => p_call (l := [.int .i64 (1), str (y2)]) is47 rfl <| (field_Of_c H.sub e3).mono <| H.xe fun w5 H => ?_
    refine mvU rfl <| p_val (r_extract (v := .agg ((cl24 y3.1)).toArray) rfl rfl) <| p_val (r_extract (v := .int .i64 (y3.2)) rfl rfl) <| p_ofb (a_alloc (l := (cl24 ((0 : UInt64), (0 : UInt64), (0 : UInt64), (0 : UInt64)))) H tz24 rfl) fun w6 b2 H => p_ofs (a_store (k := 0) (l := (cl24 y3.1)) tsz24 H rfl rfl rfl (cells_agg _) rfl (onz rfl) rfl) fun w7 H => ?_
    replace H := hsn H
    refine asI rfl <| xk hK7 <| sr fun K8 hK8 => p_mv q7 <| bn hF2 fun y4 e4 hF2 => p_val (r_sliceTL (p := (32 : Int).toNat) (r := y4) u9 rfl rfl (subL_some e4).1 (subL_some e4).2.1 (subL_some e4).2.2) <| bn hF2 fun y5 e5 hF2 => p_call (l := [.int .i64 (1), str (y4)]) is47 rfl <| (field_Of_c H.sub e5).mono <| H.xe fun w8 H => ?_
    refine mvU rfl <| p_val (r_extract (v := .agg ((cl24 y5.1)).toArray) rfl rfl) <| p_val (r_extract (v := .int .i64 (y5.2)) rfl rfl) <| p_ofb (a_alloc (l := (cl24 ((0 : UInt64), (0 : UInt64), (0 : UInt64), (0 : UInt64)))) H tz24 rfl) fun w9 b3 H => p_ofs (a_store (k := 0) (l := (cl24 y5.1)) tsz24 H rfl rfl rfl (cells_agg _) rfl (onz rfl) rfl) fun w10 H => ?_
    replace H := hsn H
    refine asI rfl <| xk hK8 <| wp_seq_k fun K9 hK9 => sr fun K10 hK10 => mvI rfl <| p_val (r_neqI rfl rfl) <| mvB rfl <| nameL fun m5 k5 => gs_at 3 fun K11 hK11 R6 hR6 => ?_
    have J1 : ∀ (m6 : FM), (∀ t, has [45, 46, 47] t = false → look m6 t = look m5 t) → look m6 47 = .bool ((bif (y3.2 != 0) then true else (y5.2 != 0))) → K11 m6 w10 := by
     intro m6 k6 q9
     have q10 := (k6 1 rfl).trans ((k5 1).trans q6)
     have q11 := (k6 3 rfl).trans ((k5 3).trans q8)
     have q12 : look m6 7 = .pointer (some ⟨b2, 0, none⟩) := (k6 7 rfl).trans (k5 7)
     have q13 : look m6 9 = .pointer (some ⟨b3, 0, none⟩) := (k6 9 rfl).trans (k5 9)
     refine hK11 _ _ ?_; clear hK11 hR6
     refine p_mv q9 <| nameL fun m7 k7 => gs_at 4 fun K12 hK12 R7 hR7 => bn hF2 fun t3 hE3 hF3 => ?_
     have J3 : ∀ (m8 : FM) (w12 : World), (∀ t, has [49, 50, 51, 52] t = false → look m8 t = look m7 t) → look m8 52 = .bool (t3) → HS ⟨S, [], w⟩ S w12 [.blk b3 ((cl24 y5.1)) 24, .blk b2 ((cl24 y3.1)) 24, .blk b1 ((cl26 x0)) 26] → K12 m8 w12 := by
      clear H; intro m8 w12 k8 q14 H
      have q15 := (k8 1 rfl).trans ((k7 1).trans q10)
      have q16 := (k8 3 rfl).trans ((k7 3).trans q11)
      have q17 := (k8 7 rfl).trans ((k7 7).trans q12)
      have q18 := (k8 9 rfl).trans ((k7 9).trans q13)
      refine hK12 _ _ <| p_mv q14 <| nameL fun m9 k9 => gs_at 4 fun K13 hK13 R8 hR8 => bn hF3 fun t4 hE4 hF4 => ?_
      have J2 : ∀ (m10 : FM) (w14 : World), (∀ t, has [54, 55, 56, 57] t = false → look m10 t = look m9 t) → look m10 57 = .bool (t4) → HS ⟨S, [], w⟩ S w14 [.blk b3 ((cl24 y5.1)) 24, .blk b2 ((cl24 y3.1)) 24, .blk b1 ((cl26 x0)) 26] → K13 m10 w14 := by
       clear H; intro m10 w14 k10 q19 H
       have q20 := (k10 1 rfl).trans ((k9 1).trans q15)
       have q21 := (k10 3 rfl).trans ((k9 3).trans q16)
       have q22 := (k10 7 rfl).trans ((k9 7).trans q17)
       have q23 := (k10 9 rfl).trans ((k9 9).trans q18)
       refine hK13 _ _ <| xk hK10 ?_
       refine c_split q19 (fun hc2 => ?_) (fun hc2 => ?_)
       ·replace hF4 := cnd_t hF4 hc2
        refine sr fun K14 hK14 => asB rfl <| xk hK14 <| wp_ret <| x_ret ?_
        obtain rfl := osi hF4
        refine e_1 rfl (q_tmp rfl) ?_
        exact ⟨rfl, H.toExt⟩
       ·replace hF4 := cnd_f hF4 hc2
        refine wp_skip <| xn hK9 <| sr fun K15 hK15 => p_val (h_load (l := (cl24 y5.1)) tg24 H q23 (k := 0) rfl rfl rfl) <| bn hF4 fun y8 e8 hF4 => p_call (l := [.int .i64 (1), .agg ((cl24 y5.1)).toArray]) is50 rfl <| (field_Inv_c H.sub e8).mono <| H.xe fun w15 H => mvU rfl <| p_val (r_extract (v := .agg ((cl24 y8.1)).toArray) rfl rfl) ?_
        refine p_val (r_extract (v := .int .i64 (y8.2)) rfl rfl) <| p_ofb (a_alloc (l := (cl24 ((0 : UInt64), (0 : UInt64), (0 : UInt64), (0 : UInt64)))) H tz24 rfl) fun w16 b4 H => p_ofs (a_store (k := 0) (l := (cl24 y8.1)) tsz24 H rfl rfl rfl (cells_agg _) rfl (onz rfl) rfl) fun w17 H => ?_
        replace H := hsn H
        refine asI rfl <| xk hK15 <| wp_seq_k fun K16 hK16 => bn hF4 fun y9 e9 hF4 => bn hF4 fun y10 e10 hF4 => bn hF4 fun y11 e11 hF4 => ?_
        apply wp_region_ext 6 (kindsF [(1, .inl (.agg ((cl24 y9)).toArray)), (3, .inl (.agg ((cl24 y10)).toArray)), (4, .inl (.agg ((cl26 y11)).toArray)), (5, .inr (lowR (NewAt w17.drew ((cl26 (((0 : UInt64), (0 : UInt64), (0 : UInt64), (0 : UInt64)), ((0 : UInt64), (0 : UInt64), (0 : UInt64), (0 : UInt64)), false))) 26)))]) rfl rfl (by kernel_rfl); intro vs1
        simp only [tkS, tkZ, drS, drZ]
        replace H := H.drew
        refine tp (r_move q20) <| t_call (l := [str (x1)]) rfl rfl is42 rfl (fun w hx hF => (sign_sum_c (H.ext hx).sub e9).mono (fun _ _ h => h)) <| t_v (fun w hx => h_load (l := (cl24 y8.1)) tg24 (H.ext hx) rfl (k := 0) rfl rfl rfl) <| t_call (l := [.int .i64 (1), .agg ((cl24 y9)).toArray, .agg ((cl24 y8.1)).toArray]) rfl rfl is51 rfl (fun w hx hF => (field_Mul_c (H.ext hx).sub e10).mono (fun _ _ h => h)) ?_
        refine t_call (l := [.agg ((cl24 y10)).toArray]) rfl rfl is35 rfl (fun w hx hF => (sign_times_c (H.ext hx).sub e11).mono (fun _ _ h => h)) <| t_alloc rfl rfl tz26 rfl ?_
        refine t_nil (fun w18 hx hF hA => ?_)
        obtain ⟨F1, hd1, h01⟩ := depE hF
        obtain ⟨⟨b5, eq1, hb5, hh1⟩, hn1⟩ := fact_relF hF 5 rfl rfl
        have hle1 := gf_le (F := F1) (w := w18) H.sub; replace H := (HS.adopt (H.callF (F := F1) hx) (Nat.le_trans H.fr.size hb5) (gf_none hb5 (by rw [h01]; exact noF hA (by decide) rfl eq1 hn1)) hh1 (HS.keys_lt H hb5)); clear hx hF hA hd1 h01; generalize gf S w17.drew F1 w18 = S1 at hle1 H
        refine p_ofs (a_store (k := 0) (l := (cl26 y11)) tsz26 H eq1 rfl rfl (cells_agg _) rfl (onz rfl) rfl) fun w19 H => ?_
        replace H := hsn H
        refine wpList_nil ?_; refine on_norm ?_
        refine xn hK16 <| wp_seq_k fun K17 hK17 => bn hF4 fun y12 e12 hF4 => bn hF4 fun y13 e13 hF4 => ?_
        apply wp_region_ext 9 (kindsF [(2, .inl (.agg ((cl24 y12)).toArray)), (4, .inl (.tuple #[.agg ((cl26 y13.1)).toArray, .int .i64 (y13.2)])), (8, .inr (lowR (NewAt w19.drew ((cl26 (((0 : UInt64), (0 : UInt64), (0 : UInt64), (0 : UInt64)), ((0 : UInt64), (0 : UInt64), (0 : UInt64), (0 : UInt64)), false))) 26)))]) rfl rfl (by kernel_rfl); intro vs2
        simp only [tkS, tkZ, drS, drZ]
        replace H := H.drew
        refine t_v (fun w hx => h_load (l := (cl24 y3.1)) tg24 (H.ext hx) q22 (k := 3) rfl rfl rfl) <| t_v (fun w hx => h_load (l := (cl24 y8.1)) tg24 (H.ext hx) rfl (k := 1) rfl rfl rfl) <| t_call (l := [.int .i64 (1), .agg ((cl24 y3.1)).toArray, .agg ((cl24 y8.1)).toArray]) rfl rfl is51 rfl (fun w hx hF => (field_Mul_c (H.ext hx).sub e12).mono (fun _ _ h => h)) ?_
        refine t_v (fun w hx => h_load (l := (cl26 x0)) tg26 (H.ext hx) q21 (k := 4) rfl rfl rfl) <| t_call (l := [.agg ((cl24 y12)).toArray, .agg ((cl26 x0)).toArray]) rfl rfl is61 rfl (fun w hx hF => (curve_Mul_c (H.ext hx).sub e13).mono (fun _ _ h => h)) <| tp (r_move (v := .tuple #[.agg ((cl26 y13.1)).toArray, .int .i64 (y13.2)]) rfl) <| tp (r_extract (v := .agg ((cl26 y13.1)).toArray) rfl rfl) ?_
        refine t_float (fun w => r_extract (v := .int .i64 (y13.2)) rfl rfl) rfl rfl <| t_alloc rfl rfl tz26 rfl ?_
        refine t_nil (fun w20 hx hF hA => ?_)
        obtain ⟨F2, hd2, h02⟩ := depE hF
        obtain ⟨⟨b6, eq2, hb6, hh2⟩, hn2⟩ := fact_relF hF 8 rfl rfl
        have hle2 := gf_le (F := F2) (w := w20) H.sub; replace H := (HS.adopt (H.callF (F := F2) hx) (Nat.le_trans H.fr.size hb6) (gf_none hb6 (by rw [h02]; exact noF hA (by decide) rfl eq2 hn2)) hh2 (HS.keys_lt H hb6)); clear hx hF hA hd2 h02; generalize gf S1 w19.drew F2 w20 = S2 at hle2 H
        refine p_ofs (a_store (k := 0) (l := (cl26 y13.1)) tsz26 H eq2 rfl rfl (cells_agg _) rfl (onz rfl) rfl) fun w21 H => ?_
        replace H := hsn H
        refine asI rfl ?_
        refine wpList_nil ?_; refine on_norm ?_
        refine xn hK17 <| sr fun K18 hK18 => p_val (h_load (l := (cl26 y11)) tg26 H eq1 (k := 1) rfl rfl rfl) <| p_val (h_load (l := (cl26 y13.1)) tg26 H eq2 (k := 0) rfl rfl rfl) <| bn hF4 fun y14 e14 hF4 => p_call (l := [.agg ((cl26 y11)).toArray, .agg ((cl26 y13.1)).toArray]) is62 rfl <| (curve_Add_c H.sub e14).mono <| H.xe fun w22 H => mvU rfl <| p_val (r_extract (v := .agg ((cl26 y14.1)).toArray) rfl rfl) ?_
        refine p_val (r_extract (v := .int .i64 (y14.2)) rfl rfl) <| p_ofb (a_alloc (l := (cl26 (((0 : UInt64), (0 : UInt64), (0 : UInt64), (0 : UInt64)), ((0 : UInt64), (0 : UInt64), (0 : UInt64), (0 : UInt64)), false))) H tz26 rfl) fun w23 b7 H => p_ofs (a_store (k := 0) (l := (cl26 y14.1)) tsz26 H rfl rfl rfl (cells_agg _) rfl (onz rfl) rfl) fun w24 H => ?_
        replace H := hsn H
        refine asI rfl <| xk hK18 <| wp_seq_k fun K19 hK19 => ?_
        rcases Bool.eq_false_or_eq_true ((!y14.1.2.2)) with hb7 | hb7
        ·replace hF4 := cnd_t hF4 hb7
         refine bn hF4 fun y15 e15 hF4 => bn hF4 fun y16 e16 hF4 => ?_
         apply wp_region_ext 11 (kindsF [(6, .inl (.agg ((cl24 y15)).toArray)), (7, .inl (.agg ((cl24 y16)).toArray))]) rfl rfl (by kernel_rfl); intro vs3
         simp only [tkS, tkZ, drS, drZ]
         replace H := H.drew
         refine tp (r_field fa26_2 rfl) <| t_v (fun w hx => h_load1 (v := .bool (y14.1.2.2)) to4 (H.ext hx) rfl (k := 0) rfl rfl) <| tp (r_not (t := (!y14.1.2.2)) rfl rfl) <| tp (r_move (v := .bool ((!y14.1.2.2))) rfl) <| t_valG rfl hb7 (fun w hx => r_field fa26_0 rfl) rfl rfl <| t_valG rfl hb7 (fun w hx => h_load (l := (cl24 y14.1.1)) tg24 (H.ext hx) rfl (k := 0) rfl rfl rfl) rfl rfl ?_
         refine t_callG rfl hb7 (l := []) rfl rfl is48 rfl (fun w hx hF => (sign_zero_c (H.ext hx).sub e15).mono (fun _ _ h => h)) <| t_callG rfl hb7 (l := [.int .i64 (1), .agg ((cl24 y14.1.1)).toArray, .agg ((cl24 y15)).toArray]) rfl rfl is49 rfl (fun w hx hF => (field_Add_c (H.ext hx).sub e16).mono (fun _ _ h => h)) ?_
         refine t_valG rfl hb7 (fun w hx => h_load (l := (cl24 y3.1)) tg24 (H.ext hx) q22 (k := 5) rfl rfl rfl) rfl rfl <| t_valG rfl hb7 (fun w hx => r_eqR eg24 (by decide) (eqt24 y16 y3.1) rfl rfl) rfl rfl <| tp (r_pickt (v := .bool (((y16 : Qw) == (y3.1 : Qw)))) rfl hb7 rfl) ?_
         refine t_nil (fun w25 hx hF hA => ?_)
         replace H := H.ext hx; clear hx hF hA
         refine asB rfl ?_
         refine wpList_nil ?_; refine on_norm ?_
         refine xn hK19 <| wp_ret ?_
         obtain rfl := osi hF4
         refine e_1 rfl (q_tmp rfl) ?_
         exact ⟨rfl, H.toExt⟩
        ·replace hF4 := cnd_f hF4 hb7
         apply wp_region_ext 11 (kindsF []) rfl rfl (by kernel_rfl); intro vs3
         simp only [tkS, tkZ, drS, drZ]
         replace H := H.drew
         refine tp (r_field fa26_2 rfl) <| t_v (fun w hx => h_load1 (v := .bool (y14.1.2.2)) to4 (H.ext hx) rfl (k := 0) rfl rfl) <| tp (r_not (t := (!y14.1.2.2)) rfl rfl) <| tp (r_move (v := .bool ((!y14.1.2.2))) rfl) <| t_skip rfl hb7 rfl ?_
         rw [put_fr]
         refine t_skip rfl hb7 rfl ?_
         rw [put_fr]
         refine t_skip rfl hb7 rfl ?_
         rw [put_fr]
         refine t_skip rfl hb7 rfl ?_
         rw [put_fr]
         refine t_skip rfl hb7 rfl ?_
         rw [put_fr]
         refine t_skip rfl hb7 rfl ?_
         rw [put_fr]
         refine tp (r_pickf (v := .bool (false)) rfl hb7 rfl) ?_
         refine t_nil (fun w26 hx hF hA => ?_)
         replace H := H.ext hx; clear hx hF hA
         refine asB rfl ?_
         refine wpList_nil ?_; refine on_norm ?_
         refine xn hK19 <| wp_ret ?_
         obtain rfl := osi hF4
         refine e_1 rfl (q_tmp rfl) ?_
         exact ⟨rfl, H.toExt⟩
      refine p_gs (j := 11) (gvl_at rfl rfl (k9 53)) (fun hb4 => ?_) (fun hb4 => ?_)
      ·replace hE4 := cnd_t hE4 hb4
       refine p_skip (gvl_at rfl rfl (k9 53)) hb4 ?_
       rw [put_fr]
       refine p_skip (gvl_at rfl rfl (k9 53)) hb4 ?_
       rw [put_fr]
       refine p_skip (gvl_at rfl rfl (k9 53)) hb4 ?_
       rw [put_fr]
       refine p_val (r_pickt (v := .bool (true)) (k9 53) hb4 rfl) <| hR8 _ _ ?_
       replace H := hsn H
       obtain rfl := osi hE4
       exact J2 _ _ kcx rfl H
      ·replace hE4 := cnd_f hE4 hb4
       refine p_want (gvl_at rfl rfl (k9 53)) hb4 <| p_val (h_load (l := (cl24 y5.1)) tg24 H ((k9 9).trans q18) (k := 0) rfl rfl rfl) <| p_want (gvl_at rfl rfl (k9 53)) hb4 <| bn hE4 fun y7 e7 hE4 => p_call (l := [.agg ((cl24 y5.1)).toArray]) is34 rfl <| (sign_fine_c H.sub e7).mono <| H.xe fun w13 H => p_want (gvl_at rfl rfl (k9 53)) hb4 <| p_val (r_not (t := (!y7)) rfl rfl) ?_
       refine p_val (r_pickf (v := .bool ((!y7))) (k9 53) hb4 rfl) <| hR8 _ _ ?_
       replace H := hsn H
       obtain rfl := osi hE4
       exact J2 _ _ kcx rfl H
     refine p_gs (j := 6) (gvl_at rfl rfl (k7 48)) (fun hb3 => ?_) (fun hb3 => ?_)
     ·replace hE3 := cnd_t hE3 hb3
      refine p_skip (gvl_at rfl rfl (k7 48)) hb3 ?_
      rw [put_fr]
      refine p_skip (gvl_at rfl rfl (k7 48)) hb3 ?_
      rw [put_fr]
      refine p_skip (gvl_at rfl rfl (k7 48)) hb3 ?_
      rw [put_fr]
      refine p_val (r_pickt (v := .bool (true)) (k7 48) hb3 rfl) <| hR7 _ _ ?_
      replace H := hsn H
      obtain rfl := osi hE3
      exact J3 _ _ kcx rfl H
     ·replace hE3 := cnd_f hE3 hb3
      refine p_want (gvl_at rfl rfl (k7 48)) hb3 <| p_val (h_load (l := (cl24 y3.1)) tg24 H ((k7 7).trans q12) (k := 1) rfl rfl rfl) <| p_want (gvl_at rfl rfl (k7 48)) hb3 <| bn hE3 fun y6 e6 hE3 => p_call (l := [.agg ((cl24 y3.1)).toArray]) is34 rfl <| (sign_fine_c H.sub e6).mono <| H.xe fun w11 H => p_want (gvl_at rfl rfl (k7 48)) hb3 <| p_val (r_not (t := (!y6)) rfl rfl) ?_
      refine p_val (r_pickf (v := .bool ((!y6))) (k7 48) hb3 rfl) <| hR7 _ _ ?_
      replace H := hsn H
      obtain rfl := osi hE3
      exact J3 _ _ kcx rfl H
    refine p_gs (j := 2) (gvl_at rfl rfl (k5 44)) (fun hb8 => ?_) (fun hb8 => ?_)
    ·skip
     refine p_skip (gvl_at rfl rfl (k5 44)) hb8 ?_
     rw [put_fr]
     refine p_skip (gvl_at rfl rfl (k5 44)) hb8 ?_
     rw [put_fr]
     refine p_val (r_pickt (v := .bool (true)) (k5 44) hb8 rfl) <| hR6 _ _ ?_
     exact J1 _ kcx (show (.bool (true) : Value) = .bool ((bif (y3.2 != 0) then true else (y5.2 != 0))) from congrArg Value.bool (by simp only [hb8, cond_true, cond_false]))
    ·skip
     refine p_want (gvl_at rfl rfl (k5 44)) hb8 <| p_mv (k5 10) <| p_want (gvl_at rfl rfl (k5 44)) hb8 <| p_val (r_neqI rfl rfl) <| p_val (r_pickf (v := .bool ((y5.2 != 0))) (k5 44) hb8 rfl) <| hR6 _ _ ?_
     exact J1 _ kcx (show (.bool ((y5.2 != 0)) : Value) = .bool ((bif (y3.2 != 0) then true else (y5.2 != 0))) from congrArg Value.bool (by simp only [hb8, cond_true, cond_false]))
  refine p_gs (j := 7) (gvl_at rfl rfl (k3 25)) (fun hb2 => ?_) (fun hb2 => ?_)
  ·replace hE2 := cnd_t hE2 hb2
   refine p_skip (gvl_at rfl rfl (k3 25)) hb2 ?_
   rw [put_fr]
   refine p_skip (gvl_at rfl rfl (k3 25)) hb2 ?_
   rw [put_fr]
   refine p_skip (gvl_at rfl rfl (k3 25)) hb2 ?_
   rw [put_fr]
   refine p_val (r_pickt (v := .bool (true)) (k3 25) hb2 rfl) <| hR3 _ _ ?_
   replace H := hsn H
   obtain rfl := osi hE2
   exact J4 _ _ kcx rfl H
  ·replace hE2 := cnd_f hE2 hb2
   refine p_want (gvl_at rfl rfl (k3 25)) hb2 <| p_val (h_load (l := (cl26 x0)) tg26 H ((k3 3).trans q4) (k := 0) rfl rfl rfl) <| p_want (gvl_at rfl rfl (k3 25)) hb2 <| bn hE2 fun y1 e1 hE2 => p_call (l := [.agg ((cl26 x0)).toArray]) is60 rfl <| (curve_On_c H.sub e1).mono <| H.xe fun w3 H => p_want (gvl_at rfl rfl (k3 25)) hb2 <| p_val (r_not (t := (!y1)) rfl rfl) ?_
   refine p_val (r_pickf (v := .bool ((!y1))) (k3 25) hb2 rfl) <| hR3 _ _ ?_
   replace H := hsn H
   obtain rfl := osi hE2
   exact J4 _ _ kcx rfl H
 refine p_gs (j := 3) (gvl_at rfl rfl (k1 21)) (fun hb1 => ?_) (fun hb1 => ?_)
 ·replace hE1 := cnd_t hE1 hb1
  refine p_skip (gvl_at rfl rfl (k1 21)) hb1 ?_
  rw [put_fr]
  refine p_skip (gvl_at rfl rfl (k1 21)) hb1 ?_
  rw [put_fr]
  refine p_val (r_pickt (v := .bool (true)) (k1 21) hb1 rfl) <| hR2 _ _ ?_
  replace H := hsn H
  obtain rfl := osi hE1
  exact J5 _ _ kcx rfl H
 ·replace hE1 := cnd_f hE1 hb1
  refine p_want (gvl_at rfl rfl (k1 21)) hb1 <| p_val (r_field fa26_2 (k1 3)) <| p_want (gvl_at rfl rfl (k1 21)) hb1 <| p_val (h_load1 (v := .bool (x0.2.2)) to4 H rfl (k := 0) rfl rfl) <| p_val (r_pickf (v := .bool (x0.2.2)) (k1 21) hb1 rfl) <| hR2 _ _ ?_
  replace H := hsn H
  obtain rfl := osi hE1
  exact J5 _ _ kcx rfl H
end Go.Proofs.YtmbcolbbekbccaaGreat
namespace Go.Proofs.YtmbcolbbekbccaaGreat
open Go Go.RowKit
attribute [local irreducible] wpList wpT Code.wp Calls Code.rounds
theorem bu1 : Tryz.prog.underlying 132 = some (.pointer 134) := by kernel_rfl
theorem bu2 : Tryz.prog.underlying 190 = some .unsafePointer := by kernel_rfl
theorem bi1 : (Tryz.prog.info? 134).map (·.size) = some 2 := by kernel_rfl
theorem bl1 : liesAt Tryz.prog Tryz.prog.depth 134 (2 / Tryz.prog.cellsOf 134) 0 134 1 = true := by kernel_rfl
theorem bf0 : TField Tryz.prog 134 0 0 := fun _ _ _ => by kernel_rfl
theorem bf1 : TField Tryz.prog 134 1 1 := fun _ _ _ => by kernel_rfl
theorem bto : TOne Tryz.prog 132 := ⟨fun _ => by kernel_rfl, fun _ => by kernel_rfl⟩
theorem bto2 : TOne Tryz.prog 127 := ⟨fun _ => by kernel_rfl, fun _ => by kernel_rfl⟩
theorem btz : TSz Tryz.prog 132 1 := fun _ => by kernel_rfl
theorem bnoEsc (x : Value) (w : World) : (callFunc 160 [x].toArray).run Tryz.prog w = .ok (.value x) w := by
 have h := run_callFunc_extern (P := Tryz.prog) (w := w) (args := #[x]) Tryz.func160 (by kernel_rfl) (by kernel_rfl) (by kernel_rfl) (e := Extern.AbiNoEscape.same) (by kernel_rfl)
 show (callFunc 160 #[x]).run Tryz.prog w = _
 rw [h, Lib.run_noEscape]; rfl
def Builder_copyCheck_p (x0 : List UInt8) : Option (List UInt8) := some x0
section
variable {P : Program} {w : World} {B : Bas} {S : Mem} {L : List Res} {e : Operand → Value} {dst : Option Tmp} {g : Option (Nat × Bool)} {ty : TypeId} {pos : String} {aft : Array Edge} {x y : Operand} {T T1 T2 T' : TypeId} {a : Addr}
theorem r_eqPN (hu : P.underlying T = some (.pointer T1)) (hx : e x = .pointer none) (hy : e y = .pointer none) : (execOp e ⟨dst, .binOp .eql T x y T', ty, pos, aft, g⟩).run P w = .ok (.value (.bool true)) w := by
 have h : (Op.equal T (.pointer none) (.pointer none)).run P w = .ok true w := by
  have h : ∀ d, (Op.equalIn (d + 1) T (.pointer none) (.pointer none)).run P w = .ok true w := fun d => by simp [Op.equalIn, Go.underlying, hu]
  exact h 9999
 simp [execOp, eqGuard, binOp, hx, hy, h]
theorem r_eqPS (hu : P.underlying T = some (.pointer T1)) (hx : e x = .pointer (some a)) (hy : e y = .pointer none) : (execOp e ⟨dst, .binOp .eql T x y T', ty, pos, aft, g⟩).run P w = .ok (.value (.bool false)) w := by
 have h : (Op.equal T (.pointer (some a)) (.pointer none)).run P w = .ok false w := by
  have h : ∀ d, (Op.equalIn (d + 1) T (.pointer (some a)) (.pointer none)).run P w = .ok false w := fun d => by simp [Op.equalIn, Go.underlying, hu]
  exact h 9999
 simp [execOp, eqGuard, binOp, hx, hy, h]
theorem r_nePP {j : TypeInfo} (hu : P.underlying T = some (.pointer T1)) (hj : P.info? T1 = some j) (hx : e x = .pointer (some a)) (hy : e y = .pointer (some a)) : (execOp e ⟨dst, .binOp .neq T x y T', ty, pos, aft, g⟩).run P w = .ok (.value (.bool false)) w := by
 have h := Lib.run_neq_ptr_same (P := P) w a hu hj
 simp [execOp, eqGuard, hx, hy, h]
end
theorem Builder_copyCheck_c {S : Mem} {w : World} {b0_ : Nat} {x0 : List UInt8} {pv1 : Value} {pcs1 prs1 : List Value} {pa1 : Value} (H : HS ⟨S, keysR [.blk b0_ ([pa1] ++ ([pv1])) 134, .osl (pv1) (x0).length 1 pcs1 prs1 5], w⟩ S w [.blk b0_ ([pa1] ++ ([pv1])) 134, .osl (pv1) (x0).length 1 pcs1 prs1 5])
  (pg1 : RL S pcs1 x0) (pg2 : BA b0_ pa1) {r : List UInt8} (hF : Builder_copyCheck_p x0 = some r) :
  Calls Tryz.prog 141 #[.pointer (some ⟨b0_, 0, none⟩)] w fun e w' => ∃ (S2 : Mem) (pv2 : Value) (pcs2 prs2 : List Value) (pa2 : Value), e = .returned (.tuple #[]) ∧ HS ⟨S, keysR [.blk b0_ ([pa1] ++ ([pv1])) 134, .osl (pv1) (x0).length 1 pcs1 prs1 5], w⟩ S2 w' [.blk b0_ ([pa2] ++ ([pv2])) 134, .osl (pv2) (r).length 1 pcs2 prs2 5] ∧ RL S2 pcs2 r ∧ BA b0_ pa2 := by
 obtain rfl := osi hF
 obtain ⟨j, hj, hjs⟩ := Option.map_eq_some_iff.1 bi1
 have hblk : w.heap[b0_]? = some (.cells ([pa1] ++ ([pv1])).toArray 134 (0, 0)) := H.own 0 _ rfl
 have hsh : w.shape? (⟨b0_, 0, none⟩ : Addr).block = some (134, 2) := by simp [World.shape?, hblk]
 refine enter (n := 20) Tryz.func141 rfl rfl rfl ?_
 rcases pg2 with rfl | rfl
 ·refine wp_seq_k ?_; intro K1 hK1
  refine wp_region_lit ?_
  refine p_val (r_move (v := .pointer (some ⟨b0_, 0, none⟩)) rfl) ?_
  refine p_val (r_nilck rfl) ?_
  refine p_val (r_field bf0 rfl) ?_
  refine p_val (h_load1 (v := .pointer none) bto H rfl (k := 0) rfl rfl) ?_
  refine p_val (r_eqPN bu1 rfl rfl) ?_
  refine wpList_nil ?_
  refine x_norm ?_; refine hK1 _ _ ?_
  refine c_true rfl rfl ?_
  refine wp_region_lit ?_
  refine p_val (r_move (v := .pointer (some ⟨b0_, 0, none⟩)) rfl) ?_
  refine p_val (r_move (v := .pointer (some ⟨b0_, 0, none⟩)) rfl) ?_
  refine p_val (c := .pointer (some ⟨b0_, 0, none⟩)) (by
   have h := Lib.run_to_unsafe (P := Tryz.prog) w ⟨b0_, 0, none⟩ bu1 bu2 hj (by rw [hjs]; decide) hsh (Nat.zero_lt_succ 1)
   simp only [execOp]
   exact (by rw [Sem.run_bind]; erw [h]; rfl)) ?_
  refine p_callv (l := [.pointer (some ⟨b0_, 0, none⟩)]) rfl (bnoEsc _ _) ?_
  refine p_val (c := .pointer (some ⟨b0_, 0, none⟩)) (by
   have h := Lib.run_from_unsafe (P := Tryz.prog) w ⟨b0_, 0, none⟩ bu2 bu1 hj hsh bl1
   simp only [execOp]
   exact (by rw [Sem.run_bind]; erw [h]; rfl)) ?_
  refine p_val (r_nilck rfl) ?_
  refine p_val (r_field bf0 rfl) ?_
  refine p_ofs (a_store (k := 0) (v := .pointer (some ⟨b0_, 0, none⟩)) (l := [.pointer (some ⟨b0_, 0, none⟩)]) btz H rfl rfl rfl (cells_one rfl) rfl (fun u hu => List.all_eq_true.1 (rfl : ([Value.pointer (some ⟨b0_, 0, none⟩)]).all (·.oneCell') = true) u hu) rfl) ?_; clear H; intro w2 H
  refine wpList_nil ?_
  refine e_00 rfl ?_
  exact ⟨S, pv1, pcs1, prs1, .pointer (some ⟨b0_, 0, none⟩), rfl, H, pg1, .inr rfl⟩
 ·refine wp_seq_k ?_; intro K1 hK1
  refine wp_region_lit ?_
  refine p_val (r_move (v := .pointer (some ⟨b0_, 0, none⟩)) rfl) ?_
  refine p_val (r_nilck rfl) ?_
  refine p_val (r_field bf0 rfl) ?_
  refine p_val (h_load1 (v := .pointer (some ⟨b0_, 0, none⟩)) bto H rfl (k := 0) rfl rfl) ?_
  refine p_val (r_eqPS bu1 rfl rfl) ?_
  refine wpList_nil ?_
  refine x_norm ?_; refine hK1 _ _ ?_
  refine c_false rfl rfl ?_
  refine wp_seq_k ?_; intro K2 hK2
  refine wp_region_lit ?_
  refine p_val (r_move (v := .pointer (some ⟨b0_, 0, none⟩)) rfl) ?_
  refine p_val (r_nilck rfl) ?_
  refine p_val (r_field bf0 rfl) ?_
  refine p_val (h_load1 (v := .pointer (some ⟨b0_, 0, none⟩)) bto H rfl (k := 0) rfl rfl) ?_
  refine p_val (r_move (v := .pointer (some ⟨b0_, 0, none⟩)) rfl) ?_
  refine p_val (r_nePP bu1 hj rfl rfl) ?_
  refine wpList_nil ?_
  refine x_norm ?_; refine hK2 _ _ ?_
  refine c_false rfl rfl ?_
  refine wp_skip ?_
  refine e_00 rfl ?_
  exact ⟨S, pv1, pcs1, prs1, .pointer (some ⟨b0_, 0, none⟩), rfl, H, pg1, .inr rfl⟩
theorem bus : Tryz.prog.underlying 127 = some (.slice 5) := by kernel_rfl
theorem bup : Tryz.prog.underlying 177 = some (.pointer 5) := by kernel_rfl
theorem buc : Tryz.prog.cellsOf 5 = 1 := by kernel_rfl
section
variable {P : Program} {w : World} {e : Operand → Value} {dst : Option Tmp} {g : Option (Nat × Bool)} {ty : TypeId} {pos : String} {aft : Array Edge} {x y : Operand} {T T1 : TypeId}
theorem r_usd {r : Value} {v : Value} {w' : World} (hx : e x = v) (h : (Builtin.unsafeSliceData_ #[T] ty #[v]).run P w = .ok r w') : (execOp e ⟨dst, .call ⟨.builtin .unsafeSliceData, #[x], #[T]⟩, ty, pos, aft, g⟩).run P w = .ok (.value r) w' := by
 simp [execOp, resolve, invoke, builtin, hx, h]
theorem r_ust {r : Value} {v u : Value} {w' : World} (hx : e x = v) (hy : e y = u) (h : (Builtin.unsafeString_ #[T, T1] ty #[v, u]).run P w = .ok r w') : (execOp e ⟨dst, .call ⟨.builtin .unsafeString, #[x, y], #[T, T1]⟩, ty, pos, aft, g⟩).run P w = .ok (.value r) w' := by
 simp [execOp, resolve, invoke, builtin, hx, hy, h]
theorem stR_rm : ∀ {L : List Res} {k : Nat} {x : Res}, rmR (stR L k x) k = rmR L k
 | [], _, _ => rfl
 | _ :: _, 0, _ => rfl
 | y :: l, k + 1, x => by simp only [stR, rmR, stR_rm (L := l) (k := k)]
end
theorem Builder_String_c {B : Bas} {S : Mem} {w : World} {L : List Res} {k1 k2 b : Nat} {a v : Value} {cs rs : List Value} {xs : List UInt8} (H : HS B S w L) (h1 : lkR L k1 = some (.blk b ([a] ++ ([v])) 134)) (h2 : lkR L k2 = some (.osl v xs.length 1 cs rs 5)) (h0 : RL S cs xs) (hl : xs.length ≤ 9223372036854775807) :
  Calls Tryz.prog 94 #[.pointer (some ⟨b, 0, none⟩)] w fun e w' => e = .returned (str xs) ∧ HS B S w' (rmR L k2) := by
 have hown := H.own k2 _ h2
 refine enter (n := 14) Tryz.func94 rfl rfl rfl ?_
 rcases hown with ⟨rfl, hn, hcs, hrs⟩ | ⟨gb, c, fz, rfl, hnc, hlen, hcap, hblk, hfz⟩
 ·obtain rfl : xs = [] := List.eq_nil_of_length_eq_zero hn
  refine wp_seq_k ?_; intro K1 hK1
  refine wp_region_lit ?_
  refine p_val (r_assign (v := str ([] : List UInt8)) rfl) ?_
  refine wpList_nil ?_
  refine x_norm ?_; refine hK1 _ _ ?_
  refine wp_seq_k ?_; intro K2 hK2
  apply wp_region_ext 10 (kinds []) rfl rfl (by kernel_rfl); intro vs
  simp only [tkS, tkZ, drS, drZ]
  replace H := H.drew
  refine t_val (fun w hx => r_move (v := .pointer (some ⟨b, 0, none⟩)) rfl) rfl rfl ?_
  refine t_val (fun w hx => r_nilck rfl) rfl rfl ?_
  refine t_val (fun w hx => r_field bf1 rfl) rfl rfl ?_
  refine t_val (fun w hx => h_load1 (v := .slice none 0 0) bto2 (H.ext hx) rfl h1 rfl) rfl rfl ?_
  refine t_val (fun w hx => r_usd (r := .pointer none) rfl (Lib.run_unsafeSliceData_nil _ _ _ _ _)) rfl rfl ?_
  refine t_val (fun w hx => r_move (v := .pointer (some ⟨b, 0, none⟩)) rfl) rfl rfl ?_
  refine t_val (fun w hx => r_nilck rfl) rfl rfl ?_
  refine t_val (fun w hx => r_field bf1 rfl) rfl rfl ?_
  refine t_val (fun w hx => h_load1 (v := .slice none 0 0) bto2 (H.ext hx) rfl h1 rfl) rfl rfl ?_
  refine t_val (fun w hx => r_lenO bus rfl (H.ext hx) h2 rfl) rfl rfl ?_
  refine t_nil (fun w2 hx hF hA => ?_)
  replace H := H.ext hx; clear hx hF hA
  refine p_val (c := str ([] : List UInt8)) (r_ust rfl rfl (Lib.run_unsafeString_none _ _ _ _ _)) ?_
  replace H := H.rm k2
  refine p_val (r_assign (v := str ([] : List UInt8)) rfl) ?_
  refine wpList_nil ?_; refine on_norm ?_
  refine x_norm ?_; refine hK2 _ _ ?_
  refine wp_ret ?_
  refine e_1 rfl (q_tmp (v := str ([] : List UInt8)) rfl) ?_
  exact ⟨rfl, H⟩
 ·by_cases hc : c = 0
  ·subst hc
   obtain rfl : xs = [] := List.eq_nil_of_length_eq_zero (by omega)
   refine wp_seq_k ?_; intro K1 hK1
   refine wp_region_lit ?_
   refine p_val (r_assign (v := str ([] : List UInt8)) rfl) ?_
   refine wpList_nil ?_
   refine x_norm ?_; refine hK1 _ _ ?_
   refine wp_seq_k ?_; intro K2 hK2
   apply wp_region_ext 10 (kinds [(4, .inr (fun v _ => ∃ a, v = .pointer (some a)))]) rfl rfl (by kernel_rfl); intro vs
   simp only [tkS, tkZ, drS, drZ]
   replace H := H.drew
   refine t_val (fun w hx => r_move (v := .pointer (some ⟨b, 0, none⟩)) rfl) rfl rfl ?_
   refine t_val (fun w hx => r_nilck rfl) rfl rfl ?_
   refine t_val (fun w hx => r_field bf1 rfl) rfl rfl ?_
   refine t_val (fun w hx => h_load1 (v := sl gb 0 0 0) bto2 (H.ext hx) rfl h1 rfl) rfl rfl ?_
   refine wpT_low (φ := fun v _ => ∃ a, v = .pointer (some a)) rfl rfl (fun _ _ _ h _ => h) rfl (fun h => by cases h) (fun w hx hF R hR => by
    have hsh : w.shape? (⟨gb, 0, none⟩ : Addr).block = some (5, (cs ++ rs).toArray.size) := by
     have hb2 : w.heap[gb]? = some (.cells (cs ++ rs).toArray 5 fz) := by rw [hx.block gb (lt_of_heap hblk)]; exact hblk
     simp [World.shape?, hb2]
    have hrun := Lib.run_unsafeSliceData_zero (P := Tryz.prog) w #[127] 177 5 bup ⟨gb, 0, none⟩ 0 _ hsh
    rw [eval_fr, r_usd rfl hrun, outcome_value]
    exact hR (.pointer (some ⟨w.heap.size, 0, none⟩)) (w.alloc (.view ⟨gb, 0, none⟩ 5)) (Ext.alloc w _) ⟨_, rfl⟩ (fun h => by cases h)) ?_
   rw [put_fr]
   refine t_val (fun w hx => r_move (v := .pointer (some ⟨b, 0, none⟩)) rfl) rfl rfl ?_
   refine t_val (fun w hx => r_nilck rfl) rfl rfl ?_
   refine t_val (fun w hx => r_field bf1 rfl) rfl rfl ?_
   refine t_val (fun w hx => h_load1 (v := sl gb 0 0 0) bto2 (H.ext hx) rfl h1 rfl) rfl rfl ?_
   refine t_val (fun w hx => r_lenO bus rfl (H.ext hx) h2 rfl) rfl rfl ?_
   refine t_nil (fun w2 hx hF hA => ?_)
   obtain ⟨ad, had⟩ := fact_rel hF 4 rfl rfl
   replace H := H.ext hx; clear hx hF hA
   refine p_val (c := str ([] : List UInt8)) (r_ust (by exact had) rfl (Lib.run_unsafeString_none _ _ _ _ _)) ?_
   replace H := H.rm k2
   refine p_val (r_assign (v := str ([] : List UInt8)) rfl) ?_
   refine wpList_nil ?_; refine on_norm ?_
   refine x_norm ?_; refine hK2 _ _ ?_
   refine wp_ret ?_
   refine e_1 rfl (q_tmp (v := str ([] : List UInt8)) rfl) ?_
   exact ⟨rfl, H⟩
  ·skip
   refine wp_seq_k ?_; intro K1 hK1
   refine wp_region_lit ?_
   refine p_val (r_assign (v := str ([] : List UInt8)) rfl) ?_
   refine wpList_nil ?_
   refine x_norm ?_; refine hK1 _ _ ?_
   refine wp_seq_k ?_; intro K2 hK2
   apply wp_region_ext 10 (kinds []) rfl rfl (by kernel_rfl); intro vs
   simp only [tkS, tkZ, drS, drZ]
   replace H := H.drew
   refine t_val (fun w hx => r_move (v := .pointer (some ⟨b, 0, none⟩)) rfl) rfl rfl ?_
   refine t_val (fun w hx => r_nilck rfl) rfl rfl ?_
   refine t_val (fun w hx => r_field bf1 rfl) rfl rfl ?_
   refine t_val (fun w hx => h_load1 (v := sl gb 0 xs.length c) bto2 (H.ext hx) rfl h1 rfl) rfl rfl ?_
   refine t_val (fun w hx => r_usd (r := .pointer (some ⟨gb, 0, none⟩)) rfl (Lib.run_unsafeSliceData_row _ _ _ _ _ _ hc)) rfl rfl ?_
   refine t_val (fun w hx => r_move (v := .pointer (some ⟨b, 0, none⟩)) rfl) rfl rfl ?_
   refine t_val (fun w hx => r_nilck rfl) rfl rfl ?_
   refine t_val (fun w hx => r_field bf1 rfl) rfl rfl ?_
   refine t_val (fun w hx => h_load1 (v := sl gb 0 xs.length c) bto2 (H.ext hx) rfl h1 rfl) rfl rfl ?_
   refine t_val (fun w hx => r_lenO bus rfl (H.ext hx) h2 rfl) rfl rfl ?_
   refine t_nil (fun w2 hx hF hA => ?_)
   have hb2 : w2.heap[gb]? = some (.cells (cs ++ rs).toArray 5 fz) := by rw [hx.block gb (lt_of_heap hblk)]; exact hblk
   replace H := H.ext hx; clear hx hF hA
   refine p_ofc (c := str xs) (φ := fun w' => HS B S w' (rmR L k2)) ?_ ?_
   ·by_cases hx0 : xs = []
    ·subst hx0
     exact ⟨w2, r_ust rfl rfl (Lib.run_unsafeString_none _ _ _ _ _), H.rm k2⟩
    ·have hsh : w2.shape? gb = some (5, (cs ++ rs).toArray.size) := by simp [World.shape?, hb2]
     have hcs := RL.is_u8s h0
     have hxl : xs.length ≤ (cs ++ rs).length := by rw [List.length_append, hlen]; omega
     have hrun := Lib.run_unsafeString_row (P := Tryz.prog) w2 177 3 9 5 bup buc gb _ hsh xs hx0 (by simpa using hxl) hl (fun j x hj => by
      rw [add_addr, cell_of_F hb2, Nat.zero_add, List.getElem?_append_left (by have := (List.getElem?_eq_some_iff.1 hj).1; omega), hcs]
      exact u8s_get hj)
     refine ⟨_, r_ust rfl rfl hrun, ?_⟩
     have H2 := H.upd (w' := w2.freeze ⟨gb, 0, none⟩ xs.length) (r' := .osl (.slice none 0 0) 0 1 [] [] 5) h2 (by unfold World.freeze; split <;> simp) (by unfold World.freeze; split <;> rfl) (by unfold World.freeze; split <;> rfl) (by unfold World.freeze; split <;> rfl) (fun i hi hne => by
      have hig : gb ≠ i := fun e => hne (by rw [e]; rfl)
      unfold World.freeze; split
      ·rfl
      ·simp [Array.getElem?_modify, hig]) (.inl ⟨rfl, rfl, rfl, rfl⟩) (fun b hb => by cases hb)
     have H3 := H2.rm k2
     rw [stR_rm] at H3
     exact H3
   clear H; intro w3 H
   refine p_val (r_assign (v := str xs) rfl) ?_
   refine wpList_nil ?_; refine on_norm ?_
   refine x_norm ?_; refine hK2 _ _ ?_
   refine wp_ret ?_
   refine e_1 rfl (q_tmp (v := str xs) rfl) ?_
   exact ⟨rfl, H⟩
end Go.Proofs.YtmbcolbbekbccaaGreat
namespace Go.Proofs.YtmbcolbbekbccaaGreat
open Go Go.RowKit
attribute [local irreducible] wpList wpT Code.wp Calls Code.rounds
theorem to127 : TOne Tryz.prog 127 := ⟨fun _ => by kernel_rfl, fun _ => by kernel_rfl⟩
theorem tz134 : TZero Tryz.prog 134 (.agg #[.pointer none, .slice none 0 0]) := fun _ => by kernel_rfl
theorem is94 : IsFn Tryz.prog 94 := isFn Tryz.func94
theorem is141 : IsFn Tryz.prog 141 := isFn Tryz.func141
theorem is153 : IsFn Tryz.prog 153 := isFn Tryz.func153
theorem fa134_1 : TField Tryz.prog 134 1 1 := fun _ _ _ => by kernel_rfl
theorem tsz127 : TSz Tryz.prog 127 1 := fun _ => by kernel_rfl
def Builder_WriteByte_p (x0 : List UInt8) (x1 : UInt8) : Option ((List UInt8)) :=
  Option.bind (Builder_copyCheck_p x0) fun y1 => Option.bind (app y1 ([x1] : List UInt8)) fun y2 => some (y2)
theorem Builder_WriteByte_c {S : Mem} {w : World} {b0_ : Nat} {x0 : List UInt8} {pv1 : Value} {pcs1 prs1 : List Value} {pa1 : Value} (H : HS ⟨S, keysR [.blk b0_ (([pa1] ++ ([pv1]))) 134, .osl (pv1) (x0).length 1 pcs1 prs1 5], w⟩ S w [.blk b0_ (([pa1] ++ ([pv1]))) 134, .osl (pv1) (x0).length 1 pcs1 prs1 5]) (pg1 : RL S pcs1 x0) (pg2 : BA b0_ pa1) {x1 : UInt8} {r : (List UInt8)} (hF : Builder_WriteByte_p x0 x1 = some r) :
    Calls Tryz.prog 153 #[.pointer (some ⟨b0_, 0, none⟩), .int .u8 (((x1).toNat : Int))] w fun e w' => ∃ (S2 : Mem) (pv4 : Value) (pcs4 prs4 : List Value) (pa4 : Value), e = .returned (.nilIface) ∧ HS ⟨S, keysR [.blk b0_ (([pa1] ++ ([pv1]))) 134, .osl (pv1) (x0).length 1 pcs1 prs1 5], w⟩ S2 w' [.blk b0_ (([pa4] ++ ([pv4]))) 134, .osl (pv4) (r).length 1 pcs4 prs4 5] ∧ RL S2 pcs4 r ∧ BA b0_ pa4 := by
 refine enter (n := 17) Tryz.func153 rfl rfl rfl ?_
 unfold Builder_WriteByte_p at hF
 refine sr fun K1 hK1 => p_as (v := .nilIface) rfl <| xk hK1 <| sr fun K2 hK2 => mvP rfl <| bn hF fun y1 e1 hF => p_call (l := [.pointer (some ⟨b0_, 0, none⟩)]) is141 rfl <| (Builder_copyCheck_c (H.hand [0, 1] rfl) pg1 pg2 e1).mono ?_; rintro _ w1 ⟨S1, pv2, pcs2, prs2, pa2, rfl, H2, pg3, pg4⟩
 obtain ⟨H1, hle1⟩ := H.frame [0, 1] [] rfl H2; clear H H2; have H := H1; clear H1
 replace H := hsn H
 refine xk hK2 <| sr fun K3 hK3 => mvP rfl <| mvP rfl <| p_val (r_nilck rfl) <| p_val (r_field fa134_1 rfl) <| p_val (h_load1 (v := pv2) to127 H rfl (k := 0) rfl rfl) <| mvI rfl <| p_of2 (a_bsliceG (N := 1) (xs := ([x1] : List UInt8)) (RL.cons rpU8 RL.nil) tn127 H rfl rfl rfl) fun w2 v1 cs1 H g1 => ?_
 replace H := hsn H
 refine bn hF fun y2 e2 hF => p_of3 (a_appendX (k := 2) (v2 := v1) tn127 rfl H rfl rfl pg3 rfl (H.slW (k := 0) rfl) g1 e2) fun w3 v2 cs2 rs1 H g2 => ?_
 replace H := hsn H
 replace H := H.sel [1, 2] rfl
 replace H := hsn H
 refine p_val (r_nilck rfl) <| p_val (r_field fa134_1 rfl) <| p_ofs (a_store (k := 0) (l := [v2]) tsz127 H rfl rfl rfl (cells_one (HS.ownOne H (k := 1) rfl)) rfl (fun u hu => by rw [List.mem_singleton] at hu; rw [hu]; exact HS.ownOne H (k := 1) rfl) rfl) fun w4 H => ?_
 replace H := hsn H
 refine xk hK3 <| sr fun K4 hK4 => p_as (v := .nilIface) rfl <| xk hK4 <| wp_ret ?_
 obtain rfl := osi hF
 refine e_1 rfl (q_tmp rfl) ?_
 replace H := hsn H
 exact ⟨_, _, _, _, _, rfl, H, g2, pg4⟩
def codec_Base64_b1 (s1 : Int × Int × Int × (List UInt8)) (y1 : UInt8) (s2 : Int × (List UInt8)) : Option ((Int × (List UInt8)) ⊕ (Int × (List UInt8))) :=
  bif decide ((6 : Int) ≤ s2.1) then (Option.bind (chk (decide (0 ≤ (w64 (s2.1 - 6))))) fun y2 => Option.bind (idx ([65, 66, 67, 68, 69, 70, 71, 72, 73, 74, 75, 76, 77, 78, 79, 80, 81, 82, 83, 84, 85, 86, 87, 88, 89, 90, 97, 98, 99, 100, 101, 102, 103, 104, 105, 106, 107, 108, 109, 110, 111, 112, 113, 114, 115, 116, 117, 118, 119, 120, 121, 122, 48, 49, 50, 51, 52, 53, 54, 55, 56, 57, 45, 95] : List UInt8) (bits .and .i64 (shrI .i64 (bits .or .i64 (shlI .i64 s1.1 8) ((y1).toNat : Int)) (w64 (s2.1 - 6))) 63)) fun y3 => Option.bind (Builder_WriteByte_p s2.2 y3) fun y4 => some (.inl (((w64 (s2.1 - 6)), y4)))) else (some (.inr ((s2.1, s2.2))))
def codec_Base64_b0 (x0 : List UInt8) (s1 : Int × Int × Int × (List UInt8)) : Option ((Int × Int × Int × (List UInt8)) ⊕ (Int × Int × (List UInt8))) :=
  bif decide (s1.2.2.1 < ((x0).length : Int)) then (Option.bind (Option.bind (idx x0 s1.2.2.1) fun y1 => Option.bind (Option.bind (iter (codec_Base64_b1 s1 y1) (((w64 (s1.2.1 + 8)), s1.2.2.2))) (fun e => some (e))) (fun t3 => Option.bind (chk (decide (0 ≤ t3.1))) fun y5 => some (((bits .and .i64 (bits .or .i64 (shlI .i64 s1.1 8) ((y1).toNat : Int)) (w64 ((shlI .i64 1 t3.1) - 1))), t3.1, t3.2)))) (fun t2 => some (.inl ((t2.1, t2.2.1, (w64 (s1.2.2.1 + 1)), t2.2.2))))) else (some (.inr ((s1.1, s1.2.1, s1.2.2.2))))
def codec_Base64_p (x0 : List UInt8) : Option ((List UInt8)) :=
  Option.bind (Option.bind (iter (codec_Base64_b0 x0) ((0, 0, 0, ([] : List UInt8)))) (fun e => some (e))) (fun t1 => Option.bind (bif decide ((0 : Int) < t1.2.1) then (Option.bind (chk (decide (0 ≤ (w64 ((6 : Int) - t1.2.1))))) fun y6 => Option.bind (idx ([65, 66, 67, 68, 69, 70, 71, 72, 73, 74, 75, 76, 77, 78, 79, 80, 81, 82, 83, 84, 85, 86, 87, 88, 89, 90, 97, 98, 99, 100, 101, 102, 103, 104, 105, 106, 107, 108, 109, 110, 111, 112, 113, 114, 115, 116, 117, 118, 119, 120, 121, 122, 48, 49, 50, 51, 52, 53, 54, 55, 56, 57, 45, 95] : List UInt8) (bits .and .i64 (shlI .i64 t1.1 (w64 ((6 : Int) - t1.2.1))) 63)) fun y7 => Option.bind (Builder_WriteByte_p t1.2.2 y7) fun y8 => some (y8)) else (some (t1.2.2))) (fun t4 => Option.bind (chk (decide ((t4).length ≤ 68719476736))) fun y9 => some (t4)))
theorem codec_Base64_c {S : Mem} {w : World} (hS : Sub S w) {x0 : List UInt8} {r : (List UInt8)} (hF : codec_Base64_p x0 = some r) :
    Calls Tryz.prog 129 #[str (x0)] w fun e w' => e = .returned (str (r)) ∧ Ext w w' := by
 refine enter (n := 49) Tryz.func129 rfl rfl rfl ?_
 have H := HS.start hS
 unfold codec_Base64_p at hF
 refine sr fun K1 hK1 => asT rfl <| xk hK1 <| sr fun K2 hK2 => p_ofb (a_alloc (l := ([Value.pointer none] ++ ([Value.slice none 0 0]))) H tz134 rfl) fun w1 b1 H => xk hK2 <| sr fun K3 hK3 => asI rfl <| asI rfl ?_
 refine xk hK3 <| wp_seq_k fun K4 hK4 => nameF fun m1 k1 => bn hF fun t1 hE1 hF1 => ?_
 have J4 : ∀ (a5 : Value) (v6 : Value) (cs6 rs6 : List Value) (S6 : Mem) (m10 : FM) (w8 : World), (∀ t, has (4 :: 5 :: rg 7 32 []) t = false → look m10 t = look m1 t) → look m10 4 = .int .i64 (t1.1) → look m10 5 = .int .i64 (t1.2.1) → Mem.le S S6 → HS ⟨S, [], w⟩ S6 w8 [.osl (v6) (t1.2.2).length 1 cs6 rs6 5, .blk b1 (([a5] ++ ([v6]))) 134] → BA b1 a5 → RL S6 cs6 t1.2.2 → K4 (fr 49 m10) w8 := by
  clear H; intro a5 v6 cs6 rs6 S6 m10 w8 k12 q25 q26 hle6 H g11 g12
  have q27 : look m10 3 = .pointer (some ⟨b1, 0, none⟩) := (k12 3 rfl).trans (k1 3)
  refine hK4 _ _ <| wp_seq_k fun K15 hK15 => nameF fun m11 k13 => bn hF1 fun t4 hE6 hF4 => ?_
  have J3 : ∀ (v7 : Value) (cs7 rs7 : List Value) (a6 : Value) (S8 : Mem) (m12 : FM) (w10 : World), (∀ t, has (rg 39 9 []) t = false → look m12 t = look m11 t) → Mem.le S6 S8 → HS ⟨S, [], w⟩ S8 w10 [.osl (v7) (t4).length 1 cs7 rs7 5, .blk b1 (([a6] ++ ([v7]))) 134] → RL S8 cs7 t4 → BA b1 a6 → K15 (fr 49 m12) w10 := by
   clear H; intro v7 cs7 rs7 a6 S8 m12 w10 k14 hle8 H g13 g14
   have q28 := (k14 3 rfl).trans ((k13 3).trans q27)
   refine hK15 _ _ <| sr fun K17 hK17 => bn hF4 fun y9 e9 hF4 => p_call (l := [.pointer (some ⟨b1, 0, none⟩)]) is94 (args_cons q28 args_nil) <| (Builder_String_c (k1 := 1) (k2 := 0) H rfl rfl g13 (Nat.le_trans (of_decide_eq_true (chk_some e9)) (by decide))).mono ?_; clear H; rintro _ w11 ⟨rfl, H⟩
   replace H := hsn H
   refine asT rfl <| xk hK17 <| wp_ret ?_
   obtain rfl := osi hF4
   refine e_1 rfl (q_tmp rfl) ?_
   exact ⟨rfl, H.toExt⟩
  refine sr fun K16 hK16 => p_mv ((k13 5).trans q26) <| p_val (r_gtrI rfl rfl) <| xk hK16 ?_
  refine c_split rfl (fun hc3 => ?_) (fun hc3 => ?_)
  ·replace hE6 := cnd_t hE6 hc3
   refine wp_region_lit <| p_mv ((k13 4).trans q25) <| p_mv ((k13 5).trans q26) <| p_val (r_subI rfl rfl) <| bn hE6 fun y6 e6 hE6 => p_val (r_shl (r := shlI .i64 t1.1 (w64 ((6 : Int) - t1.2.1))) rfl rfl (Int.not_lt.2 (of_decide_eq_true (chk_some e6))) rfl) <| p_val (r_bits (bo := .and) (by simp) (r := (bits .and .i64 (shlI .i64 t1.1 (w64 ((6 : Int) - t1.2.1))) 63)) rfl rfl rfl) <| bn hE6 fun y7 e7 hE6 => ?_
   refine p_val (r_idxT (i := ((bits .and .i64 (shlI .i64 t1.1 (w64 ((6 : Int) - t1.2.1))) 63) : Int).toNat) (u := y7) u9 rfl rfl (idx_some e7).1 (idx_some e7).2) <| bn hE6 fun y8 e8 hE6 => p_call (l := [.pointer (some ⟨b1, 0, none⟩), .int .u8 (((y7).toNat : Int))]) is153 (args_cons ((k13 3).trans q27) (args_cons rfl args_nil)) ?_
   refine (Builder_WriteByte_c (H.hand [1, 0] rfl) g12 g11 e8).mono ?_; rintro _ w9 ⟨S7, pv2, pcs2, prs2, pa2, rfl, H2, pg3, pg4⟩
   obtain ⟨H1, hle7⟩ := H.frame [1, 0] [] rfl H2; clear H H2; have H := H1; clear H1
   replace H := hsn H
   refine wpList_nil <| x_norm ?_
   replace H := H.sel [1, 0] rfl
   replace H := hsn H
   obtain rfl := osi hE6
   exact J3 _ _ _ _ _ _ _ kcx hle7 H pg3 pg4
  ·replace hE6 := cnd_f hE6 hc3
   refine wp_skip <| x_norm ?_
   replace H := hsn H
   obtain rfl := osi hE6
   exact J3 _ _ _ _ _ _ _ kcx (Mem.le_refl _) H g12 g11
 refine sr fun K5 hK5 => p_mv (k1 0) <| p_of1 (a_bytes (l := x0) u9 u127 u5 H rfl) ?_; clear H; rintro w2 v1 ⟨rs1, H⟩
 have g1 : RL S (u8s x0) x0 := RL.of_u8s _
 replace H := hsn H
 refine p_val (r_lenO u127 rfl H (k := 0) rfl rfl) <| mvI rfl <| xk hK5 <| wp_block <| nameF fun m2 k2 => bn hE1 fun out1 hL1 hE2 => ?_
 replace H := H.nilOwn 1 5; have g4 : RL S [] ([] : List UInt8) := RL.nil
 replace H := hsn H
 refine loopI (4 :: 5 :: 7 :: rg 11 28 []) (fun (s1 : Int × Int × Int × (List UInt8)) (m3 : FM) (w3 : World) => ∃ (S1 : Mem) (a1 : Value) (v2 : Value) (cs1 rs2 : List Value), look m3 4 = .int .i64 (s1.1) ∧ look m3 5 = .int .i64 (s1.2.1) ∧ look m3 11 = .int .i64 (s1.2.2.1) ∧ Mem.le S S1 ∧ HS ⟨S, [], w⟩ S1 w3 [.osl (v2) (s1.2.2.2).length 1 cs1 rs2 5, .osl (v1) (x0).length 1 (u8s x0) rs1 5, .blk b1 (([a1] ++ ([v2]))) 134] ∧ BA b1 a1 ∧ RL S1 cs1 s1.2.2.2) hL1 ⟨_, _, _, _, _, ((k2 4).trans (k1 4)), ((k2 5).trans (k1 5)), (k2 11), (Mem.le_refl _), H, (Or.inl rfl), g4⟩ ?_
 clear H; intro k4 s1 m3 w3 k3 hI1 o2 hb1 hh1; obtain ⟨S1, a1, v2, cs1, rs2, q1, q2, q3, hle1, H, g2, g3⟩ := hI1
 replace g1 := g1.mono hle1
 have q4 : look m3 3 = .pointer (some ⟨b1, 0, none⟩) := (k3 3 rfl).trans ((k2 3).trans (k1 3))
 have q5 : look m3 9 = v1 := (k3 9 rfl).trans (k2 9)
 have q6 : look m3 10 = .int .i64 (((x0).length : Int)) := (k3 10 rfl).trans (k2 10)
 unfold codec_Base64_b0 at hb1
 refine sr fun K6 hK6 => p_val (r_lssI q3 q6) <| xk hK6 <| wp_seq_k fun K7 hK7 => ?_
 refine c_split rfl (fun hc1 => ?_) (fun hc1 => ?_)
 ·replace hb1 := cnd_t hb1 hc1
  refine wp_skip <| xn hK7 <| wp_seq_k fun K8 hK8 => nameF fun m4 k5 => bn hb1 fun t2 hE3 hF2 => ?_
  have J2 : ∀ (v5 : Value) (cs5 rs5 : List Value) (a4 : Value) (S5 : Mem) (m9 : FM) (w7 : World), (∀ t, has (4 :: 5 :: 7 :: rg 13 25 []) t = false → look m9 t = look m4 t) → look m9 4 = .int .i64 (t2.1) → look m9 5 = .int .i64 (t2.2.1) → Mem.le S1 S5 → HS ⟨S, [], w⟩ S5 w7 [.osl (v5) (t2.2.2).length 1 cs5 rs5 5, .osl (v1) (x0).length 1 (u8s x0) rs1 5, .blk b1 (([a4] ++ ([v5]))) 134] → RL S5 cs5 t2.2.2 → BA b1 a4 → K8 (fr 49 m9) w7 := by
   clear H; intro v5 cs5 rs5 a4 S5 m9 w7 k11 q19 q20 hle5 H g9 g10
   replace g1 := g1.mono hle5
   have q21 := (k11 3 rfl).trans ((k5 3).trans q4)
   have q22 := (k11 9 rfl).trans ((k5 9).trans q5)
   have q23 := (k11 10 rfl).trans ((k5 10).trans q6)
   have q24 := (k11 11 rfl).trans ((k5 11).trans q3)
   refine hK8 _ _ <| wp_region_lit <| p_val (r_addI q24 rfl) <| mvI rfl <| wpList_nil <| x_norm ?_
   replace H := hsn H
   obtain rfl := osi hF2
   exact ⟨(t2.1, t2.2.1, (w64 (s1.2.2.1 + 1)), t2.2.2), _, rfl, (kS k11 rfl (kN k5 (kS k3 rfl kcx))), ⟨_, _, _, _, _, q19, q20, rfl, (Mem.le_trans hle1 hle5), H, g10, g9⟩, hh1⟩
  refine wp_block <| sr fun K9 hK9 => bn hE3 fun y1 e1 hE3 => ?_
  obtain ⟨b2, c1, hv1⟩ := H.ownAt (k := 1) rfl (idx_lt e1)
  refine p_val (r_addrV (i := (s1.2.2.1 : Int).toNat) u127 tsz5 ((k5 9).trans q5) hv1 ((k5 11).trans q3) (idx_some e1).1 (idx_lt e1)) ?_
  subst hv1
  have hr1 := RL.get g1 (idx_some e1).2; generalize hghr1 : piece (u8s x0) _ _ = cs2 at hr1
  obtain rfl := elU8 hr1
  refine p_val (o_load1 (v := .int .u8 (((y1).toNat : Int))) to5 H (k := 1) rfl rfl (idx_lt e1) hghr1) <| asI rfl <| xk hK9 <| sr fun K10 hK10 => p_mv ((k5 4).trans q1) <| p_val (r_shl (r := shlI .i64 s1.1 8) rfl rfl (by decide) rfl) <| mvI rfl <| p_val (r_conv u5 u3 rfl (w64_u8 _)) <| p_val (r_bits (bo := .or) (by simp) (r := (bits .or .i64 (shlI .i64 s1.1 8) ((y1).toNat : Int))) rfl rfl rfl) ?_
  refine p_mv ((k5 5).trans q2) <| p_val (r_addI rfl rfl) <| asI rfl <| asI rfl <| xk hK10 <| wp_seq_k fun K11 hK11 => nameF fun m5 k6 => bn hE3 fun t3 hE4 hF3 => ?_
  have J1 : ∀ (v4 : Value) (cs4 rs4 : List Value) (a3 : Value) (S4 : Mem) (m8 : FM) (w6 : World), (∀ t, has (5 :: rg 22 11 []) t = false → look m8 t = look m5 t) → look m8 5 = .int .i64 (t3.1) → Mem.le S1 S4 → HS ⟨S, [], w⟩ S4 w6 [.osl (v4) (t3.2).length 1 cs4 rs4 5, .osl (sl b2 0 (x0).length c1) (x0).length 1 (u8s x0) rs1 5, .blk b1 (([a3] ++ ([v4]))) 134] → RL S4 cs4 t3.2 → BA b1 a3 → K11 (fr 49 m8) w6 := by
   clear H; intro v4 cs4 rs4 a3 S4 m8 w6 k10 q13 hle4 H g7 g8
   replace g1 := g1.mono hle4
   have q14 := (k10 3 rfl).trans ((k6 3).trans ((k5 3).trans q4))
   have q15 := (k10 9 rfl).trans ((k6 9).trans ((k5 9).trans q5))
   have q16 := (k10 10 rfl).trans ((k6 10).trans ((k5 10).trans q6))
   have q17 : look m8 4 = .int .i64 ((bits .or .i64 (shlI .i64 s1.1 8) ((y1).toNat : Int))) := (k10 4 rfl).trans (k6 4)
   have q18 := (k10 11 rfl).trans ((k6 11).trans ((k5 11).trans q3))
   refine hK11 _ _ <| wp_region_lit <| p_mv q17 <| p_mv q13 <| bn hF3 fun y5 e5 hF3 => p_val (r_shl (r := shlI .i64 1 t3.1) rfl rfl (Int.not_lt.2 (of_decide_eq_true (chk_some e5))) rfl) <| p_val (r_subI rfl rfl) <| p_val (r_bits (bo := .and) (by simp) (r := (bits .and .i64 (bits .or .i64 (shlI .i64 s1.1 8) ((y1).toNat : Int)) (w64 ((shlI .i64 1 t3.1) - 1)))) rfl rfl rfl) <| asI rfl ?_
   refine wpList_nil <| b_norm <| x_norm ?_
   replace H := hsn H
   obtain rfl := osi hF3
   exact J2 _ _ _ _ _ _ _ (kS k10 rfl (kN k6 kcx)) rfl q13 hle4 H g7 g8
  refine wp_block <| nameF fun m6 k7 => bn hE4 fun out2 hL2 hE5 => ?_
  replace H := hsn H
  refine loopI (5 :: rg 22 11 []) (fun (s2 : Int × (List UInt8)) (m7 : FM) (w4 : World) => ∃ (S2 : Mem) (v3 : Value) (cs3 rs3 : List Value) (a2 : Value), look m7 5 = .int .i64 (s2.1) ∧ Mem.le S1 S2 ∧ HS ⟨S, [], w⟩ S2 w4 [.osl (v3) (s2.2).length 1 cs3 rs3 5, .osl (sl b2 0 (x0).length c1) (x0).length 1 (u8s x0) rs1 5, .blk b1 (([a2] ++ ([v3]))) 134] ∧ RL S2 cs3 s2.2 ∧ BA b1 a2) hL2 ⟨_, _, _, _, _, ((k7 5).trans (k6 5)), (Mem.le_refl _), H, g3, g2⟩ ?_
  clear H; intro k9 s2 m7 w4 k8 hI2 o5 hb2 hh2; obtain ⟨S2, v3, cs3, rs3, a2, q7, hle2, H, g5, g6⟩ := hI2
  replace g1 := g1.mono hle2
  have q8 := (k8 3 rfl).trans ((k7 3).trans ((k6 3).trans ((k5 3).trans q4)))
  have q9 := (k8 9 rfl).trans ((k7 9).trans ((k6 9).trans ((k5 9).trans q5)))
  have q10 := (k8 10 rfl).trans ((k7 10).trans ((k6 10).trans ((k5 10).trans q6)))
  have q11 : look m7 4 = .int .i64 ((bits .or .i64 (shlI .i64 s1.1 8) ((y1).toNat : Int))) := (k8 4 rfl).trans ((k7 4).trans (k6 4))
  have q12 := (k8 11 rfl).trans ((k7 11).trans ((k6 11).trans ((k5 11).trans q3)))
  unfold codec_Base64_b1 at hb2
  refine wp_seq_k fun K12 hK12 => sr fun K13 hK13 => p_mv q7 <| p_val (r_geqI rfl rfl) <| xk hK13 ?_
  refine c_split rfl (fun hc2 => ?_) (fun hc2 => ?_)
  ·replace hb2 := cnd_t hb2 hc2
   refine wp_skip <| xn hK12 <| wp_seq_k fun K14 hK14 => wp_block <| wp_region_lit <| p_mv q11 <| p_mv q7 <| p_val (r_subI rfl rfl) <| bn hb2 fun y2 e2 hb2 => ?_
   refine p_val (r_shr (r := shrI .i64 (bits .or .i64 (shlI .i64 s1.1 8) ((y1).toNat : Int)) (w64 (s2.1 - 6))) rfl rfl (Int.not_lt.2 (of_decide_eq_true (chk_some e2))) rfl) <| p_val (r_bits (bo := .and) (by simp) (r := (bits .and .i64 (shrI .i64 (bits .or .i64 (shlI .i64 s1.1 8) ((y1).toNat : Int)) (w64 (s2.1 - 6))) 63)) rfl rfl rfl) <| bn hb2 fun y3 e3 hb2 => ?_
   refine p_val (r_idxT (i := ((bits .and .i64 (shrI .i64 (bits .or .i64 (shlI .i64 s1.1 8) ((y1).toNat : Int)) (w64 (s2.1 - 6))) 63) : Int).toNat) (u := y3) u9 rfl rfl (idx_some e3).1 (idx_some e3).2) <| bn hb2 fun y4 e4 hb2 => p_call (l := [.pointer (some ⟨b1, 0, none⟩), .int .u8 (((y3).toNat : Int))]) is153 (args_cons q8 (args_cons rfl args_nil)) ?_
   refine (Builder_WriteByte_c (H.hand [2, 0] rfl) g5 g6 e4).mono ?_; rintro _ w5 ⟨S3, pv1, pcs1, prs1, pa1, rfl, H2, pg1, pg2⟩
   obtain ⟨H1, hle3⟩ := H.frame [2, 0] [1] rfl H2; clear H H2; have H := H1; clear H1
   replace g1 := g1.mono hle3
   replace H := hsn H
   refine wpList_nil <| b_norm <| xn hK14 <| wp_region_lit <| p_mv q7 <| p_val (r_subI rfl rfl) <| asI rfl <| wpList_nil <| x_norm ?_
   replace H := H.sel [1, 2, 0] rfl
   replace H := hsn H
   obtain rfl := osi hb2
   exact ⟨((w64 (s2.1 - 6)), y4), _, rfl, (kS k8 rfl kcx), ⟨_, _, _, _, _, rfl, (Mem.le_trans hle2 hle3), H, pg1, pg2⟩, hh2⟩
  ·replace hb2 := cnd_f hb2 hc2
   refine wp_exit <| x_exit <| x_exit <| b_hit <| x_norm ?_
   replace H := hsn H
   obtain rfl := osi hb2
   obtain rfl := osi hh2
   obtain rfl := osi hE5
   exact J1 _ _ _ _ _ _ _ (kS k8 rfl (kN k7 kcx)) q7 hle2 H g5 g6
 ·replace hb1 := cnd_f hb1 hc1
  refine wp_exit <| x_exit <| x_exit <| b_hit <| x_norm ?_
  replace H := H.sel [0, 2] rfl
  replace H := hsn H
  obtain rfl := osi hb1
  obtain rfl := osi hh1
  obtain rfl := osi hE2
  exact J4 _ _ _ _ _ _ _ (kS k3 rfl (kN k2 kcx)) q1 q2 hle1 H g2 g3
end Go.Proofs.YtmbcolbbekbccaaGreat
