/- What some functions compute, and that they do. Conditions: as each theorem says. -/
import Derived.Test.YtmkomlbiaebddaaGreatDoorRows
import Derived.Test.YtmkomlbiaebddaaGreatDoorQsC
namespace Go.Proofs.YtmkomlbiaebddaaGreatDoor
open Go Go.RowKit
attribute [local irreducible] wpList wpT Code.wp Calls Code.rounds
theorem tg157 : TAgg Tryz.prog 157 64 := ⟨fun _ => by kernel_rfl, fun _ => by kernel_rfl⟩
theorem tg160 : TAgg Tryz.prog 160 8 := ⟨fun _ => by kernel_rfl, fun _ => by kernel_rfl⟩
theorem to133 : TOne Tryz.prog 133 := ⟨fun _ => by kernel_rfl, fun _ => by kernel_rfl⟩
theorem tz157 : TZero Tryz.prog 157 (.agg #[.int .u32 0, .int .u32 0, .int .u32 0, .int .u32 0, .int .u32 0, .int .u32 0, .int .u32 0, .int .u32 0, .int .u32 0, .int .u32 0, .int .u32 0, .int .u32 0, .int .u32 0, .int .u32 0, .int .u32 0, .int .u32 0, .int .u32 0, .int .u32 0, .int .u32 0, .int .u32 0, .int .u32 0, .int .u32 0, .int .u32 0, .int .u32 0, .int .u32 0, .int .u32 0, .int .u32 0, .int .u32 0, .int .u32 0, .int .u32 0, .int .u32 0, .int .u32 0, .int .u32 0, .int .u32 0, .int .u32 0, .int .u32 0, .int .u32 0, .int .u32 0, .int .u32 0, .int .u32 0, .int .u32 0, .int .u32 0, .int .u32 0, .int .u32 0, .int .u32 0, .int .u32 0, .int .u32 0, .int .u32 0, .int .u32 0, .int .u32 0, .int .u32 0, .int .u32 0, .int .u32 0, .int .u32 0, .int .u32 0, .int .u32 0, .int .u32 0, .int .u32 0, .int .u32 0, .int .u32 0, .int .u32 0, .int .u32 0, .int .u32 0, .int .u32 0]) := fun _ => by kernel_rfl
theorem tz160 : TZero Tryz.prog 160 (.agg #[.int .u32 0, .int .u32 0, .int .u32 0, .int .u32 0, .int .u32 0, .int .u32 0, .int .u32 0, .int .u32 0]) := fun _ => by kernel_rfl
theorem u3 : Tryz.prog.underlying 3 = some (.int .i64) := by kernel_rfl
theorem u5 : Tryz.prog.underlying 5 = some (.int .u8) := by kernel_rfl
theorem u9 : Tryz.prog.underlying 9 = some .string := by kernel_rfl
theorem u100 : Tryz.prog.underlying 100 = some (.slice 5) := by kernel_rfl
theorem u102 : Tryz.prog.underlying 102 = some (.int .u64) := by kernel_rfl
theorem u129 : Tryz.prog.underlying 129 = some (.slice 133) := by kernel_rfl
theorem u133 : Tryz.prog.underlying 133 = some (.int .u32) := by kernel_rfl
theorem u139 : Tryz.prog.underlying 139 = some (.int .u64) := by kernel_rfl
theorem u157 : Tryz.prog.underlying 157 = some (.array 64 133) := by kernel_rfl
theorem u160 : Tryz.prog.underlying 160 = some (.array 8 133) := by kernel_rfl
theorem is118 : IsFn Tryz.prog 118 := isFn Tryz.func118 (by kernel_rfl) (by kernel_rfl)
theorem is124 : IsFn Tryz.prog 124 := isFn Tryz.func124 (by kernel_rfl) (by kernel_rfl)
theorem is125 : IsFn Tryz.prog 125 := isFn Tryz.func125 (by kernel_rfl) (by kernel_rfl)
theorem is159 : IsFn Tryz.prog 159 := isFn Tryz.func159 (by kernel_rfl) (by kernel_rfl)
theorem is160 : IsFn Tryz.prog 160 := isFn Tryz.func160 (by kernel_rfl) (by kernel_rfl)
theorem is161 : IsFn Tryz.prog 161 := isFn Tryz.func161 (by kernel_rfl) (by kernel_rfl)
theorem sz133 (w : World) : (sizeOf 133).run Tryz.prog w = .ok 1 w := by kernel_rfl
theorem tb157 : TBuild Tryz.prog 157 (.agg #[.int .u32 0, .int .u32 0, .int .u32 0, .int .u32 0, .int .u32 0, .int .u32 0, .int .u32 0, .int .u32 0, .int .u32 0, .int .u32 0, .int .u32 0, .int .u32 0, .int .u32 0, .int .u32 0, .int .u32 0, .int .u32 0, .int .u32 0, .int .u32 0, .int .u32 0, .int .u32 0, .int .u32 0, .int .u32 0, .int .u32 0, .int .u32 0, .int .u32 0, .int .u32 0, .int .u32 0, .int .u32 0, .int .u32 0, .int .u32 0, .int .u32 0, .int .u32 0, .int .u32 0, .int .u32 0, .int .u32 0, .int .u32 0, .int .u32 0, .int .u32 0, .int .u32 0, .int .u32 0, .int .u32 0, .int .u32 0, .int .u32 0, .int .u32 0, .int .u32 0, .int .u32 0, .int .u32 0, .int .u32 0, .int .u32 0, .int .u32 0, .int .u32 0, .int .u32 0, .int .u32 0, .int .u32 0, .int .u32 0, .int .u32 0, .int .u32 0, .int .u32 0, .int .u32 0, .int .u32 0, .int .u32 0, .int .u32 0, .int .u32 0, .int .u32 0]) [(0, 1), (1, 1), (2, 1), (3, 1), (4, 1), (5, 1), (6, 1), (7, 1), (8, 1), (9, 1), (10, 1), (11, 1), (12, 1), (13, 1), (14, 1), (15, 1), (16, 1), (17, 1), (18, 1), (19, 1), (20, 1), (21, 1), (22, 1), (23, 1), (24, 1), (25, 1), (26, 1), (27, 1), (28, 1), (29, 1), (30, 1), (31, 1), (32, 1), (33, 1), (34, 1), (35, 1), (36, 1), (37, 1), (38, 1), (39, 1), (40, 1), (41, 1), (42, 1), (43, 1), (44, 1), (45, 1), (46, 1), (47, 1), (48, 1), (49, 1), (50, 1), (51, 1), (52, 1), (53, 1), (54, 1), (55, 1), (56, 1), (57, 1), (58, 1), (59, 1), (60, 1), (61, 1), (62, 1), (63, 1)] := tbuildA u157 tz157 sz133 rfl
theorem tb160 : TBuild Tryz.prog 160 (.agg #[.int .u32 0, .int .u32 0, .int .u32 0, .int .u32 0, .int .u32 0, .int .u32 0, .int .u32 0, .int .u32 0]) [(0, 1), (1, 1), (2, 1), (3, 1), (4, 1), (5, 1), (6, 1), (7, 1)] := tbuildA u160 tz160 sz133 rfl
theorem tn100 : TSn Tryz.prog 100 5 (.int .u8 0) [.int .u8 0] 1 1 := TSn.mk' (by kernel_rfl) (by kernel_rfl) rfl rfl rfl rfl
def cl160 (x : UInt32 × UInt32 × UInt32 × UInt32 × UInt32 × UInt32 × UInt32 × UInt32) : List Value := [Value.int .u32 ((x.1.toNat : Int))] ++ ([Value.int .u32 ((x.2.1.toNat : Int))] ++ ([Value.int .u32 ((x.2.2.1.toNat : Int))] ++ ([Value.int .u32 ((x.2.2.2.1.toNat : Int))] ++ ([Value.int .u32 ((x.2.2.2.2.1.toNat : Int))] ++ ([Value.int .u32 ((x.2.2.2.2.2.1.toNat : Int))] ++ ([Value.int .u32 ((x.2.2.2.2.2.2.1.toNat : Int))] ++ ([Value.int .u32 ((x.2.2.2.2.2.2.2.toNat : Int))])))))))
theorem tsz5 : TSz Tryz.prog 5 1 := fun _ => by kernel_rfl
theorem tsz133 : TSz Tryz.prog 133 1 := fun _ => by kernel_rfl
theorem tsz157 : TSz Tryz.prog 157 64 := fun _ => by kernel_rfl
theorem tsz160 : TSz Tryz.prog 160 8 := fun _ => by kernel_rfl
def math_bits_RotateLeft32_p (x0 : UInt32) (x1 : Int) : Option (UInt32) :=
  some (((i32 (shlI .u32 ((x0).toNat : Int) ((((i64 x1) &&& (31 : UInt64))).toNat : Int))) ||| (i32 (shrI .u32 ((x0).toNat : Int) (((i64 ((32 : Int) - ((((i64 x1) &&& (31 : UInt64))).toNat : Int)))).toNat : Int)))))
theorem math_bits_RotateLeft32_c {S : Mem} {w : World} (hS : Sub S w) {x0 : UInt32} {x1 : Int} {r : UInt32} (hF : math_bits_RotateLeft32_p x0 x1 = some r) :
    Calls Tryz.prog 161 #[.int .u32 (((x0).toNat : Int)), .int .i64 (x1)] w fun e w' => e = .returned (.int .u32 (((r).toNat : Int))) ∧ Ext w w' := by
 refine enter (n := 17) Tryz.func161 rfl rfl rfl ?_
 have H := HS.start hS
 unfold math_bits_RotateLeft32_p at hF
 refine sr ?_; intro K1 hK1
 refine p_as (v := .int .u32 (0)) rfl ?_
 refine xk hK1 ?_; clear hK1
 refine sr ?_; intro K2 hK2
 refine p_mv (v := .int .i64 (x1)) rfl ?_
 refine p_val (r_conv u3 u139 rfl (i64_wrap _)) ?_
 refine p_val (r_bits (bo := .and) (by simp) rfl rfl (i64_and _ (31 : UInt64))) ?_
 refine p_as (v := .int .u64 (((((i64 x1) &&& (31 : UInt64))).toNat : Int))) rfl ?_
 refine xk hK2 ?_; clear hK2
 refine sr ?_; intro K3 hK3
 refine p_mv (v := .int .u32 (((x0).toNat : Int))) rfl ?_
 refine p_mv (v := .int .u64 (((((i64 x1) &&& (31 : UInt64))).toNat : Int))) rfl ?_
 refine p_val (r_shl rfl rfl (by omega) (i32_shl _ _)) ?_
 refine p_mv (v := .int .u32 (((x0).toNat : Int))) rfl ?_
 refine p_mv (v := .int .u64 (((((i64 x1) &&& (31 : UInt64))).toNat : Int))) rfl ?_
 refine p_val (r_sub rfl rfl (i64_wrap _)) ?_
 refine p_val (r_shr rfl rfl (by omega) (i32_shr _ _)) ?_
 refine p_val (r_bits (bo := .or) (by simp) rfl rfl (i32_or _ _)) ?_
 refine p_as (v := .int .u32 (((((i32 (shlI .u32 ((x0).toNat : Int) ((((i64 x1) &&& (31 : UInt64))).toNat : Int))) ||| (i32 (shrI .u32 ((x0).toNat : Int) (((i64 ((32 : Int) - ((((i64 x1) &&& (31 : UInt64))).toNat : Int)))).toNat : Int))))).toNat : Int))) rfl ?_
 refine xk hK3 ?_; clear hK3
 refine wp_ret ?_
 obtain rfl := Option.some.inj hF
 refine e_1 rfl (q_tmp (v := .int .u32 (((((i32 (shlI .u32 ((x0).toNat : Int) ((((i64 x1) &&& (31 : UInt64))).toNat : Int))) ||| (i32 (shrI .u32 ((x0).toNat : Int) (((i64 ((32 : Int) - ((((i64 x1) &&& (31 : UInt64))).toNat : Int)))).toNat : Int))))).toNat : Int))) rfl) ?_
 exact ⟨rfl, H.toExt⟩
def hash_big_b0 (x1 : UInt64) (s1 : Int × (List UInt8)) : Option ((Int × (List UInt8)) ⊕ ((List UInt8))) :=
  bif decide ((0 : Int) ≤ s1.1) then (Option.bind (chk (decide (0 ≤ (w64 ((8 : Int) * s1.1))))) fun y1 => Option.bind (app s1.2 ([(i8 (((i64 (shrI .u64 ((x1).toNat : Int) (w64 ((8 : Int) * s1.1))))).toNat : Int))] : List UInt8)) fun y2 => some (.inl (((w64 (s1.1 - 1)), y2)))) else (some (.inr (s1.2)))
def hash_big_p (x0 : List UInt8) (x1 : UInt64) (x2 : Int) : Option ((List UInt8)) :=
  Option.bind (Option.bind (iter (hash_big_b0 x1) (((w64 (x2 - 1)), x0))) (fun e => some (e))) (fun t1 => some (t1))
theorem hash_big_c {S : Mem} {w : World} {x0 : List UInt8} {pv1 : Value} {pcs1 prs1 : List Value} (H : HS ⟨S, keysR [.osl (pv1) (x0).length 1 pcs1 prs1 5], w⟩ S w [.osl (pv1) (x0).length 1 pcs1 prs1 5]) (pg1 : RL S pcs1 x0) {x1 : UInt64} {x2 : Int} {r : (List UInt8)} (hF : hash_big_p x0 x1 x2 = some r) :
    Calls Tryz.prog 118 #[pv1, .int .u64 (((x1).toNat : Int)), .int .i64 (x2)] w fun e w' => ∃ (S2 : Mem) (pv3 : Value) (pcs3 prs3 : List Value), e = .returned (pv3) ∧ HS ⟨S, keysR [.osl (pv1) (x0).length 1 pcs1 prs1 5], w⟩ S2 w' [.osl (pv3) (r).length 1 pcs3 prs3 5] ∧ RL S2 pcs3 r := by
 refine enter (n := 23) Tryz.func118 rfl rfl rfl ?_
 unfold hash_big_p at hF
 refine sr ?_; intro K1 hK1
 refine p_as (v := .slice none 0 0) rfl ?_
 refine xk hK1 ?_; clear hK1
 refine wp_seq_k ?_; intro K2 hK2
 refine nameF fun m1 k1 => ?_
 obtain ⟨t1, hE1, hF1⟩ := bnd hF
 have J1 : ∀ (v4 : Value) (cs4 rs3 : List Value) (m4 : FM) (w4 : World), (∀ t, has [0, 7, 8, 9, 10, 11, 12, 13, 14, 15, 16, 17, 18, 19, 20, 21] t = false → look m4 t = look m1 t) → look m4 0 = v4 → HS ⟨S, keysR [.osl (pv1) (x0).length 1 pcs1 prs1 5], w⟩ S w4 [.osl (v4) (t1).length 1 cs4 rs3 5] → RL S cs4 t1 → K2 (fr 23 m4) w4 := by
  clear H; intro v4 cs4 rs3 m4 w4 k5 q4 H g4
  refine hK2 _ _ ?_
  refine sr ?_; intro K7 hK7
  refine p_mv (v := v4) q4 ?_
  refine p_as (v := v4) rfl ?_
  refine xk hK7 ?_; clear hK7
  refine wp_ret ?_
  obtain rfl := Option.some.inj hF1
  refine e_1 rfl (q_tmp (v := v4) rfl) ?_
  replace H : HS ⟨S, keysR [.osl (pv1) (x0).length 1 pcs1 prs1 5], w⟩ S w4 [.osl (v4) (t1).length 1 cs4 rs3 5] := H
  exact ⟨_, _, _, _, rfl, H, g4⟩
 refine sr ?_; intro K3 hK3
 refine p_mv (k1 2) ?_
 refine p_val (r_subI rfl rfl) ?_
 refine p_as (v := .int .i64 ((w64 (x2 - 1)))) rfl ?_
 refine xk hK3 ?_; clear hK3
 refine wp_block ?_
 refine nameF fun m2 k2 => ?_
 obtain ⟨out1, hL1, hE2⟩ := bnd hE1
 replace H : HS ⟨S, keysR [.osl (pv1) (x0).length 1 pcs1 prs1 5], w⟩ S w [.osl (pv1) (x0).length 1 pcs1 prs1 5] := H
 refine loopI [0, 7, 10, 11, 12, 13, 14, 15, 16, 17, 18, 19, 20, 21] (fun (s1 : Int × (List UInt8)) (m3 : FM) (w1 : World) => ∃ (v1 : Value) (cs1 rs1 : List Value), look m3 0 = v1 ∧ look m3 7 = .int .i64 (s1.1) ∧ HS ⟨S, keysR [.osl (pv1) (x0).length 1 pcs1 prs1 5], w⟩ S w1 [.osl (v1) (s1.2).length 1 cs1 rs1 5] ∧ RL S cs1 s1.2) hL1 ⟨_, _, _, (show _ = (pv1 : Value) from ((k2 0).trans (k1 0))), (k2 7), H, pg1⟩ ?_
 clear H; intro k4 s1 m3 w1 k3 hI1 o2 hb1 hh1; obtain ⟨v1, cs1, rs1, q1, q2, H, g1⟩ := hI1
 have q3 : look m3 1 = .int .u64 (((x1).toNat : Int)) := (k3 1 rfl).trans ((k2 1).trans (k1 1))
 unfold hash_big_b0 at hb1
 refine wp_seq_k ?_; intro K4 hK4
 refine sr ?_; intro K5 hK5
 refine p_mv q2 ?_
 refine p_val (r_geqI rfl rfl) ?_
 refine xk hK5 ?_; clear hK5
 refine c_split (t := decide ((0 : Int) ≤ s1.1)) rfl (fun hc1 => ?_) (fun hc1 => ?_)
 ·replace hb1 := cnd_t hb1 hc1
  refine wp_skip ?_
  refine xn hK4 ?_; clear hK4
  refine wp_seq_k ?_; intro K6 hK6
  refine wp_block ?_
  refine wp_region_lit ?_
  refine p_mv (v := v1) q1 ?_
  refine p_mv q3 ?_
  refine p_mv q2 ?_
  refine p_val (r_mulI rfl rfl) ?_
  obtain ⟨y1, e1, hb1⟩ := bnd hb1
  refine p_val (r_shr rfl rfl (Int.not_lt.2 (of_decide_eq_true (chk_some e1))) (i64_shr _ _)) ?_
  refine p_val (r_conv u102 u5 rfl (i8_wrap _)) ?_
  have g2 : RL S ([Value.int .u8 ((((i8 (((i64 (shrI .u64 ((x1).toNat : Int) (w64 ((8 : Int) * s1.1))))).toNat : Int))).toNat : Int))] ++ ([] : List Value)) ([(i8 (((i64 (shrI .u64 ((x1).toNat : Int) (w64 ((8 : Int) * s1.1))))).toNat : Int))] : List UInt8) := (RL.cons rpU8 RL.nil)
  refine p_of1 (a_bslice (N := 1) (vals := [(0, .int .u8 ((((i8 (((i64 (shrI .u64 ((x1).toNat : Int) (w64 ((8 : Int) * s1.1))))).toNat : Int))).toNat : Int)))]) (l := ([Value.int .u8 ((((i8 (((i64 (shrI .u64 ((x1).toNat : Int) (w64 ((8 : Int) * s1.1))))).toNat : Int))).toNat : Int))] ++ ([] : List Value))) tn100 H rfl rfl rfl g2.len) ?_; clear H; intro w2 v2 H
  generalize ([Value.int .u8 ((((i8 (((i64 (shrI .u64 ((x1).toNat : Int) (w64 ((8 : Int) * s1.1))))).toNat : Int))).toNat : Int))] ++ ([] : List Value)) = cs2 at H g2
  replace H : HS ⟨S, keysR [.osl (pv1) (x0).length 1 pcs1 prs1 5], w⟩ S w2 [.osl (v2) (([(i8 (((i64 (shrI .u64 ((x1).toNat : Int) (w64 ((8 : Int) * s1.1))))).toNat : Int))] : List UInt8)).length 1 cs2 [] 5, .osl (v1) (s1.2).length 1 cs1 rs1 5] := H
  obtain ⟨y2, e2, hb1⟩ := bnd hb1
  refine p_of1 (a_appendX (k := 1) (v2 := v2) tn100 rfl H rfl rfl g1 rfl (H.slW (k := 0) rfl) g2 e2) ?_; clear H; rintro w3 v3 ⟨cs3, rs2, H, g3⟩
  replace H : HS ⟨S, keysR [.osl (pv1) (x0).length 1 pcs1 prs1 5], w⟩ S w3 [.osl (v2) (([(i8 (((i64 (shrI .u64 ((x1).toNat : Int) (w64 ((8 : Int) * s1.1))))).toNat : Int))] : List UInt8)).length 1 cs2 [] 5, .osl (v3) (y2).length 1 cs3 rs2 5] := H
  replace H := H.sel [1] rfl
  replace H : HS ⟨S, keysR [.osl (pv1) (x0).length 1 pcs1 prs1 5], w⟩ S w3 [.osl (v3) (y2).length 1 cs3 rs2 5] := H
  refine p_as (v := v3) rfl ?_
  refine wpList_nil ?_
  refine b_norm ?_
  refine xn hK6 ?_; clear hK6
  refine wp_region_lit ?_
  refine p_mv q2 ?_
  refine p_val (r_subI rfl rfl) ?_
  refine p_as (v := .int .i64 ((w64 (s1.1 - 1)))) rfl ?_
  refine wpList_nil ?_
  refine x_norm ?_
  replace H : HS ⟨S, keysR [.osl (pv1) (x0).length 1 pcs1 prs1 5], w⟩ S w3 [.osl (v3) (y2).length 1 cs3 rs2 5] := H
  obtain rfl := Option.some.inj hb1
  exact ⟨((w64 (s1.1 - 1)), y2), _, rfl, (by (repeat (refine keep_cons rfl ?_)); refine keep_sub k3 rfl ?_; (repeat (refine keep_cons rfl ?_)); exact fun _ _ => rfl), ⟨_, _, _, rfl, rfl, H, g3⟩, hh1⟩
 ·replace hb1 := cnd_f hb1 hc1
  refine wp_exit ?_
  refine x_exit ?_
  refine x_exit ?_
  refine b_hit ?_
  refine x_norm ?_
  replace H : HS ⟨S, keysR [.osl (pv1) (x0).length 1 pcs1 prs1 5], w⟩ S w1 [.osl (v1) (s1.2).length 1 cs1 rs1 5] := H
  obtain rfl := Option.some.inj hb1
  obtain rfl := Option.some.inj hh1
  obtain rfl := Option.some.inj hE2
  exact J1 _ _ _ _ _ (by (repeat (refine keep_cons rfl ?_)); refine keep_sub k3 rfl ?_; (repeat (refine keep_cons rfl ?_)); refine keep_name k2 ?_; (repeat (refine keep_cons rfl ?_)); exact fun _ _ => rfl) (show _ = (v1 : Value) from q1) H g1
def hash_value_b0 (x0 : List UInt8) (s1 : UInt64 × Int) : Option ((UInt64 × Int) ⊕ (UInt64)) :=
  bif decide (s1.2 < ((x0).length : Int)) then (Option.bind (idx x0 s1.2) fun y1 => some (.inl ((((i64 (shlI .u64 ((s1.1).toNat : Int) 8)) ||| (i64 ((y1).toNat : Int))), (w64 (s1.2 + 1)))))) else (some (.inr (s1.1)))
def hash_value_p (x0 : List UInt8) : Option (UInt64) :=
  Option.bind (Option.bind (iter (hash_value_b0 x0) (((0 : UInt64), 0))) (fun e => some (e))) (fun t1 => some (t1))
theorem hash_value_c {S : Mem} {w : World} (hS : Sub S w) {x0 : List UInt8} {r : UInt64} (hF : hash_value_p x0 = some r) :
    Calls Tryz.prog 159 #[str (x0)] w fun e w' => e = .returned (.int .u64 (((r).toNat : Int))) ∧ Ext w w' := by
 refine enter (n := 19) Tryz.func159 rfl rfl rfl ?_
 have H := HS.start hS
 unfold hash_value_p at hF
 refine sr ?_; intro K1 hK1
 refine p_as (v := .int .u64 (0)) rfl ?_
 refine xk hK1 ?_; clear hK1
 refine sr ?_; intro K2 hK2
 refine p_as (v := .int .u64 (0)) rfl ?_
 refine xk hK2 ?_; clear hK2
 refine wp_seq_k ?_; intro K3 hK3
 refine nameF fun m1 k1 => ?_
 obtain ⟨t1, hE1, hF1⟩ := bnd hF
 have J1 : ∀ (m4 : FM) (w2 : World), (∀ t, has [3, 4, 5, 6, 7, 8, 9, 10, 11, 12, 13, 14, 15, 16, 17] t = false → look m4 t = look m1 t) → look m4 3 = .int .u64 (((t1).toNat : Int)) → HS ⟨S, [], w⟩ S w2 [] → K3 (fr 19 m4) w2 := by
  clear H; intro m4 w2 k5 q5 H
  refine hK3 _ _ ?_
  refine sr ?_; intro K9 hK9
  refine p_mv q5 ?_
  refine p_as (v := .int .u64 (((t1).toNat : Int))) rfl ?_
  refine xk hK9 ?_; clear hK9
  refine wp_ret ?_
  obtain rfl := Option.some.inj hF1
  refine e_1 rfl (q_tmp (v := .int .u64 (((t1).toNat : Int))) rfl) ?_
  exact ⟨rfl, H.toExt⟩
 refine sr ?_; intro K4 hK4
 refine p_mv (k1 0) ?_
 refine p_val (r_lenT (N := (x0).length) u9 rfl rfl) ?_
 refine p_mv (v := .int .i64 (0)) rfl ?_
 refine xk hK4 ?_; clear hK4
 refine wp_block ?_
 refine nameF fun m2 k2 => ?_
 obtain ⟨out1, hL1, hE2⟩ := bnd hE1
 replace H : HS ⟨S, [], w⟩ S w [] := H
 refine loopI [3, 4, 7, 8, 9, 10, 11, 12, 13, 14, 15, 16, 17] (fun (s1 : UInt64 × Int) (m3 : FM) (w1 : World) => look m3 3 = .int .u64 (((s1.1).toNat : Int)) ∧ look m3 7 = .int .i64 (s1.2) ∧ HS ⟨S, [], w⟩ S w1 []) hL1 ⟨((k2 3).trans (k1 3)), (k2 7), H⟩ ?_
 clear H; intro k4 s1 m3 w1 k3 hI1 o2 hb1 hh1; obtain ⟨q1, q2, H⟩ := hI1
 have q3 : look m3 0 = str (x0) := (k3 0 rfl).trans ((k2 0).trans (k1 0))
 have q4 : look m3 6 = .int .i64 (((x0).length : Int)) := (k3 6 rfl).trans (k2 6)
 unfold hash_value_b0 at hb1
 refine sr ?_; intro K5 hK5
 refine p_val (r_lssI q2 q4) ?_
 refine xk hK5 ?_; clear hK5
 refine wp_seq_k ?_; intro K6 hK6
 refine c_split (t := decide (s1.2 < ((x0).length : Int))) rfl (fun hc1 => ?_) (fun hc1 => ?_)
 ·replace hb1 := cnd_t hb1 hc1
  refine wp_skip ?_
  refine xn hK6 ?_; clear hK6
  refine wp_seq_k ?_; intro K7 hK7
  refine wp_block ?_
  refine sr ?_; intro K8 hK8
  refine p_mv q2 ?_
  refine p_as (v := .int .i64 (s1.2)) rfl ?_
  refine xk hK8 ?_; clear hK8
  refine wp_region_lit ?_
  refine p_mv q1 ?_
  refine p_val (r_shl rfl rfl (by decide) (i64_shl _ _)) ?_
  refine p_mv q3 ?_
  refine p_mv (v := .int .i64 (s1.2)) rfl ?_
  obtain ⟨y1, e1, hb1⟩ := bnd hb1
  refine p_val (r_idxT (i := (s1.2 : Int).toNat) (u := y1) u9 rfl rfl (idx_some e1).1 (idx_some e1).2) ?_
  refine p_val (r_conv u5 u102 rfl (i64_wrap _)) ?_
  refine p_val (r_bits (bo := .or) (by simp) rfl rfl (i64_or _ _)) ?_
  refine p_as (v := .int .u64 (((((i64 (shlI .u64 ((s1.1).toNat : Int) 8)) ||| (i64 ((y1).toNat : Int)))).toNat : Int))) rfl ?_
  refine wpList_nil ?_
  refine b_norm ?_
  refine xn hK7 ?_; clear hK7
  refine wp_region_lit ?_
  refine p_val (r_addI q2 rfl) ?_
  refine p_mv (v := .int .i64 ((w64 (s1.2 + 1)))) rfl ?_
  refine wpList_nil ?_
  refine x_norm ?_
  replace H : HS ⟨S, [], w⟩ S w1 [] := H
  obtain rfl := Option.some.inj hb1
  exact ⟨(((i64 (shlI .u64 ((s1.1).toNat : Int) 8)) ||| (i64 ((y1).toNat : Int))), (w64 (s1.2 + 1))), _, rfl, (by (repeat (refine keep_cons rfl ?_)); refine keep_sub k3 rfl ?_; (repeat (refine keep_cons rfl ?_)); exact fun _ _ => rfl), ⟨rfl, rfl, H⟩, hh1⟩
 ·replace hb1 := cnd_f hb1 hc1
  refine wp_exit ?_
  refine x_exit ?_
  refine x_exit ?_
  refine b_hit ?_
  refine x_norm ?_
  replace H : HS ⟨S, [], w⟩ S w1 [] := H
  obtain rfl := Option.some.inj hb1
  obtain rfl := Option.some.inj hh1
  obtain rfl := Option.some.inj hE2
  exact J1 _ _ (by (repeat (refine keep_cons rfl ?_)); refine keep_sub k3 rfl ?_; (repeat (refine keep_cons rfl ?_)); refine keep_name k2 ?_; (repeat (refine keep_cons rfl ?_)); exact fun _ _ => rfl) q1 H
def hash_Same_b0 (x0 : List UInt8) (x1 : List UInt8) (s1 : Int × Int) : Option ((Int × Int) ⊕ (Int)) :=
  bif decide (s1.2 < ((x0).length : Int)) then (Option.bind (bif decide (s1.2 < ((x1).length : Int)) then (Option.bind (idx x1 s1.2) fun y1 => some (y1)) else (some ((0 : UInt8)))) (fun t2 => Option.bind (idx x0 s1.2) fun y2 => some (.inl (((bits .or .i64 s1.1 (((y2 ^^^ t2)).toNat : Int)), (w64 (s1.2 + 1))))))) else (some (.inr (s1.1)))
def hash_Same_p (x0 : List UInt8) (x1 : List UInt8) : Option (Bool) :=
  Option.bind (Option.bind (iter (hash_Same_b0 x0 x1) (((bits .xor .i64 ((x0).length : Int) ((x1).length : Int)), 0))) (fun e => some (e))) (fun t1 => some ((t1 == 0)))
theorem hash_Same_c {S : Mem} {w : World} (hS : Sub S w) {x0 : List UInt8} {x1 : List UInt8} {r : Bool} (hF : hash_Same_p x0 x1 = some r) :
    Calls Tryz.prog 49 #[str (x0), str (x1)] w fun e w' => e = .returned (.bool (r)) ∧ Ext w w' := by
 refine enter (n := 36) Tryz.func49 rfl rfl rfl ?_
 have H := HS.start hS
 unfold hash_Same_p at hF
 refine sr ?_; intro K1 hK1
 refine p_as (v := .bool (false)) rfl ?_
 refine xk hK1 ?_; clear hK1
 refine sr ?_; intro K2 hK2
 refine p_mv (v := str (x0)) rfl ?_
 refine p_val (r_lenT (N := (x0).length) u9 rfl rfl) ?_
 refine p_mv (v := str (x1)) rfl ?_
 refine p_val (r_lenT (N := (x1).length) u9 rfl rfl) ?_
 refine p_val (r_bits (bo := .xor) (by simp) (r := (bits .xor .i64 ((x0).length : Int) ((x1).length : Int))) rfl rfl rfl) ?_
 refine p_as (v := .int .i64 ((bits .xor .i64 ((x0).length : Int) ((x1).length : Int)))) rfl ?_
 refine xk hK2 ?_; clear hK2
 refine wp_seq_k ?_; intro K3 hK3
 refine nameF fun m1 k1 => ?_
 obtain ⟨t1, hE1, hF1⟩ := bnd hF
 have J2 : ∀ (m6 : FM) (w3 : World), (∀ t, has [5, 6, 7, 13, 14, 15, 16, 17, 18, 19, 20, 21, 22, 23, 24, 25, 26, 27, 28, 29, 30, 31, 32, 33] t = false → look m6 t = look m1 t) → look m6 5 = .int .i64 (t1) → HS ⟨S, [], w⟩ S w3 [] → K3 (fr 36 m6) w3 := by
  clear H; intro m6 w3 k7 q13 H
  refine hK3 _ _ ?_
  refine sr ?_; intro K12 hK12
  refine p_mv q13 ?_
  refine p_val (r_eqlI rfl rfl) ?_
  refine p_as (v := .bool ((t1 == 0))) rfl ?_
  refine xk hK12 ?_; clear hK12
  refine wp_ret ?_
  obtain rfl := Option.some.inj hF1
  refine e_1 rfl (q_tmp (v := .bool ((t1 == 0))) rfl) ?_
  exact ⟨rfl, H.toExt⟩
 refine sr ?_; intro K4 hK4
 refine p_mv (k1 0) ?_
 refine p_val (r_lenT (N := (x0).length) u9 rfl rfl) ?_
 refine p_mv (v := .int .i64 (0)) rfl ?_
 refine xk hK4 ?_; clear hK4
 refine wp_block ?_
 refine nameF fun m2 k2 => ?_
 obtain ⟨out1, hL1, hE2⟩ := bnd hE1
 replace H : HS ⟨S, [], w⟩ S w [] := H
 refine loopI [5, 6, 7, 15, 16, 17, 18, 19, 20, 21, 22, 23, 24, 25, 26, 27, 28, 29, 30, 31, 32, 33] (fun (s1 : Int × Int) (m3 : FM) (w1 : World) => look m3 5 = .int .i64 (s1.1) ∧ look m3 15 = .int .i64 (s1.2) ∧ HS ⟨S, [], w⟩ S w1 []) hL1 ⟨((k2 5).trans (k1 5)), (k2 15), H⟩ ?_
 clear H; intro k4 s1 m3 w1 k3 hI1 o2 hb1 hh1; obtain ⟨q1, q2, H⟩ := hI1
 have q3 : look m3 0 = str (x0) := (k3 0 rfl).trans ((k2 0).trans (k1 0))
 have q4 : look m3 1 = str (x1) := (k3 1 rfl).trans ((k2 1).trans (k1 1))
 have q5 : look m3 14 = .int .i64 (((x0).length : Int)) := (k3 14 rfl).trans (k2 14)
 unfold hash_Same_b0 at hb1
 refine sr ?_; intro K5 hK5
 refine p_val (r_lssI q2 q5) ?_
 refine xk hK5 ?_; clear hK5
 refine wp_seq_k ?_; intro K6 hK6
 refine c_split (t := decide (s1.2 < ((x0).length : Int))) rfl (fun hc1 => ?_) (fun hc1 => ?_)
 ·replace hb1 := cnd_t hb1 hc1
  refine wp_skip ?_
  refine xn hK6 ?_; clear hK6
  refine wp_seq_k ?_; intro K7 hK7
  refine wp_block ?_
  refine sr ?_; intro K8 hK8
  refine p_mv q2 ?_
  refine p_as (v := .int .i64 (s1.2)) rfl ?_
  refine xk hK8 ?_; clear hK8
  refine sr ?_; intro K9 hK9
  refine p_as (v := .int .u8 (0)) rfl ?_
  refine xk hK9 ?_; clear hK9
  refine wp_seq_k ?_; intro K10 hK10
  refine nameF fun m4 k5 => ?_
  obtain ⟨t2, hE3, hF2⟩ := bnd hb1
  have J1 : ∀ (m5 : FM) (w2 : World), (∀ t, has [7, 18, 19, 20, 21, 22, 23, 24] t = false → look m5 t = look m4 t) → look m5 7 = .int .u8 (((t2).toNat : Int)) → HS ⟨S, [], w⟩ S w2 [] → K10 (fr 36 m5) w2 := by
   clear H; intro m5 w2 k6 q6 H
   have q7 : look m5 0 = str (x0) := (k6 0 rfl).trans ((k5 0).trans q3)
   have q8 : look m5 1 = str (x1) := (k6 1 rfl).trans ((k5 1).trans q4)
   have q9 : look m5 14 = .int .i64 (((x0).length : Int)) := (k6 14 rfl).trans ((k5 14).trans q5)
   have q10 : look m5 5 = .int .i64 (s1.1) := (k6 5 rfl).trans ((k5 5).trans q1)
   have q11 : look m5 15 = .int .i64 (s1.2) := (k6 15 rfl).trans ((k5 15).trans q2)
   have q12 : look m5 6 = .int .i64 (s1.2) := (k6 6 rfl).trans (k5 6)
   refine hK10 _ _ ?_
   refine wp_region_lit ?_
   refine p_mv q10 ?_
   refine p_mv q7 ?_
   refine p_mv q12 ?_
   obtain ⟨y2, e2, hF2⟩ := bnd hF2
   refine p_val (r_idxT (i := (s1.2 : Int).toNat) (u := y2) u9 rfl rfl (idx_some e2).1 (idx_some e2).2) ?_
   refine p_mv q6 ?_
   refine p_val (r_bits (bo := .xor) (by simp) rfl rfl (i8_xor _ _)) ?_
   refine p_val (r_conv u5 u3 rfl (w64_u8 _)) ?_
   refine p_val (r_bits (bo := .or) (by simp) (r := (bits .or .i64 s1.1 (((y2 ^^^ t2)).toNat : Int))) rfl rfl rfl) ?_
   refine p_as (v := .int .i64 ((bits .or .i64 s1.1 (((y2 ^^^ t2)).toNat : Int)))) rfl ?_
   refine wpList_nil ?_
   refine b_norm ?_
   refine xn hK7 ?_; clear hK7
   refine wp_region_lit ?_
   refine p_val (r_addI q11 rfl) ?_
   refine p_mv (v := .int .i64 ((w64 (s1.2 + 1)))) rfl ?_
   refine wpList_nil ?_
   refine x_norm ?_
   replace H : HS ⟨S, [], w⟩ S w2 [] := H
   obtain rfl := Option.some.inj hF2
   exact ⟨((bits .or .i64 s1.1 (((y2 ^^^ t2)).toNat : Int)), (w64 (s1.2 + 1))), _, rfl, (by (repeat (refine keep_cons rfl ?_)); refine keep_sub k6 rfl ?_; (repeat (refine keep_cons rfl ?_)); refine keep_name k5 ?_; (repeat (refine keep_cons rfl ?_)); refine keep_sub k3 rfl ?_; (repeat (refine keep_cons rfl ?_)); exact fun _ _ => rfl), ⟨rfl, rfl, H⟩, hh1⟩
  refine sr ?_; intro K11 hK11
  refine p_mv (k5 6) ?_
  refine p_mv ((k5 1).trans q4) ?_
  refine p_val (r_lenT (N := (x1).length) u9 rfl rfl) ?_
  refine p_val (r_lssI rfl rfl) ?_
  refine xk hK11 ?_; clear hK11
  refine c_split (t := decide (s1.2 < ((x1).length : Int))) rfl (fun hc2 => ?_) (fun hc2 => ?_)
  ·replace hE3 := cnd_t hE3 hc2
   refine wp_region_lit ?_
   refine p_mv ((k5 1).trans q4) ?_
   refine p_mv (k5 6) ?_
   obtain ⟨y1, e1, hE3⟩ := bnd hE3
   refine p_val (r_idxT (i := (s1.2 : Int).toNat) (u := y1) u9 rfl rfl (idx_some e1).1 (idx_some e1).2) ?_
   refine p_as (v := .int .u8 (((y1).toNat : Int))) rfl ?_
   refine wpList_nil ?_
   refine x_norm ?_
   replace H : HS ⟨S, [], w⟩ S w1 [] := H
   obtain rfl := Option.some.inj hE3
   exact J1 _ _ (by (repeat (refine keep_cons rfl ?_)); exact fun _ _ => rfl) rfl H
  ·replace hE3 := cnd_f hE3 hc2
   refine wp_skip ?_
   refine x_norm ?_
   replace H : HS ⟨S, [], w⟩ S w1 [] := H
   obtain rfl := Option.some.inj hE3
   exact J1 _ _ (by (repeat (refine keep_cons rfl ?_)); exact fun _ _ => rfl) (k5 7) H
 ·replace hb1 := cnd_f hb1 hc1
  refine wp_exit ?_
  refine x_exit ?_
  refine x_exit ?_
  refine b_hit ?_
  refine x_norm ?_
  replace H : HS ⟨S, [], w⟩ S w1 [] := H
  obtain rfl := Option.some.inj hb1
  obtain rfl := Option.some.inj hh1
  obtain rfl := Option.some.inj hE2
  exact J2 _ _ (by (repeat (refine keep_cons rfl ?_)); refine keep_sub k3 rfl ?_; (repeat (refine keep_cons rfl ?_)); refine keep_name k2 ?_; (repeat (refine keep_cons rfl ?_)); exact fun _ _ => rfl) q1 H
def hash_keys_p  : Option ((Vec UInt32 64)) :=
  some ((⟨[(1116352408 : UInt32), (1899447441 : UInt32), (3049323471 : UInt32), (3921009573 : UInt32), (961987163 : UInt32), (1508970993 : UInt32), (2453635748 : UInt32), (2870763221 : UInt32), (3624381080 : UInt32), (310598401 : UInt32), (607225278 : UInt32), (1426881987 : UInt32), (1925078388 : UInt32), (2162078206 : UInt32), (2614888103 : UInt32), (3248222580 : UInt32), (3835390401 : UInt32), (4022224774 : UInt32), (264347078 : UInt32), (604807628 : UInt32), (770255983 : UInt32), (1249150122 : UInt32), (1555081692 : UInt32), (1996064986 : UInt32), (2554220882 : UInt32), (2821834349 : UInt32), (2952996808 : UInt32), (3210313671 : UInt32), (3336571891 : UInt32), (3584528711 : UInt32), (113926993 : UInt32), (338241895 : UInt32), (666307205 : UInt32), (773529912 : UInt32), (1294757372 : UInt32), (1396182291 : UInt32), (1695183700 : UInt32), (1986661051 : UInt32), (2177026350 : UInt32), (2456956037 : UInt32), (2730485921 : UInt32), (2820302411 : UInt32), (3259730800 : UInt32), (3345764771 : UInt32), (3516065817 : UInt32), (3600352804 : UInt32), (4094571909 : UInt32), (275423344 : UInt32), (430227734 : UInt32), (506948616 : UInt32), (659060556 : UInt32), (883997877 : UInt32), (958139571 : UInt32), (1322822218 : UInt32), (1537002063 : UInt32), (1747873779 : UInt32), (1955562222 : UInt32), (2024104815 : UInt32), (2227730452 : UInt32), (2361852424 : UInt32), (2428436474 : UInt32), (2756734187 : UInt32), (3204031479 : UInt32), (3329325298 : UInt32)], rfl⟩ : Vec UInt32 64))
set_option maxRecDepth 20000 in
theorem hash_keys_c {S : Mem} {w : World} (hS : Sub S w)  {r : (Vec UInt32 64)} (hF : hash_keys_p = some r) :
    Calls Tryz.prog 124 #[] w fun e w' => e = .returned (.agg (vcl (fun a_ : UInt32 => Value.int .u32 (((a_).toNat : Int))) r).toArray) ∧ Ext w w' := by
 refine enter (n := 2) Tryz.func124 rfl rfl rfl ?_
 have H := HS.start hS
 unfold hash_keys_p at hF
 refine sr ?_; intro K1 hK1
 refine p_ofb (a_alloc (l := (vcl (fun a_ : UInt32 => Value.int .u32 (((a_).toNat : Int))) (vrep 64 (0 : UInt32)))) H tz157 rfl) ?_; clear H; intro w1 b1 H
 refine xk hK1 ?_; clear hK1
 refine sr ?_; intro K2 hK2
 refine p_val (r_build (vals := [(0, .int .u32 (1116352408)), (1, .int .u32 (1899447441)), (2, .int .u32 (3049323471)), (3, .int .u32 (3921009573)), (4, .int .u32 (961987163)), (5, .int .u32 (1508970993)), (6, .int .u32 (2453635748)), (7, .int .u32 (2870763221)), (8, .int .u32 (3624381080)), (9, .int .u32 (310598401)), (10, .int .u32 (607225278)), (11, .int .u32 (1426881987)), (12, .int .u32 (1925078388)), (13, .int .u32 (2162078206)), (14, .int .u32 (2614888103)), (15, .int .u32 (3248222580)), (16, .int .u32 (3835390401)), (17, .int .u32 (4022224774)), (18, .int .u32 (264347078)), (19, .int .u32 (604807628)), (20, .int .u32 (770255983)), (21, .int .u32 (1249150122)), (22, .int .u32 (1555081692)), (23, .int .u32 (1996064986)), (24, .int .u32 (2554220882)), (25, .int .u32 (2821834349)), (26, .int .u32 (2952996808)), (27, .int .u32 (3210313671)), (28, .int .u32 (3336571891)), (29, .int .u32 (3584528711)), (30, .int .u32 (113926993)), (31, .int .u32 (338241895)), (32, .int .u32 (666307205)), (33, .int .u32 (773529912)), (34, .int .u32 (1294757372)), (35, .int .u32 (1396182291)), (36, .int .u32 (1695183700)), (37, .int .u32 (1986661051)), (38, .int .u32 (2177026350)), (39, .int .u32 (2456956037)), (40, .int .u32 (2730485921)), (41, .int .u32 (2820302411)), (42, .int .u32 (3259730800)), (43, .int .u32 (3345764771)), (44, .int .u32 (3516065817)), (45, .int .u32 (3600352804)), (46, .int .u32 (4094571909)), (47, .int .u32 (275423344)), (48, .int .u32 (430227734)), (49, .int .u32 (506948616)), (50, .int .u32 (659060556)), (51, .int .u32 (883997877)), (52, .int .u32 (958139571)), (53, .int .u32 (1322822218)), (54, .int .u32 (1537002063)), (55, .int .u32 (1747873779)), (56, .int .u32 (1955562222)), (57, .int .u32 (2024104815)), (58, .int .u32 (2227730452)), (59, .int .u32 (2361852424)), (60, .int .u32 (2428436474)), (61, .int .u32 (2756734187)), (62, .int .u32 (3204031479)), (63, .int .u32 (3329325298))]) (l := (vcl (fun a_ : UInt32 => Value.int .u32 (((a_).toNat : Int))) (⟨[(1116352408 : UInt32), (1899447441 : UInt32), (3049323471 : UInt32), (3921009573 : UInt32), (961987163 : UInt32), (1508970993 : UInt32), (2453635748 : UInt32), (2870763221 : UInt32), (3624381080 : UInt32), (310598401 : UInt32), (607225278 : UInt32), (1426881987 : UInt32), (1925078388 : UInt32), (2162078206 : UInt32), (2614888103 : UInt32), (3248222580 : UInt32), (3835390401 : UInt32), (4022224774 : UInt32), (264347078 : UInt32), (604807628 : UInt32), (770255983 : UInt32), (1249150122 : UInt32), (1555081692 : UInt32), (1996064986 : UInt32), (2554220882 : UInt32), (2821834349 : UInt32), (2952996808 : UInt32), (3210313671 : UInt32), (3336571891 : UInt32), (3584528711 : UInt32), (113926993 : UInt32), (338241895 : UInt32), (666307205 : UInt32), (773529912 : UInt32), (1294757372 : UInt32), (1396182291 : UInt32), (1695183700 : UInt32), (1986661051 : UInt32), (2177026350 : UInt32), (2456956037 : UInt32), (2730485921 : UInt32), (2820302411 : UInt32), (3259730800 : UInt32), (3345764771 : UInt32), (3516065817 : UInt32), (3600352804 : UInt32), (4094571909 : UInt32), (275423344 : UInt32), (430227734 : UInt32), (506948616 : UInt32), (659060556 : UInt32), (883997877 : UInt32), (958139571 : UInt32), (1322822218 : UInt32), (1537002063 : UInt32), (1747873779 : UInt32), (1955562222 : UInt32), (2024104815 : UInt32), (2227730452 : UInt32), (2361852424 : UInt32), (2428436474 : UInt32), (2756734187 : UInt32), (3204031479 : UInt32), (3329325298 : UInt32)], rfl⟩ : Vec UInt32 64))) tb157 rfl rfl) ?_
 refine p_ofs (a_storeVW (X := (vrep 64 (0 : UInt32))) (Y := (⟨[(1116352408 : UInt32), (1899447441 : UInt32), (3049323471 : UInt32), (3921009573 : UInt32), (961987163 : UInt32), (1508970993 : UInt32), (2453635748 : UInt32), (2870763221 : UInt32), (3624381080 : UInt32), (310598401 : UInt32), (607225278 : UInt32), (1426881987 : UInt32), (1925078388 : UInt32), (2162078206 : UInt32), (2614888103 : UInt32), (3248222580 : UInt32), (3835390401 : UInt32), (4022224774 : UInt32), (264347078 : UInt32), (604807628 : UInt32), (770255983 : UInt32), (1249150122 : UInt32), (1555081692 : UInt32), (1996064986 : UInt32), (2554220882 : UInt32), (2821834349 : UInt32), (2952996808 : UInt32), (3210313671 : UInt32), (3336571891 : UInt32), (3584528711 : UInt32), (113926993 : UInt32), (338241895 : UInt32), (666307205 : UInt32), (773529912 : UInt32), (1294757372 : UInt32), (1396182291 : UInt32), (1695183700 : UInt32), (1986661051 : UInt32), (2177026350 : UInt32), (2456956037 : UInt32), (2730485921 : UInt32), (2820302411 : UInt32), (3259730800 : UInt32), (3345764771 : UInt32), (3516065817 : UInt32), (3600352804 : UInt32), (4094571909 : UInt32), (275423344 : UInt32), (430227734 : UInt32), (506948616 : UInt32), (659060556 : UInt32), (883997877 : UInt32), (958139571 : UInt32), (1322822218 : UInt32), (1537002063 : UInt32), (1747873779 : UInt32), (1955562222 : UInt32), (2024104815 : UInt32), (2227730452 : UInt32), (2361852424 : UInt32), (2428436474 : UInt32), (2756734187 : UInt32), (3204031479 : UInt32), (3329325298 : UInt32)], rfl⟩ : Vec UInt32 64)) (cf := fun a_ : UInt32 => Value.int .u32 (((a_).toNat : Int))) (k := 0) tsz157 H rfl rfl rfl (fun _ => rfl)) ?_; clear H; intro w2 H
 replace H : HS ⟨S, [], w⟩ S w2 [.blk b1 ((vcl (fun a_ : UInt32 => Value.int .u32 (((a_).toNat : Int))) (⟨[(1116352408 : UInt32), (1899447441 : UInt32), (3049323471 : UInt32), (3921009573 : UInt32), (961987163 : UInt32), (1508970993 : UInt32), (2453635748 : UInt32), (2870763221 : UInt32), (3624381080 : UInt32), (310598401 : UInt32), (607225278 : UInt32), (1426881987 : UInt32), (1925078388 : UInt32), (2162078206 : UInt32), (2614888103 : UInt32), (3248222580 : UInt32), (3835390401 : UInt32), (4022224774 : UInt32), (264347078 : UInt32), (604807628 : UInt32), (770255983 : UInt32), (1249150122 : UInt32), (1555081692 : UInt32), (1996064986 : UInt32), (2554220882 : UInt32), (2821834349 : UInt32), (2952996808 : UInt32), (3210313671 : UInt32), (3336571891 : UInt32), (3584528711 : UInt32), (113926993 : UInt32), (338241895 : UInt32), (666307205 : UInt32), (773529912 : UInt32), (1294757372 : UInt32), (1396182291 : UInt32), (1695183700 : UInt32), (1986661051 : UInt32), (2177026350 : UInt32), (2456956037 : UInt32), (2730485921 : UInt32), (2820302411 : UInt32), (3259730800 : UInt32), (3345764771 : UInt32), (3516065817 : UInt32), (3600352804 : UInt32), (4094571909 : UInt32), (275423344 : UInt32), (430227734 : UInt32), (506948616 : UInt32), (659060556 : UInt32), (883997877 : UInt32), (958139571 : UInt32), (1322822218 : UInt32), (1537002063 : UInt32), (1747873779 : UInt32), (1955562222 : UInt32), (2024104815 : UInt32), (2227730452 : UInt32), (2361852424 : UInt32), (2428436474 : UInt32), (2756734187 : UInt32), (3204031479 : UInt32), (3329325298 : UInt32)], rfl⟩ : Vec UInt32 64))) 157] := H
 refine xk hK2 ?_; clear hK2
 refine wp_ret ?_
 obtain rfl := Option.some.inj hF
 refine e_1 rfl (qh_cell (l := (vcl (fun a_ : UInt32 => Value.int .u32 (((a_).toNat : Int))) (⟨[(1116352408 : UInt32), (1899447441 : UInt32), (3049323471 : UInt32), (3921009573 : UInt32), (961987163 : UInt32), (1508970993 : UInt32), (2453635748 : UInt32), (2870763221 : UInt32), (3624381080 : UInt32), (310598401 : UInt32), (607225278 : UInt32), (1426881987 : UInt32), (1925078388 : UInt32), (2162078206 : UInt32), (2614888103 : UInt32), (3248222580 : UInt32), (3835390401 : UInt32), (4022224774 : UInt32), (264347078 : UInt32), (604807628 : UInt32), (770255983 : UInt32), (1249150122 : UInt32), (1555081692 : UInt32), (1996064986 : UInt32), (2554220882 : UInt32), (2821834349 : UInt32), (2952996808 : UInt32), (3210313671 : UInt32), (3336571891 : UInt32), (3584528711 : UInt32), (113926993 : UInt32), (338241895 : UInt32), (666307205 : UInt32), (773529912 : UInt32), (1294757372 : UInt32), (1396182291 : UInt32), (1695183700 : UInt32), (1986661051 : UInt32), (2177026350 : UInt32), (2456956037 : UInt32), (2730485921 : UInt32), (2820302411 : UInt32), (3259730800 : UInt32), (3345764771 : UInt32), (3516065817 : UInt32), (3600352804 : UInt32), (4094571909 : UInt32), (275423344 : UInt32), (430227734 : UInt32), (506948616 : UInt32), (659060556 : UInt32), (883997877 : UInt32), (958139571 : UInt32), (1322822218 : UInt32), (1537002063 : UInt32), (1747873779 : UInt32), (1955562222 : UInt32), (2024104815 : UInt32), (2227730452 : UInt32), (2361852424 : UInt32), (2428436474 : UInt32), (2756734187 : UInt32), (3204031479 : UInt32), (3329325298 : UInt32)], rfl⟩ : Vec UInt32 64))) tg157 H rfl (k := 0) rfl (vcl_all _ _) (vcl_ble _ _)) ?_
 exact ⟨rfl, H.toExt⟩
def hash_state_next_1_p (x0 : UInt32) (x1 : Int) : Option (UInt32) :=
  Option.bind (math_bits_RotateLeft32_p x0 (w64 (0 - x1))) fun y1 => some (y1)
theorem hash_state_next_1_c {S : Mem} {w : World} (hS : Sub S w) {x0 : UInt32} {x1 : Int} {r : UInt32} (hF : hash_state_next_1_p x0 x1 = some r) :
    Calls Tryz.prog 160 #[.int .u32 (((x0).toNat : Int)), .int .i64 (x1)] w fun e w' => e = .returned (.int .u32 (((r).toNat : Int))) ∧ Ext w w' := by
 refine enter (n := 9) Tryz.func160 rfl rfl rfl ?_
 have H := HS.start hS
 unfold hash_state_next_1_p at hF
 refine sr ?_; intro K1 hK1
 refine p_as (v := .int .u32 (0)) rfl ?_
 refine xk hK1 ?_; clear hK1
 refine sr ?_; intro K2 hK2
 refine p_mv (v := .int .u32 (((x0).toNat : Int))) rfl ?_
 refine p_mv (v := .int .i64 (x1)) rfl ?_
 refine p_val (r_neg (r := (w64 (0 - x1))) rfl rfl) ?_
 obtain ⟨y1, e1, hF⟩ := bnd hF
 refine p_call (l := [.int .u32 (((x0).toNat : Int)), .int .i64 ((w64 (0 - x1)))]) is161 rfl ?_
 refine (math_bits_RotateLeft32_c H.sub e1).mono ?_; rintro _ w1 ⟨rfl, hx⟩; replace H := H.ext hx; clear hx
 refine p_as (v := .int .u32 (((y1).toNat : Int))) rfl ?_
 refine xk hK2 ?_; clear hK2
 refine wp_ret ?_
 obtain rfl := Option.some.inj hF
 refine e_1 rfl (q_tmp (v := .int .u32 (((y1).toNat : Int))) rfl) ?_
 exact ⟨rfl, H.toExt⟩
def hash_state_next_b0 (x1 : List UInt8) (s1 : Int × (Vec UInt32 64)) : Option ((Int × (Vec UInt32 64)) ⊕ ((Vec UInt32 64))) :=
  bif decide (s1.1 < 16) then (Option.bind (sub3 x1 (w64 ((4 : Int) * s1.1)) (w64 ((w64 ((4 : Int) * s1.1)) + 4))) fun y1 => Option.bind (hash_value_p y1) fun y2 => Option.bind (idx s1.2.l s1.1) fun y3 => Option.bind (setV s1.2 (s1.1 : Int) (i32 ((y2).toNat : Int))) fun y4 => some (.inl (((w64 (s1.1 + 1)), y4)))) else (some (.inr (s1.2)))
def hash_state_next_b1 (s2 : Int × (Vec UInt32 64)) : Option ((Int × (Vec UInt32 64)) ⊕ ((Vec UInt32 64))) :=
  bif decide (s2.1 < 64) then (Option.bind (idx s2.2.l (w64 (s2.1 - 15))) fun y5 => Option.bind (idx s2.2.l (w64 (s2.1 - 2))) fun y6 => Option.bind (idx s2.2.l (w64 (s2.1 - 16))) fun y7 => Option.bind (hash_state_next_1_p y5 7) fun y8 => Option.bind (hash_state_next_1_p y5 18) fun y9 => Option.bind (idx s2.2.l (w64 (s2.1 - 7))) fun y10 => Option.bind (hash_state_next_1_p y6 17) fun y11 => Option.bind (hash_state_next_1_p y6 19) fun y12 => Option.bind (idx s2.2.l s2.1) fun y13 => Option.bind (setV s2.2 (s2.1 : Int) (i32 ((((i32 ((((i32 (((y7).toNat : Int) + ((((y8 ^^^ y9) ^^^ (i32 (shrI .u32 ((y5).toNat : Int) 3)))).toNat : Int)))).toNat : Int) + ((y10).toNat : Int)))).toNat : Int) + ((((y11 ^^^ y12) ^^^ (i32 (shrI .u32 ((y6).toNat : Int) 10)))).toNat : Int)))) fun y14 => some (.inl (((w64 (s2.1 + 1)), y14)))) else (some (.inr (s2.2)))
def hash_state_next_b2 (x2 : Vec UInt32 64) (t2 : (Vec UInt32 64)) (s3 : Int × UInt32 × UInt32 × UInt32 × UInt32 × UInt32 × UInt32 × UInt32 × UInt32) : Option ((Int × UInt32 × UInt32 × UInt32 × UInt32 × UInt32 × UInt32 × UInt32 × UInt32) ⊕ (UInt32 × UInt32 × UInt32 × UInt32 × UInt32 × UInt32 × UInt32 × UInt32)) :=
  bif decide (s3.1 < 64) then (Option.bind (hash_state_next_1_p s3.2.2.2.2.2.1 6) fun y15 => Option.bind (hash_state_next_1_p s3.2.2.2.2.2.1 11) fun y16 => Option.bind (hash_state_next_1_p s3.2.2.2.2.2.1 25) fun y17 => Option.bind (idx x2.l s3.1) fun y18 => Option.bind (idx t2.l s3.1) fun y19 => Option.bind (hash_state_next_1_p s3.2.1 2) fun y20 => Option.bind (hash_state_next_1_p s3.2.1 13) fun y21 => Option.bind (hash_state_next_1_p s3.2.1 22) fun y22 => some (.inl (((w64 (s3.1 + 1)), (i32 ((((i32 ((((i32 ((((i32 ((((i32 (((s3.2.2.2.2.2.2.2.2).toNat : Int) + ((((y15 ^^^ y16) ^^^ y17)).toNat : Int)))).toNat : Int) + ((((s3.2.2.2.2.2.1 &&& s3.2.2.2.2.2.2.1) ^^^ (((4294967295 : UInt32) ^^^ s3.2.2.2.2.2.1) &&& s3.2.2.2.2.2.2.2.1))).toNat : Int)))).toNat : Int) + ((y18).toNat : Int)))).toNat : Int) + ((y19).toNat : Int)))).toNat : Int) + (((i32 (((((y20 ^^^ y21) ^^^ y22)).toNat : Int) + (((((s3.2.1 &&& s3.2.2.1) ^^^ (s3.2.1 &&& s3.2.2.2.1)) ^^^ (s3.2.2.1 &&& s3.2.2.2.1))).toNat : Int)))).toNat : Int))), s3.2.1, s3.2.2.1, s3.2.2.2.1, (i32 (((s3.2.2.2.2.1).toNat : Int) + (((i32 ((((i32 ((((i32 ((((i32 (((s3.2.2.2.2.2.2.2.2).toNat : Int) + ((((y15 ^^^ y16) ^^^ y17)).toNat : Int)))).toNat : Int) + ((((s3.2.2.2.2.2.1 &&& s3.2.2.2.2.2.2.1) ^^^ (((4294967295 : UInt32) ^^^ s3.2.2.2.2.2.1) &&& s3.2.2.2.2.2.2.2.1))).toNat : Int)))).toNat : Int) + ((y18).toNat : Int)))).toNat : Int) + ((y19).toNat : Int)))).toNat : Int))), s3.2.2.2.2.2.1, s3.2.2.2.2.2.2.1, s3.2.2.2.2.2.2.2.1)))) else (some (.inr ((s3.2.1, s3.2.2.1, s3.2.2.2.1, s3.2.2.2.2.1, s3.2.2.2.2.2.1, s3.2.2.2.2.2.2.1, s3.2.2.2.2.2.2.2.1, s3.2.2.2.2.2.2.2.2))))
def hash_state_next_b3 (x0 : UInt32 × UInt32 × UInt32 × UInt32 × UInt32 × UInt32 × UInt32 × UInt32) (s4 : Int × UInt32 × UInt32 × UInt32 × UInt32 × UInt32 × UInt32 × UInt32 × UInt32) : Option ((Int × UInt32 × UInt32 × UInt32 × UInt32 × UInt32 × UInt32 × UInt32 × UInt32) ⊕ (UInt32 × UInt32 × UInt32 × UInt32 × UInt32 × UInt32 × UInt32 × UInt32)) :=
  bif decide (s4.1 < 8) then (Option.bind (idx ([s4.2.1, s4.2.2.1, s4.2.2.2.1, s4.2.2.2.2.1, s4.2.2.2.2.2.1, s4.2.2.2.2.2.2.1, s4.2.2.2.2.2.2.2.1, s4.2.2.2.2.2.2.2.2] : List UInt32) s4.1) fun y23 => Option.bind (idx ([x0.1, x0.2.1, x0.2.2.1, x0.2.2.2.1, x0.2.2.2.2.1, x0.2.2.2.2.2.1, x0.2.2.2.2.2.2.1, x0.2.2.2.2.2.2.2] : List UInt32) s4.1) fun y24 => Option.bind (idx ([s4.2.1, s4.2.2.1, s4.2.2.2.1, s4.2.2.2.2.1, s4.2.2.2.2.2.1, s4.2.2.2.2.2.2.1, s4.2.2.2.2.2.2.2.1, s4.2.2.2.2.2.2.2.2] : List UInt32) s4.1) fun y25 => Option.bind (setL ([s4.2.1, s4.2.2.1, s4.2.2.2.1, s4.2.2.2.2.1, s4.2.2.2.2.2.1, s4.2.2.2.2.2.2.1, s4.2.2.2.2.2.2.2.1, s4.2.2.2.2.2.2.2.2] : List UInt32) (s4.1 : Int) (i32 (((y23).toNat : Int) + ((y24).toNat : Int)))) fun y26 => some (.inl (((w64 (s4.1 + 1)), (y26.getD 0 (0 : UInt32)), (y26.getD 1 (0 : UInt32)), (y26.getD 2 (0 : UInt32)), (y26.getD 3 (0 : UInt32)), (y26.getD 4 (0 : UInt32)), (y26.getD 5 (0 : UInt32)), (y26.getD 6 (0 : UInt32)), (y26.getD 7 (0 : UInt32)))))) else (some (.inr ((s4.2.1, s4.2.2.1, s4.2.2.2.1, s4.2.2.2.2.1, s4.2.2.2.2.2.1, s4.2.2.2.2.2.2.1, s4.2.2.2.2.2.2.2.1, s4.2.2.2.2.2.2.2.2))))
def hash_state_next_p (x0 : UInt32 × UInt32 × UInt32 × UInt32 × UInt32 × UInt32 × UInt32 × UInt32) (x1 : List UInt8) (x2 : Vec UInt32 64) : Option ((UInt32 × UInt32 × UInt32 × UInt32 × UInt32 × UInt32 × UInt32 × UInt32) × (Vec UInt32 64)) :=
  Option.bind (Option.bind (iter (hash_state_next_b0 x1) ((0, (vrep 64 (0 : UInt32))))) (fun e => some (e))) (fun t1 => Option.bind (Option.bind (iter (hash_state_next_b1) ((16, t1))) (fun e => some (e))) (fun t2 => Option.bind (Option.bind (iter (hash_state_next_b2 x2 t2) ((0, x0.1, x0.2.1, x0.2.2.1, x0.2.2.2.1, x0.2.2.2.2.1, x0.2.2.2.2.2.1, x0.2.2.2.2.2.2.1, x0.2.2.2.2.2.2.2))) (fun e => some (e))) (fun t3 => Option.bind (Option.bind (iter (hash_state_next_b3 x0) ((0, t3.1, t3.2.1, t3.2.2.1, t3.2.2.2.1, t3.2.2.2.2.1, t3.2.2.2.2.2.1, t3.2.2.2.2.2.2.1, t3.2.2.2.2.2.2.2))) (fun e => some (e))) (fun t4 => some (((t4.1, t4.2.1, t4.2.2.1, t4.2.2.2.1, t4.2.2.2.2.1, t4.2.2.2.2.2.1, t4.2.2.2.2.2.2.1, t4.2.2.2.2.2.2.2), x2))))))
theorem hash_state_next_c {S : Mem} {w : World} {b2_ : Nat} {x2 : Vec UInt32 64} (H : HS ⟨S, keysR [.blk b2_ ((vcl (fun a_ : UInt32 => Value.int .u32 (((a_).toNat : Int))) x2)) 157], w⟩ S w [.blk b2_ ((vcl (fun a_ : UInt32 => Value.int .u32 (((a_).toNat : Int))) x2)) 157]) {x0 : UInt32 × UInt32 × UInt32 × UInt32 × UInt32 × UInt32 × UInt32 × UInt32} {v1_ : Value} {x1 : List UInt8} (h1_ : RdS S v1_ x1) {r : (UInt32 × UInt32 × UInt32 × UInt32 × UInt32 × UInt32 × UInt32 × UInt32) × (Vec UInt32 64)} (hF : hash_state_next_p x0 x1 x2 = some r) :
    Calls Tryz.prog 125 #[.agg ((cl160 x0)).toArray, v1_, .pointer (some ⟨b2_, 0, none⟩)] w fun e w' => ∃ (S2 : Mem) , e = .returned (.agg ((cl160 r.1)).toArray) ∧ HS ⟨S, keysR [.blk b2_ ((vcl (fun a_ : UInt32 => Value.int .u32 (((a_).toNat : Int))) x2)) 157], w⟩ S2 w' [.blk b2_ ((vcl (fun a_ : UInt32 => Value.int .u32 (((a_).toNat : Int))) r.2)) 157] := by
 refine enter (n := 177) Tryz.func125 rfl rfl rfl ?_
 unfold hash_state_next_p at hF
 refine sr ?_; intro K1 hK1
 refine p_ofb (a_box (l := (cl160 x0)) H rfl) ?_; clear H; intro w1 b1 H
 refine p_ofb (a_alloc (l := (cl160 ((0 : UInt32), (0 : UInt32), (0 : UInt32), (0 : UInt32), (0 : UInt32), (0 : UInt32), (0 : UInt32), (0 : UInt32)))) H tz160 rfl) ?_; clear H; intro w2 b2 H
 refine xk hK1 ?_; clear hK1
 refine sr ?_; intro K2 hK2
 refine p_ofb (a_alloc (l := (vcl (fun a_ : UInt32 => Value.int .u32 (((a_).toNat : Int))) (vrep 64 (0 : UInt32)))) H tz157 rfl) ?_; clear H; intro w3 b3 H
 refine xk hK2 ?_; clear hK2
 refine wp_seq_k ?_; intro K3 hK3
 refine nameF fun m1 k1 => ?_
 obtain ⟨t1, hE1, hF1⟩ := bnd hF
 have J4 : ∀ (m4 : FM) (w7 : World), (∀ t, has [8, 20, 21, 22, 23, 24, 25, 26, 27, 28, 29, 30, 31, 32, 33, 34, 35] t = false → look m4 t = look m1 t) → HS ⟨S, keysR [.blk b2_ ((vcl (fun a_ : UInt32 => Value.int .u32 (((a_).toNat : Int))) x2)) 157], w⟩ S w7 [.blk b3 ((vcl (fun a_ : UInt32 => Value.int .u32 (((a_).toNat : Int))) t1)) 157, .blk b2 ((cl160 ((0 : UInt32), (0 : UInt32), (0 : UInt32), (0 : UInt32), (0 : UInt32), (0 : UInt32), (0 : UInt32), (0 : UInt32)))) 160, .blk b1 ((cl160 x0)) 160, .blk b2_ ((vcl (fun a_ : UInt32 => Value.int .u32 (((a_).toNat : Int))) x2)) 157] → K3 (fr 177 m4) w7 := by
  clear H; intro m4 w7 k5 H
  have q7 : look m4 2 = .pointer (some ⟨b2_, 0, none⟩) := (k5 2 rfl).trans (k1 2)
  have q8 : look m4 3 = .pointer (some ⟨b1, 0, none⟩) := (k5 3 rfl).trans (k1 3)
  have q9 : look m4 6 = .pointer (some ⟨b2, 0, none⟩) := (k5 6 rfl).trans (k1 6)
  have q10 : look m4 7 = .pointer (some ⟨b3, 0, none⟩) := (k5 7 rfl).trans (k1 7)
  refine hK3 _ _ ?_
  refine sr ?_; intro K9 hK9
  refine p_as (v := .func (.func 160) #[] #[]) rfl ?_
  refine xk hK9 ?_; clear hK9
  refine wp_seq_k ?_; intro K10 hK10
  refine nameF fun m5 k6 => ?_
  obtain ⟨t2, hE3, hF2⟩ := bnd hF1
  have J3 : ∀ (m8 : FM) (w12 : World), (∀ t, has [10, 11, 12, 36, 37, 38, 39, 40, 41, 42, 43, 44, 45, 46, 47, 48, 49, 50, 51, 52, 53, 54, 55, 56, 57, 58, 59, 60, 61, 62, 63, 64, 65, 66, 67, 68, 69, 70, 71, 72, 73, 74, 75, 76, 77, 78, 79, 80] t = false → look m8 t = look m5 t) → HS ⟨S, keysR [.blk b2_ ((vcl (fun a_ : UInt32 => Value.int .u32 (((a_).toNat : Int))) x2)) 157], w⟩ S w12 [.blk b3 ((vcl (fun a_ : UInt32 => Value.int .u32 (((a_).toNat : Int))) t2)) 157, .blk b2 ((cl160 ((0 : UInt32), (0 : UInt32), (0 : UInt32), (0 : UInt32), (0 : UInt32), (0 : UInt32), (0 : UInt32), (0 : UInt32)))) 160, .blk b1 ((cl160 x0)) 160, .blk b2_ ((vcl (fun a_ : UInt32 => Value.int .u32 (((a_).toNat : Int))) x2)) 157] → K10 (fr 177 m8) w12 := by
   clear H; intro m8 w12 k10 H
   have q17 : look m8 2 = .pointer (some ⟨b2_, 0, none⟩) := (k10 2 rfl).trans ((k6 2).trans q7)
   have q18 : look m8 3 = .pointer (some ⟨b1, 0, none⟩) := (k10 3 rfl).trans ((k6 3).trans q8)
   have q19 : look m8 6 = .pointer (some ⟨b2, 0, none⟩) := (k10 6 rfl).trans ((k6 6).trans q9)
   have q20 : look m8 7 = .pointer (some ⟨b3, 0, none⟩) := (k10 7 rfl).trans ((k6 7).trans q10)
   have q21 : look m8 9 = .func (.func 160) #[] #[] := (k10 9 rfl).trans (k6 9)
   refine hK10 _ _ ?_
   refine sr ?_; intro K16 hK16
   refine p_val (h_load (l := (cl160 x0)) tg160 H q18 (k := 2) rfl rfl rfl) ?_
   refine p_ofb (a_alloc (l := (cl160 ((0 : UInt32), (0 : UInt32), (0 : UInt32), (0 : UInt32), (0 : UInt32), (0 : UInt32), (0 : UInt32), (0 : UInt32)))) H tz160 rfl) ?_; clear H; intro w13 b4 H
   refine p_ofs (a_store (k := 0) (v := .agg ((cl160 x0)).toArray) (l := (cl160 x0)) tsz160 H rfl rfl rfl (cells_agg _) rfl (fun u hu => List.all_eq_true.1 (rfl : ((cl160 x0)).all (·.oneCell') = true) u hu) rfl) ?_; clear H; intro w14 H
   replace H : HS ⟨S, keysR [.blk b2_ ((vcl (fun a_ : UInt32 => Value.int .u32 (((a_).toNat : Int))) x2)) 157], w⟩ S w14 [.blk b4 ((cl160 x0)) 160, .blk b3 ((vcl (fun a_ : UInt32 => Value.int .u32 (((a_).toNat : Int))) t2)) 157, .blk b2 ((cl160 ((0 : UInt32), (0 : UInt32), (0 : UInt32), (0 : UInt32), (0 : UInt32), (0 : UInt32), (0 : UInt32), (0 : UInt32)))) 160, .blk b1 ((cl160 x0)) 160, .blk b2_ ((vcl (fun a_ : UInt32 => Value.int .u32 (((a_).toNat : Int))) x2)) 157] := H
   refine xk hK16 ?_; clear hK16
   refine wp_seq_k ?_; intro K17 hK17
   refine nameF fun m9 k11 => ?_
   obtain ⟨t3, hE5, hF3⟩ := bnd hF2
   have J2 : ∀ (m12 : FM) (w23 : World), (∀ t, has [14, 15, 16, 17, 18, 82, 83, 84, 85, 86, 87, 88, 89, 90, 91, 92, 93, 94, 95, 96, 97, 98, 99, 100, 101, 102, 103, 104, 105, 106, 107, 108, 109, 110, 111, 112, 113, 114, 115, 116, 117, 118, 119, 120, 121, 122, 123, 124, 125, 126, 127, 128, 129, 130, 131, 132, 133, 134, 135, 136, 137, 138, 139, 140, 141, 142, 143, 144, 145, 146, 147, 148, 149, 150, 151, 152, 153, 154, 155, 156, 157, 158, 159, 160, 161, 162, 163] t = false → look m12 t = look m9 t) → HS ⟨S, keysR [.blk b2_ ((vcl (fun a_ : UInt32 => Value.int .u32 (((a_).toNat : Int))) x2)) 157], w⟩ S w23 [.blk b4 ((cl160 t3)) 160, .blk b3 ((vcl (fun a_ : UInt32 => Value.int .u32 (((a_).toNat : Int))) t2)) 157, .blk b2 ((cl160 ((0 : UInt32), (0 : UInt32), (0 : UInt32), (0 : UInt32), (0 : UInt32), (0 : UInt32), (0 : UInt32), (0 : UInt32)))) 160, .blk b1 ((cl160 x0)) 160, .blk b2_ ((vcl (fun a_ : UInt32 => Value.int .u32 (((a_).toNat : Int))) x2)) 157] → K17 (fr 177 m12) w23 := by
    clear H; intro m12 w23 k15 H
    have q29 : look m12 3 = .pointer (some ⟨b1, 0, none⟩) := (k15 3 rfl).trans ((k11 3).trans q18)
    have q30 : look m12 6 = .pointer (some ⟨b2, 0, none⟩) := (k15 6 rfl).trans ((k11 6).trans q19)
    have q31 : look m12 13 = .pointer (some ⟨b4, 0, none⟩) := (k15 13 rfl).trans (k11 13)
    refine hK17 _ _ ?_
    refine wp_seq_k ?_; intro K28 hK28
    refine nameF fun m13 k16 => ?_
    obtain ⟨t4, hE7, hF4⟩ := bnd hF3
    have J1 : ∀ (m16 : FM) (w27 : World), (∀ t, has [19, 164, 165, 166, 167, 168, 169, 170, 171, 172, 173, 174, 175] t = false → look m16 t = look m13 t) → HS ⟨S, keysR [.blk b2_ ((vcl (fun a_ : UInt32 => Value.int .u32 (((a_).toNat : Int))) x2)) 157], w⟩ S w27 [.blk b4 ((cl160 t4)) 160, .blk b3 ((vcl (fun a_ : UInt32 => Value.int .u32 (((a_).toNat : Int))) t2)) 157, .blk b2 ((cl160 ((0 : UInt32), (0 : UInt32), (0 : UInt32), (0 : UInt32), (0 : UInt32), (0 : UInt32), (0 : UInt32), (0 : UInt32)))) 160, .blk b1 ((cl160 x0)) 160, .blk b2_ ((vcl (fun a_ : UInt32 => Value.int .u32 (((a_).toNat : Int))) x2)) 157] → K28 (fr 177 m16) w27 := by
     clear H; intro m16 w27 k20 H
     have q36 : look m16 6 = .pointer (some ⟨b2, 0, none⟩) := (k20 6 rfl).trans ((k16 6).trans q30)
     have q37 : look m16 13 = .pointer (some ⟨b4, 0, none⟩) := (k20 13 rfl).trans ((k16 13).trans q31)
     refine hK28 _ _ ?_
     refine sr ?_; intro K34 hK34
     refine p_val (h_load (l := (cl160 t4)) tg160 H q37 (k := 0) rfl rfl rfl) ?_
     refine p_ofs (a_store (k := 2) (v := .agg ((cl160 t4)).toArray) (l := (cl160 t4)) tsz160 H q36 rfl rfl (cells_agg _) rfl (fun u hu => List.all_eq_true.1 (rfl : ((cl160 t4)).all (·.oneCell') = true) u hu) rfl) ?_; clear H; intro w28 H
     replace H : HS ⟨S, keysR [.blk b2_ ((vcl (fun a_ : UInt32 => Value.int .u32 (((a_).toNat : Int))) x2)) 157], w⟩ S w28 [.blk b4 ((cl160 t4)) 160, .blk b3 ((vcl (fun a_ : UInt32 => Value.int .u32 (((a_).toNat : Int))) t2)) 157, .blk b2 ((cl160 t4)) 160, .blk b1 ((cl160 x0)) 160, .blk b2_ ((vcl (fun a_ : UInt32 => Value.int .u32 (((a_).toNat : Int))) x2)) 157] := H
     refine xk hK34 ?_; clear hK34
     refine wp_ret ?_
     obtain rfl := Option.some.inj hF4
     refine e_1 rfl (qh_cell (l := (cl160 t4)) tg160 H q36 (k := 2) rfl rfl rfl) ?_
     replace H := H.sel [4] rfl
     replace H : HS ⟨S, keysR [.blk b2_ ((vcl (fun a_ : UInt32 => Value.int .u32 (((a_).toNat : Int))) x2)) 157], w⟩ S w28 [.blk b2_ ((vcl (fun a_ : UInt32 => Value.int .u32 (((a_).toNat : Int))) x2)) 157] := H
     exact ⟨_, rfl, H⟩
    refine sr ?_; intro K29 hK29
    refine p_mv (v := .int .i64 (0)) rfl ?_
    refine xk hK29 ?_; clear hK29
    refine wp_block ?_
    refine nameF fun m14 k17 => ?_
    obtain ⟨out4, hL4, hE8⟩ := bnd hE7
    replace H : HS ⟨S, keysR [.blk b2_ ((vcl (fun a_ : UInt32 => Value.int .u32 (((a_).toNat : Int))) x2)) 157], w⟩ S w23 [.blk b4 ((cl160 t3)) 160, .blk b3 ((vcl (fun a_ : UInt32 => Value.int .u32 (((a_).toNat : Int))) t2)) 157, .blk b2 ((cl160 ((0 : UInt32), (0 : UInt32), (0 : UInt32), (0 : UInt32), (0 : UInt32), (0 : UInt32), (0 : UInt32), (0 : UInt32)))) 160, .blk b1 ((cl160 x0)) 160, .blk b2_ ((vcl (fun a_ : UInt32 => Value.int .u32 (((a_).toNat : Int))) x2)) 157] := H
    refine loopI [19, 164, 165, 166, 167, 168, 169, 170, 171, 172, 173, 174, 175] (fun (s4 : Int × UInt32 × UInt32 × UInt32 × UInt32 × UInt32 × UInt32 × UInt32 × UInt32) (m15 : FM) (w24 : World) => look m15 164 = .int .i64 (s4.1) ∧ HS ⟨S, keysR [.blk b2_ ((vcl (fun a_ : UInt32 => Value.int .u32 (((a_).toNat : Int))) x2)) 157], w⟩ S w24 [.blk b4 ((cl160 s4.2)) 160, .blk b3 ((vcl (fun a_ : UInt32 => Value.int .u32 (((a_).toNat : Int))) t2)) 157, .blk b2 ((cl160 ((0 : UInt32), (0 : UInt32), (0 : UInt32), (0 : UInt32), (0 : UInt32), (0 : UInt32), (0 : UInt32), (0 : UInt32)))) 160, .blk b1 ((cl160 x0)) 160, .blk b2_ ((vcl (fun a_ : UInt32 => Value.int .u32 (((a_).toNat : Int))) x2)) 157]) hL4 ⟨(k17 164), H⟩ ?_
    clear H; intro k19 s4 m15 w24 k18 hI4 o8 hb4 hh4; obtain ⟨q32, H⟩ := hI4
    have q33 : look m15 3 = .pointer (some ⟨b1, 0, none⟩) := (k18 3 rfl).trans ((k17 3).trans ((k16 3).trans q29))
    have q34 : look m15 6 = .pointer (some ⟨b2, 0, none⟩) := (k18 6 rfl).trans ((k17 6).trans ((k16 6).trans q30))
    have q35 : look m15 13 = .pointer (some ⟨b4, 0, none⟩) := (k18 13 rfl).trans ((k17 13).trans ((k16 13).trans q31))
    unfold hash_state_next_b3 at hb4
    refine sr ?_; intro K30 hK30
    refine p_val (r_lssI q32 rfl) ?_
    refine xk hK30 ?_; clear hK30
    refine wp_seq_k ?_; intro K31 hK31
    refine c_split (t := decide (s4.1 < 8)) rfl (fun hc4 => ?_) (fun hc4 => ?_)
    ·replace hb4 := cnd_t hb4 hc4
     refine wp_skip ?_
     refine xn hK31 ?_; clear hK31
     refine wp_seq_k ?_; intro K32 hK32
     refine wp_block ?_
     refine sr ?_; intro K33 hK33
     refine p_mv q32 ?_
     refine p_as (v := .int .i64 (s4.1)) rfl ?_
     refine xk hK33 ?_; clear hK33
     obtain ⟨y23, e23, hb4⟩ := bnd hb4
     obtain ⟨y24, e24, hb4⟩ := bnd hb4
     obtain ⟨y25, e25, hb4⟩ := bnd hb4
     apply wp_region_ext 8 (kindsF []) rfl rfl (by kernel_rfl); intro vs7
     simp only [List.take_succ_cons, List.take_zero, List.drop_succ_cons, List.drop_zero]
     replace H := H.drew
     refine t_v (fun w hx => r_move (v := .int .i64 (s4.1)) rfl) ?_
     refine t_v (fun w hx => r_addrA (i := (s4.1 : Int).toNat) u160 sz133 q35 rfl rfl (by have h1_ := (idx_some e23).1; omega) (by have h1_ := (idx_some e23).1; have h2_ := idx_lt e23; simp only [List.length_cons, List.length_nil] at h2_; omega)) ?_
     refine t_v (fun w hx => h_loadA (cf := fun a_ : UInt32 => Value.int .u32 (((a_).toNat : Int))) (o := 0) to133 (H.ext hx) rfl (k := 0) rfl e23 rfl) ?_
     refine t_v (fun w hx => r_move (v := .int .i64 (s4.1)) rfl) ?_
     refine t_v (fun w hx => r_addrA (i := (s4.1 : Int).toNat) u160 sz133 q33 rfl rfl (by have h1_ := (idx_some e24).1; omega) (by have h1_ := (idx_some e24).1; have h2_ := idx_lt e24; simp only [List.length_cons, List.length_nil] at h2_; omega)) ?_
     refine t_v (fun w hx => h_loadA (cf := fun a_ : UInt32 => Value.int .u32 (((a_).toNat : Int))) (o := 0) to133 (H.ext hx) rfl (k := 3) rfl e24 rfl) ?_
     refine t_v (fun w hx => r_add rfl rfl (i32_wrap _)) ?_
     refine t_v (fun w hx => r_addrA (i := (s4.1 : Int).toNat) u160 sz133 q35 rfl rfl (by have h1_ := (idx_some e25).1; omega) (by have h1_ := (idx_some e25).1; have h2_ := idx_lt e25; simp only [List.length_cons, List.length_nil] at h2_; omega)) ?_
     refine t_nil (fun w25 hx hF hA => ?_)
     replace H := H.ext hx; clear hx hF hA
     obtain ⟨y26, e26, hb4⟩ := bnd hb4
     refine p_ofs (a_storeA (0 : UInt32) (cf := fun a_ : UInt32 => Value.int .u32 (((a_).toNat : Int))) (u := (i32 (((y23).toNat : Int) + ((y24).toNat : Int)))) (o := 0) (n := 8) (k := 0) tsz133 H rfl rfl rfl (rfl) e26 rfl rfl (Nat.le_of_ble_eq_true rfl)) ?_; clear H; intro w26 H
     replace H : HS ⟨S, keysR [.blk b2_ ((vcl (fun a_ : UInt32 => Value.int .u32 (((a_).toNat : Int))) x2)) 157], w⟩ S w26 [.blk b4 ((cl160 ((y26.getD 0 (0 : UInt32)), (y26.getD 1 (0 : UInt32)), (y26.getD 2 (0 : UInt32)), (y26.getD 3 (0 : UInt32)), (y26.getD 4 (0 : UInt32)), (y26.getD 5 (0 : UInt32)), (y26.getD 6 (0 : UInt32)), (y26.getD 7 (0 : UInt32))))) 160, .blk b3 ((vcl (fun a_ : UInt32 => Value.int .u32 (((a_).toNat : Int))) t2)) 157, .blk b2 ((cl160 ((0 : UInt32), (0 : UInt32), (0 : UInt32), (0 : UInt32), (0 : UInt32), (0 : UInt32), (0 : UInt32), (0 : UInt32)))) 160, .blk b1 ((cl160 x0)) 160, .blk b2_ ((vcl (fun a_ : UInt32 => Value.int .u32 (((a_).toNat : Int))) x2)) 157] := H
     refine wpList_nil ?_; refine on_norm ?_
     refine b_norm ?_
     refine xn hK32 ?_; clear hK32
     refine wp_region_lit ?_
     refine p_val (r_addI q32 rfl) ?_
     refine p_mv (v := .int .i64 ((w64 (s4.1 + 1)))) rfl ?_
     refine wpList_nil ?_
     refine x_norm ?_
     replace H : HS ⟨S, keysR [.blk b2_ ((vcl (fun a_ : UInt32 => Value.int .u32 (((a_).toNat : Int))) x2)) 157], w⟩ S w26 [.blk b4 ((cl160 ((y26.getD 0 (0 : UInt32)), (y26.getD 1 (0 : UInt32)), (y26.getD 2 (0 : UInt32)), (y26.getD 3 (0 : UInt32)), (y26.getD 4 (0 : UInt32)), (y26.getD 5 (0 : UInt32)), (y26.getD 6 (0 : UInt32)), (y26.getD 7 (0 : UInt32))))) 160, .blk b3 ((vcl (fun a_ : UInt32 => Value.int .u32 (((a_).toNat : Int))) t2)) 157, .blk b2 ((cl160 ((0 : UInt32), (0 : UInt32), (0 : UInt32), (0 : UInt32), (0 : UInt32), (0 : UInt32), (0 : UInt32), (0 : UInt32)))) 160, .blk b1 ((cl160 x0)) 160, .blk b2_ ((vcl (fun a_ : UInt32 => Value.int .u32 (((a_).toNat : Int))) x2)) 157] := H
     obtain rfl := Option.some.inj hb4
     exact ⟨((w64 (s4.1 + 1)), (y26.getD 0 (0 : UInt32)), (y26.getD 1 (0 : UInt32)), (y26.getD 2 (0 : UInt32)), (y26.getD 3 (0 : UInt32)), (y26.getD 4 (0 : UInt32)), (y26.getD 5 (0 : UInt32)), (y26.getD 6 (0 : UInt32)), (y26.getD 7 (0 : UInt32))), _, rfl, (by (repeat (refine keep_cons rfl ?_)); refine keep_sub k18 rfl ?_; (repeat (refine keep_cons rfl ?_)); exact fun _ _ => rfl), ⟨rfl, H⟩, hh4⟩
    ·replace hb4 := cnd_f hb4 hc4
     refine wp_exit ?_
     refine x_exit ?_
     refine x_exit ?_
     refine b_hit ?_
     refine x_norm ?_
     replace H : HS ⟨S, keysR [.blk b2_ ((vcl (fun a_ : UInt32 => Value.int .u32 (((a_).toNat : Int))) x2)) 157], w⟩ S w24 [.blk b4 ((cl160 s4.2)) 160, .blk b3 ((vcl (fun a_ : UInt32 => Value.int .u32 (((a_).toNat : Int))) t2)) 157, .blk b2 ((cl160 ((0 : UInt32), (0 : UInt32), (0 : UInt32), (0 : UInt32), (0 : UInt32), (0 : UInt32), (0 : UInt32), (0 : UInt32)))) 160, .blk b1 ((cl160 x0)) 160, .blk b2_ ((vcl (fun a_ : UInt32 => Value.int .u32 (((a_).toNat : Int))) x2)) 157] := H
     obtain rfl := Option.some.inj hb4
     obtain rfl := Option.some.inj hh4
     obtain rfl := Option.some.inj hE8
     exact J1 _ _ (by (repeat (refine keep_cons rfl ?_)); refine keep_sub k18 rfl ?_; (repeat (refine keep_cons rfl ?_)); refine keep_name k17 ?_; (repeat (refine keep_cons rfl ?_)); exact fun _ _ => rfl) H
   refine sr ?_; intro K18 hK18
   refine p_mv (v := .int .i64 (0)) rfl ?_
   refine xk hK18 ?_; clear hK18
   refine wp_block ?_
   refine nameF fun m10 k12 => ?_
   obtain ⟨out3, hL3, hE6⟩ := bnd hE5
   replace H : HS ⟨S, keysR [.blk b2_ ((vcl (fun a_ : UInt32 => Value.int .u32 (((a_).toNat : Int))) x2)) 157], w⟩ S w14 [.blk b4 ((cl160 x0)) 160, .blk b3 ((vcl (fun a_ : UInt32 => Value.int .u32 (((a_).toNat : Int))) t2)) 157, .blk b2 ((cl160 ((0 : UInt32), (0 : UInt32), (0 : UInt32), (0 : UInt32), (0 : UInt32), (0 : UInt32), (0 : UInt32), (0 : UInt32)))) 160, .blk b1 ((cl160 x0)) 160, .blk b2_ ((vcl (fun a_ : UInt32 => Value.int .u32 (((a_).toNat : Int))) x2)) 157] := H
   refine loopI [14, 15, 16, 17, 18, 82, 83, 84, 85, 86, 87, 88, 89, 90, 91, 92, 93, 94, 95, 96, 97, 98, 99, 100, 101, 102, 103, 104, 105, 106, 107, 108, 109, 110, 111, 112, 113, 114, 115, 116, 117, 118, 119, 120, 121, 122, 123, 124, 125, 126, 127, 128, 129, 130, 131, 132, 133, 134, 135, 136, 137, 138, 139, 140, 141, 142, 143, 144, 145, 146, 147, 148, 149, 150, 151, 152, 153, 154, 155, 156, 157, 158, 159, 160, 161, 162, 163] (fun (s3 : Int × UInt32 × UInt32 × UInt32 × UInt32 × UInt32 × UInt32 × UInt32 × UInt32) (m11 : FM) (w15 : World) => look m11 82 = .int .i64 (s3.1) ∧ HS ⟨S, keysR [.blk b2_ ((vcl (fun a_ : UInt32 => Value.int .u32 (((a_).toNat : Int))) x2)) 157], w⟩ S w15 [.blk b4 ((cl160 s3.2)) 160, .blk b3 ((vcl (fun a_ : UInt32 => Value.int .u32 (((a_).toNat : Int))) t2)) 157, .blk b2 ((cl160 ((0 : UInt32), (0 : UInt32), (0 : UInt32), (0 : UInt32), (0 : UInt32), (0 : UInt32), (0 : UInt32), (0 : UInt32)))) 160, .blk b1 ((cl160 x0)) 160, .blk b2_ ((vcl (fun a_ : UInt32 => Value.int .u32 (((a_).toNat : Int))) x2)) 157]) hL3 ⟨(k12 82), H⟩ ?_
   clear H; intro k14 s3 m11 w15 k13 hI3 o6 hb3 hh3; obtain ⟨q22, H⟩ := hI3
   have q23 : look m11 2 = .pointer (some ⟨b2_, 0, none⟩) := (k13 2 rfl).trans ((k12 2).trans ((k11 2).trans q17))
   have q24 : look m11 3 = .pointer (some ⟨b1, 0, none⟩) := (k13 3 rfl).trans ((k12 3).trans ((k11 3).trans q18))
   have q25 : look m11 6 = .pointer (some ⟨b2, 0, none⟩) := (k13 6 rfl).trans ((k12 6).trans ((k11 6).trans q19))
   have q26 : look m11 7 = .pointer (some ⟨b3, 0, none⟩) := (k13 7 rfl).trans ((k12 7).trans ((k11 7).trans q20))
   have q27 : look m11 9 = .func (.func 160) #[] #[] := (k13 9 rfl).trans ((k12 9).trans ((k11 9).trans q21))
   have q28 : look m11 13 = .pointer (some ⟨b4, 0, none⟩) := (k13 13 rfl).trans ((k12 13).trans (k11 13))
   unfold hash_state_next_b2 at hb3
   refine sr ?_; intro K19 hK19
   refine p_val (r_lssI q22 rfl) ?_
   refine xk hK19 ?_; clear hK19
   refine wp_seq_k ?_; intro K20 hK20
   refine c_split (t := decide (s3.1 < 64)) rfl (fun hc3 => ?_) (fun hc3 => ?_)
   ·replace hb3 := cnd_t hb3 hc3
    refine wp_skip ?_
    refine xn hK20 ?_; clear hK20
    refine wp_seq_k ?_; intro K21 hK21
    refine wp_block ?_
    refine sr ?_; intro K22 hK22
    refine p_mv q22 ?_
    refine p_as (v := .int .i64 (s3.1)) rfl ?_
    refine xk hK22 ?_; clear hK22
    refine wp_seq_k ?_; intro K23 hK23
    apply wp_region_ext 5 (kindsF []) rfl rfl (by kernel_rfl); intro vs3
    simp only [List.take_succ_cons, List.take_zero, List.drop_succ_cons, List.drop_zero]
    replace H := H.drew
    refine t_v (fun w hx => r_addrA (k := .i64) (i := 0) u160 sz133 q28 rfl rfl (by decide) (by decide)) ?_
    refine t_v (fun w hx => h_load1 (v := .int .u32 (((s3.2.1).toNat : Int))) to133 (H.ext hx) rfl (k := 0) rfl rfl) ?_
    refine t_v (fun w hx => r_addrA (k := .i64) (i := 4) u160 sz133 q28 rfl rfl (by decide) (by decide)) ?_
    refine t_v (fun w hx => h_load1 (v := .int .u32 (((s3.2.2.2.2.2.1).toNat : Int))) to133 (H.ext hx) rfl (k := 0) rfl rfl) ?_
    refine t_v (fun w hx => r_assign (v := .int .u32 (((s3.2.1).toNat : Int))) rfl) ?_
    refine t_nil (fun w16 hx hF hA => ?_)
    replace H := H.ext hx; clear hx hF hA
    refine p_as (v := .int .u32 (((s3.2.2.2.2.2.1).toNat : Int))) rfl ?_
    refine wpList_nil ?_; refine on_norm ?_
    refine xn hK23 ?_; clear hK23
    refine wp_seq_k ?_; intro K24 hK24
    obtain ⟨y15, e15, hb3⟩ := bnd hb3
    obtain ⟨y16, e16, hb3⟩ := bnd hb3
    obtain ⟨y17, e17, hb3⟩ := bnd hb3
    obtain ⟨y18, e18, hb3⟩ := bnd hb3
    obtain ⟨y19, e19, hb3⟩ := bnd hb3
    apply wp_region_ext 35 (kindsF [(4, .inl (.int .u32 (((y15).toNat : Int)))), (7, .inl (.int .u32 (((y16).toNat : Int)))), (11, .inl (.int .u32 (((y17).toNat : Int))))]) rfl rfl (by kernel_rfl); intro vs4
    simp only [List.take_succ_cons, List.take_zero, List.drop_succ_cons, List.drop_zero]
    replace H := H.drew
    refine t_v (fun w hx => r_addrA (k := .i64) (i := 7) u160 sz133 q28 rfl rfl (by decide) (by decide)) ?_
    refine t_v (fun w hx => h_load1 (v := .int .u32 (((s3.2.2.2.2.2.2.2.2).toNat : Int))) to133 (H.ext hx) rfl (k := 0) rfl rfl) ?_
    refine t_v (fun w hx => r_move (v := .func (.func 160) #[] #[]) q27) ?_
    refine t_v (fun w hx => r_move (v := .int .u32 (((s3.2.2.2.2.2.1).toNat : Int))) rfl) ?_
    refine t_callD (l := [.int .u32 (((s3.2.2.2.2.2.1).toNat : Int)), .int .i64 (6)]) rfl rfl rfl is160 rfl (fun w hx hF => (hash_state_next_1_c (H.ext hx).sub e15).mono (fun _ _ ⟨he, hx⟩ => ⟨he, hx⟩)) ?_
    refine t_v (fun w hx => r_move (v := .func (.func 160) #[] #[]) q27) ?_
    refine t_v (fun w hx => r_move (v := .int .u32 (((s3.2.2.2.2.2.1).toNat : Int))) rfl) ?_
    refine t_callD (l := [.int .u32 (((s3.2.2.2.2.2.1).toNat : Int)), .int .i64 (11)]) rfl rfl rfl is160 rfl (fun w hx hF => (hash_state_next_1_c (H.ext hx).sub e16).mono (fun _ _ ⟨he, hx⟩ => ⟨he, hx⟩)) ?_
    refine t_v (fun w hx => r_bits (bo := .xor) (by simp) rfl rfl (i32_xor _ _)) ?_
    refine t_v (fun w hx => r_move (v := .func (.func 160) #[] #[]) q27) ?_
    refine t_v (fun w hx => r_move (v := .int .u32 (((s3.2.2.2.2.2.1).toNat : Int))) rfl) ?_
    refine t_callD (l := [.int .u32 (((s3.2.2.2.2.2.1).toNat : Int)), .int .i64 (25)]) rfl rfl rfl is160 rfl (fun w hx hF => (hash_state_next_1_c (H.ext hx).sub e17).mono (fun _ _ ⟨he, hx⟩ => ⟨he, hx⟩)) ?_
    refine t_v (fun w hx => r_bits (bo := .xor) (by simp) rfl rfl (i32_xor _ _)) ?_
    refine t_v (fun w hx => r_add rfl rfl (i32_wrap _)) ?_
    refine t_v (fun w hx => r_move (v := .int .u32 (((s3.2.2.2.2.2.1).toNat : Int))) rfl) ?_
    refine t_v (fun w hx => r_addrA (k := .i64) (i := 5) u160 sz133 q28 rfl rfl (by decide) (by decide)) ?_
    refine t_v (fun w hx => h_load1 (v := .int .u32 (((s3.2.2.2.2.2.2.1).toNat : Int))) to133 (H.ext hx) rfl (k := 0) rfl rfl) ?_
    refine t_v (fun w hx => r_bits (bo := .and) (by simp) rfl rfl (i32_and _ _)) ?_
    refine t_v (fun w hx => r_move (v := .int .u32 (((s3.2.2.2.2.2.1).toNat : Int))) rfl) ?_
    refine t_v (fun w hx => r_com rfl rfl (r := ((((4294967295 : UInt32) ^^^ s3.2.2.2.2.2.1)).toNat : Int)) (i32_xor 4294967295 s3.2.2.2.2.2.1)) ?_
    refine t_v (fun w hx => r_addrA (k := .i64) (i := 6) u160 sz133 q28 rfl rfl (by decide) (by decide)) ?_
    refine t_v (fun w hx => h_load1 (v := .int .u32 (((s3.2.2.2.2.2.2.2.1).toNat : Int))) to133 (H.ext hx) rfl (k := 0) rfl rfl) ?_
    refine t_v (fun w hx => r_bits (bo := .and) (by simp) rfl rfl (i32_and _ _)) ?_
    refine t_v (fun w hx => r_bits (bo := .xor) (by simp) rfl rfl (i32_xor _ _)) ?_
    refine t_v (fun w hx => r_add rfl rfl (i32_wrap _)) ?_
    refine t_v (fun w hx => r_move (v := .pointer (some ⟨b2_, 0, none⟩)) q23) ?_
    refine t_v (fun w hx => r_move (v := .int .i64 (s3.1)) rfl) ?_
    refine t_v (fun w hx => r_nilck rfl) ?_
    refine t_v (fun w hx => r_addrA (i := (s3.1 : Int).toNat) u157 sz133 rfl rfl rfl (by have h1_ := (idx_some e18).1; omega) (by have h1_ := (idx_some e18).1; have h2_ := idx_ltV e18; omega)) ?_
    refine t_v (fun w hx => h_loadV (X := x2) (cf := fun a_ : UInt32 => Value.int .u32 (((a_).toNat : Int))) to133 (H.ext hx) rfl (k := 4) rfl e18) ?_
    refine t_v (fun w hx => r_add rfl rfl (i32_wrap _)) ?_
    refine t_v (fun w hx => r_move (v := .int .i64 (s3.1)) rfl) ?_
    refine t_v (fun w hx => r_addrA (i := (s3.1 : Int).toNat) u157 sz133 q26 rfl rfl (by have h1_ := (idx_some e19).1; omega) (by have h1_ := (idx_some e19).1; have h2_ := idx_ltV e19; omega)) ?_
    refine t_v (fun w hx => h_loadV (X := t2) (cf := fun a_ : UInt32 => Value.int .u32 (((a_).toNat : Int))) to133 (H.ext hx) rfl (k := 1) rfl e19) ?_
    refine t_v (fun w hx => r_add rfl rfl (i32_wrap _)) ?_
    refine t_nil (fun w17 hx hF hA => ?_)
    replace H := H.ext hx; clear hx hF hA
    refine p_as (v := .int .u32 ((((i32 ((((i32 ((((i32 ((((i32 (((s3.2.2.2.2.2.2.2.2).toNat : Int) + ((((y15 ^^^ y16) ^^^ y17)).toNat : Int)))).toNat : Int) + ((((s3.2.2.2.2.2.1 &&& s3.2.2.2.2.2.2.1) ^^^ (((4294967295 : UInt32) ^^^ s3.2.2.2.2.2.1) &&& s3.2.2.2.2.2.2.2.1))).toNat : Int)))).toNat : Int) + ((y18).toNat : Int)))).toNat : Int) + ((y19).toNat : Int)))).toNat : Int))) rfl ?_
    refine wpList_nil ?_; refine on_norm ?_
    refine xn hK24 ?_; clear hK24
    refine wp_seq_k ?_; intro K25 hK25
    obtain ⟨y20, e20, hb3⟩ := bnd hb3
    obtain ⟨y21, e21, hb3⟩ := bnd hb3
    obtain ⟨y22, e22, hb3⟩ := bnd hb3
    apply wp_region_ext 27 (kindsF [(2, .inl (.int .u32 (((y20).toNat : Int)))), (5, .inl (.int .u32 (((y21).toNat : Int)))), (9, .inl (.int .u32 (((y22).toNat : Int))))]) rfl rfl (by kernel_rfl); intro vs5
    simp only [List.take_succ_cons, List.take_zero, List.drop_succ_cons, List.drop_zero]
    replace H := H.drew
    refine t_v (fun w hx => r_move (v := .func (.func 160) #[] #[]) q27) ?_
    refine t_v (fun w hx => r_move (v := .int .u32 (((s3.2.1).toNat : Int))) rfl) ?_
    refine t_callD (l := [.int .u32 (((s3.2.1).toNat : Int)), .int .i64 (2)]) rfl rfl rfl is160 rfl (fun w hx hF => (hash_state_next_1_c (H.ext hx).sub e20).mono (fun _ _ ⟨he, hx⟩ => ⟨he, hx⟩)) ?_
    refine t_v (fun w hx => r_move (v := .func (.func 160) #[] #[]) q27) ?_
    refine t_v (fun w hx => r_move (v := .int .u32 (((s3.2.1).toNat : Int))) rfl) ?_
    refine t_callD (l := [.int .u32 (((s3.2.1).toNat : Int)), .int .i64 (13)]) rfl rfl rfl is160 rfl (fun w hx hF => (hash_state_next_1_c (H.ext hx).sub e21).mono (fun _ _ ⟨he, hx⟩ => ⟨he, hx⟩)) ?_
    refine t_v (fun w hx => r_bits (bo := .xor) (by simp) rfl rfl (i32_xor _ _)) ?_
    refine t_v (fun w hx => r_move (v := .func (.func 160) #[] #[]) q27) ?_
    refine t_v (fun w hx => r_move (v := .int .u32 (((s3.2.1).toNat : Int))) rfl) ?_
    refine t_callD (l := [.int .u32 (((s3.2.1).toNat : Int)), .int .i64 (22)]) rfl rfl rfl is160 rfl (fun w hx hF => (hash_state_next_1_c (H.ext hx).sub e22).mono (fun _ _ ⟨he, hx⟩ => ⟨he, hx⟩)) ?_
    refine t_v (fun w hx => r_bits (bo := .xor) (by simp) rfl rfl (i32_xor _ _)) ?_
    refine t_v (fun w hx => r_move (v := .int .u32 (((s3.2.1).toNat : Int))) rfl) ?_
    refine t_v (fun w hx => r_addrA (k := .i64) (i := 1) u160 sz133 q28 rfl rfl (by decide) (by decide)) ?_
    refine t_v (fun w hx => h_load1 (v := .int .u32 (((s3.2.2.1).toNat : Int))) to133 (H.ext hx) rfl (k := 0) rfl rfl) ?_
    refine t_v (fun w hx => r_bits (bo := .and) (by simp) rfl rfl (i32_and _ _)) ?_
    refine t_v (fun w hx => r_move (v := .int .u32 (((s3.2.1).toNat : Int))) rfl) ?_
    refine t_v (fun w hx => r_addrA (k := .i64) (i := 2) u160 sz133 q28 rfl rfl (by decide) (by decide)) ?_
    refine t_v (fun w hx => h_load1 (v := .int .u32 (((s3.2.2.2.1).toNat : Int))) to133 (H.ext hx) rfl (k := 0) rfl rfl) ?_
    refine t_v (fun w hx => r_bits (bo := .and) (by simp) rfl rfl (i32_and _ _)) ?_
    refine t_v (fun w hx => r_bits (bo := .xor) (by simp) rfl rfl (i32_xor _ _)) ?_
    refine t_v (fun w hx => r_addrA (k := .i64) (i := 1) u160 sz133 q28 rfl rfl (by decide) (by decide)) ?_
    refine t_v (fun w hx => h_load1 (v := .int .u32 (((s3.2.2.1).toNat : Int))) to133 (H.ext hx) rfl (k := 0) rfl rfl) ?_
    refine t_v (fun w hx => r_addrA (k := .i64) (i := 2) u160 sz133 q28 rfl rfl (by decide) (by decide)) ?_
    refine t_v (fun w hx => h_load1 (v := .int .u32 (((s3.2.2.2.1).toNat : Int))) to133 (H.ext hx) rfl (k := 0) rfl rfl) ?_
    refine t_v (fun w hx => r_bits (bo := .and) (by simp) rfl rfl (i32_and _ _)) ?_
    refine t_v (fun w hx => r_bits (bo := .xor) (by simp) rfl rfl (i32_xor _ _)) ?_
    refine t_v (fun w hx => r_add rfl rfl (i32_wrap _)) ?_
    refine t_nil (fun w18 hx hF hA => ?_)
    replace H := H.ext hx; clear hx hF hA
    refine p_as (v := .int .u32 ((((i32 (((((y20 ^^^ y21) ^^^ y22)).toNat : Int) + (((((s3.2.1 &&& s3.2.2.1) ^^^ (s3.2.1 &&& s3.2.2.2.1)) ^^^ (s3.2.2.1 &&& s3.2.2.2.1))).toNat : Int)))).toNat : Int))) rfl ?_
    refine wpList_nil ?_; refine on_norm ?_
    refine xn hK25 ?_; clear hK25
    refine wp_seq_k ?_; intro K26 hK26
    apply wp_region_ext 2 (kindsF []) rfl rfl (by kernel_rfl); intro vs6
    simp only [List.take_succ_cons, List.take_zero, List.drop_succ_cons, List.drop_zero]
    replace H := H.drew
    refine t_v (fun w hx => r_sliceAL (p := 1) u160 tsz133 q28 rfl (Nat.le_of_ble_eq_true rfl)) ?_
    refine t_v (fun w hx => r_sliceAH (h := 7) u160 tsz133 q28 rfl (Nat.le_of_ble_eq_true rfl)) ?_
    refine t_nil (fun w19 hx hF hA => ?_)
    replace H := H.ext hx; clear hx hF hA
    refine p_ofc (c := .int .i64 7) (a_copyA (k := 0) (o1 := 1) (o2 := 0) (n := 7) (l := ([Value.int .u32 (((s3.2.1).toNat : Int))] ++ ([Value.int .u32 (((s3.2.2.1).toNat : Int))] ++ ([Value.int .u32 (((s3.2.2.2.1).toNat : Int))] ++ ([Value.int .u32 (((s3.2.2.2.2.1).toNat : Int))] ++ ([Value.int .u32 (((s3.2.2.2.2.2.1).toNat : Int))] ++ ([Value.int .u32 (((s3.2.2.2.2.2.2.1).toNat : Int))] ++ ([Value.int .u32 (((s3.2.2.2.2.2.2.2.1).toNat : Int))])))))))) u129 tsz133 H rfl rfl rfl rfl rfl rfl rfl (fun u hu => List.all_eq_true.1 (rfl : (([Value.int .u32 (((s3.2.1).toNat : Int))] ++ ([Value.int .u32 (((s3.2.2.1).toNat : Int))] ++ ([Value.int .u32 (((s3.2.2.2.1).toNat : Int))] ++ ([Value.int .u32 (((s3.2.2.2.2.1).toNat : Int))] ++ ([Value.int .u32 (((s3.2.2.2.2.2.1).toNat : Int))] ++ ([Value.int .u32 (((s3.2.2.2.2.2.2.1).toNat : Int))] ++ ([Value.int .u32 (((s3.2.2.2.2.2.2.2.1).toNat : Int))])))))))).all (·.oneCell') = true) u hu)) ?_; clear H; intro w20 H
    replace H : HS ⟨S, keysR [.blk b2_ ((vcl (fun a_ : UInt32 => Value.int .u32 (((a_).toNat : Int))) x2)) 157], w⟩ S w20 [.blk b4 ((cl160 (s3.2.1, s3.2.1, s3.2.2.1, s3.2.2.2.1, s3.2.2.2.2.1, s3.2.2.2.2.2.1, s3.2.2.2.2.2.2.1, s3.2.2.2.2.2.2.2.1))) 160, .blk b3 ((vcl (fun a_ : UInt32 => Value.int .u32 (((a_).toNat : Int))) t2)) 157, .blk b2 ((cl160 ((0 : UInt32), (0 : UInt32), (0 : UInt32), (0 : UInt32), (0 : UInt32), (0 : UInt32), (0 : UInt32), (0 : UInt32)))) 160, .blk b1 ((cl160 x0)) 160, .blk b2_ ((vcl (fun a_ : UInt32 => Value.int .u32 (((a_).toNat : Int))) x2)) 157] := H
    refine wpList_nil ?_; refine on_norm ?_
    refine xn hK26 ?_; clear hK26
    refine sr ?_; intro K27 hK27
    refine p_val (r_addrA (k := .i64) (i := 4) u160 sz133 q28 rfl rfl (by decide) (by decide)) ?_
    refine p_val (h_load1 (v := .int .u32 (((s3.2.2.2.2.1).toNat : Int))) to133 H rfl (k := 0) rfl rfl) ?_
    refine p_mv (v := .int .u32 ((((i32 ((((i32 ((((i32 ((((i32 (((s3.2.2.2.2.2.2.2.2).toNat : Int) + ((((y15 ^^^ y16) ^^^ y17)).toNat : Int)))).toNat : Int) + ((((s3.2.2.2.2.2.1 &&& s3.2.2.2.2.2.2.1) ^^^ (((4294967295 : UInt32) ^^^ s3.2.2.2.2.2.1) &&& s3.2.2.2.2.2.2.2.1))).toNat : Int)))).toNat : Int) + ((y18).toNat : Int)))).toNat : Int) + ((y19).toNat : Int)))).toNat : Int))) rfl ?_
    refine p_val (r_add rfl rfl (i32_wrap _)) ?_
    refine p_val (r_addrA (k := .i64) (i := 4) u160 sz133 q28 rfl rfl (by decide) (by decide)) ?_
    refine p_ofs (a_store (k := 0) (v := .int .u32 ((((i32 (((s3.2.2.2.2.1).toNat : Int) + (((i32 ((((i32 ((((i32 ((((i32 (((s3.2.2.2.2.2.2.2.2).toNat : Int) + ((((y15 ^^^ y16) ^^^ y17)).toNat : Int)))).toNat : Int) + ((((s3.2.2.2.2.2.1 &&& s3.2.2.2.2.2.2.1) ^^^ (((4294967295 : UInt32) ^^^ s3.2.2.2.2.2.1) &&& s3.2.2.2.2.2.2.2.1))).toNat : Int)))).toNat : Int) + ((y18).toNat : Int)))).toNat : Int) + ((y19).toNat : Int)))).toNat : Int)))).toNat : Int))) (l := [Value.int .u32 ((((i32 (((s3.2.2.2.2.1).toNat : Int) + (((i32 ((((i32 ((((i32 ((((i32 (((s3.2.2.2.2.2.2.2.2).toNat : Int) + ((((y15 ^^^ y16) ^^^ y17)).toNat : Int)))).toNat : Int) + ((((s3.2.2.2.2.2.1 &&& s3.2.2.2.2.2.2.1) ^^^ (((4294967295 : UInt32) ^^^ s3.2.2.2.2.2.1) &&& s3.2.2.2.2.2.2.2.1))).toNat : Int)))).toNat : Int) + ((y18).toNat : Int)))).toNat : Int) + ((y19).toNat : Int)))).toNat : Int)))).toNat : Int))]) tsz133 H rfl rfl rfl (cells_one rfl) rfl (fun u hu => List.all_eq_true.1 (rfl : ([Value.int .u32 ((((i32 (((s3.2.2.2.2.1).toNat : Int) + (((i32 ((((i32 ((((i32 ((((i32 (((s3.2.2.2.2.2.2.2.2).toNat : Int) + ((((y15 ^^^ y16) ^^^ y17)).toNat : Int)))).toNat : Int) + ((((s3.2.2.2.2.2.1 &&& s3.2.2.2.2.2.2.1) ^^^ (((4294967295 : UInt32) ^^^ s3.2.2.2.2.2.1) &&& s3.2.2.2.2.2.2.2.1))).toNat : Int)))).toNat : Int) + ((y18).toNat : Int)))).toNat : Int) + ((y19).toNat : Int)))).toNat : Int)))).toNat : Int))]).all (·.oneCell') = true) u hu) rfl) ?_; clear H; intro w21 H
    replace H : HS ⟨S, keysR [.blk b2_ ((vcl (fun a_ : UInt32 => Value.int .u32 (((a_).toNat : Int))) x2)) 157], w⟩ S w21 [.blk b4 ((cl160 (s3.2.1, s3.2.1, s3.2.2.1, s3.2.2.2.1, (i32 (((s3.2.2.2.2.1).toNat : Int) + (((i32 ((((i32 ((((i32 ((((i32 (((s3.2.2.2.2.2.2.2.2).toNat : Int) + ((((y15 ^^^ y16) ^^^ y17)).toNat : Int)))).toNat : Int) + ((((s3.2.2.2.2.2.1 &&& s3.2.2.2.2.2.2.1) ^^^ (((4294967295 : UInt32) ^^^ s3.2.2.2.2.2.1) &&& s3.2.2.2.2.2.2.2.1))).toNat : Int)))).toNat : Int) + ((y18).toNat : Int)))).toNat : Int) + ((y19).toNat : Int)))).toNat : Int))), s3.2.2.2.2.2.1, s3.2.2.2.2.2.2.1, s3.2.2.2.2.2.2.2.1))) 160, .blk b3 ((vcl (fun a_ : UInt32 => Value.int .u32 (((a_).toNat : Int))) t2)) 157, .blk b2 ((cl160 ((0 : UInt32), (0 : UInt32), (0 : UInt32), (0 : UInt32), (0 : UInt32), (0 : UInt32), (0 : UInt32), (0 : UInt32)))) 160, .blk b1 ((cl160 x0)) 160, .blk b2_ ((vcl (fun a_ : UInt32 => Value.int .u32 (((a_).toNat : Int))) x2)) 157] := H
    refine xk hK27 ?_; clear hK27
    refine wp_region_lit ?_
    refine p_mv (v := .int .u32 ((((i32 ((((i32 ((((i32 ((((i32 (((s3.2.2.2.2.2.2.2.2).toNat : Int) + ((((y15 ^^^ y16) ^^^ y17)).toNat : Int)))).toNat : Int) + ((((s3.2.2.2.2.2.1 &&& s3.2.2.2.2.2.2.1) ^^^ (((4294967295 : UInt32) ^^^ s3.2.2.2.2.2.1) &&& s3.2.2.2.2.2.2.2.1))).toNat : Int)))).toNat : Int) + ((y18).toNat : Int)))).toNat : Int) + ((y19).toNat : Int)))).toNat : Int))) rfl ?_
    refine p_mv (v := .int .u32 ((((i32 (((((y20 ^^^ y21) ^^^ y22)).toNat : Int) + (((((s3.2.1 &&& s3.2.2.1) ^^^ (s3.2.1 &&& s3.2.2.2.1)) ^^^ (s3.2.2.1 &&& s3.2.2.2.1))).toNat : Int)))).toNat : Int))) rfl ?_
    refine p_val (r_add rfl rfl (i32_wrap _)) ?_
    refine p_val (r_addrA (k := .i64) (i := 0) u160 sz133 q28 rfl rfl (by decide) (by decide)) ?_
    refine p_ofs (a_store (k := 0) (v := .int .u32 ((((i32 ((((i32 ((((i32 ((((i32 ((((i32 (((s3.2.2.2.2.2.2.2.2).toNat : Int) + ((((y15 ^^^ y16) ^^^ y17)).toNat : Int)))).toNat : Int) + ((((s3.2.2.2.2.2.1 &&& s3.2.2.2.2.2.2.1) ^^^ (((4294967295 : UInt32) ^^^ s3.2.2.2.2.2.1) &&& s3.2.2.2.2.2.2.2.1))).toNat : Int)))).toNat : Int) + ((y18).toNat : Int)))).toNat : Int) + ((y19).toNat : Int)))).toNat : Int) + (((i32 (((((y20 ^^^ y21) ^^^ y22)).toNat : Int) + (((((s3.2.1 &&& s3.2.2.1) ^^^ (s3.2.1 &&& s3.2.2.2.1)) ^^^ (s3.2.2.1 &&& s3.2.2.2.1))).toNat : Int)))).toNat : Int)))).toNat : Int))) (l := [Value.int .u32 ((((i32 ((((i32 ((((i32 ((((i32 ((((i32 (((s3.2.2.2.2.2.2.2.2).toNat : Int) + ((((y15 ^^^ y16) ^^^ y17)).toNat : Int)))).toNat : Int) + ((((s3.2.2.2.2.2.1 &&& s3.2.2.2.2.2.2.1) ^^^ (((4294967295 : UInt32) ^^^ s3.2.2.2.2.2.1) &&& s3.2.2.2.2.2.2.2.1))).toNat : Int)))).toNat : Int) + ((y18).toNat : Int)))).toNat : Int) + ((y19).toNat : Int)))).toNat : Int) + (((i32 (((((y20 ^^^ y21) ^^^ y22)).toNat : Int) + (((((s3.2.1 &&& s3.2.2.1) ^^^ (s3.2.1 &&& s3.2.2.2.1)) ^^^ (s3.2.2.1 &&& s3.2.2.2.1))).toNat : Int)))).toNat : Int)))).toNat : Int))]) tsz133 H rfl rfl rfl (cells_one rfl) rfl (fun u hu => List.all_eq_true.1 (rfl : ([Value.int .u32 ((((i32 ((((i32 ((((i32 ((((i32 ((((i32 (((s3.2.2.2.2.2.2.2.2).toNat : Int) + ((((y15 ^^^ y16) ^^^ y17)).toNat : Int)))).toNat : Int) + ((((s3.2.2.2.2.2.1 &&& s3.2.2.2.2.2.2.1) ^^^ (((4294967295 : UInt32) ^^^ s3.2.2.2.2.2.1) &&& s3.2.2.2.2.2.2.2.1))).toNat : Int)))).toNat : Int) + ((y18).toNat : Int)))).toNat : Int) + ((y19).toNat : Int)))).toNat : Int) + (((i32 (((((y20 ^^^ y21) ^^^ y22)).toNat : Int) + (((((s3.2.1 &&& s3.2.2.1) ^^^ (s3.2.1 &&& s3.2.2.2.1)) ^^^ (s3.2.2.1 &&& s3.2.2.2.1))).toNat : Int)))).toNat : Int)))).toNat : Int))]).all (·.oneCell') = true) u hu) rfl) ?_; clear H; intro w22 H
    replace H : HS ⟨S, keysR [.blk b2_ ((vcl (fun a_ : UInt32 => Value.int .u32 (((a_).toNat : Int))) x2)) 157], w⟩ S w22 [.blk b4 ((cl160 ((i32 ((((i32 ((((i32 ((((i32 ((((i32 (((s3.2.2.2.2.2.2.2.2).toNat : Int) + ((((y15 ^^^ y16) ^^^ y17)).toNat : Int)))).toNat : Int) + ((((s3.2.2.2.2.2.1 &&& s3.2.2.2.2.2.2.1) ^^^ (((4294967295 : UInt32) ^^^ s3.2.2.2.2.2.1) &&& s3.2.2.2.2.2.2.2.1))).toNat : Int)))).toNat : Int) + ((y18).toNat : Int)))).toNat : Int) + ((y19).toNat : Int)))).toNat : Int) + (((i32 (((((y20 ^^^ y21) ^^^ y22)).toNat : Int) + (((((s3.2.1 &&& s3.2.2.1) ^^^ (s3.2.1 &&& s3.2.2.2.1)) ^^^ (s3.2.2.1 &&& s3.2.2.2.1))).toNat : Int)))).toNat : Int))), s3.2.1, s3.2.2.1, s3.2.2.2.1, (i32 (((s3.2.2.2.2.1).toNat : Int) + (((i32 ((((i32 ((((i32 ((((i32 (((s3.2.2.2.2.2.2.2.2).toNat : Int) + ((((y15 ^^^ y16) ^^^ y17)).toNat : Int)))).toNat : Int) + ((((s3.2.2.2.2.2.1 &&& s3.2.2.2.2.2.2.1) ^^^ (((4294967295 : UInt32) ^^^ s3.2.2.2.2.2.1) &&& s3.2.2.2.2.2.2.2.1))).toNat : Int)))).toNat : Int) + ((y18).toNat : Int)))).toNat : Int) + ((y19).toNat : Int)))).toNat : Int))), s3.2.2.2.2.2.1, s3.2.2.2.2.2.2.1, s3.2.2.2.2.2.2.2.1))) 160, .blk b3 ((vcl (fun a_ : UInt32 => Value.int .u32 (((a_).toNat : Int))) t2)) 157, .blk b2 ((cl160 ((0 : UInt32), (0 : UInt32), (0 : UInt32), (0 : UInt32), (0 : UInt32), (0 : UInt32), (0 : UInt32), (0 : UInt32)))) 160, .blk b1 ((cl160 x0)) 160, .blk b2_ ((vcl (fun a_ : UInt32 => Value.int .u32 (((a_).toNat : Int))) x2)) 157] := H
    refine wpList_nil ?_
    refine b_norm ?_
    refine xn hK21 ?_; clear hK21
    refine wp_region_lit ?_
    refine p_val (r_addI q22 rfl) ?_
    refine p_mv (v := .int .i64 ((w64 (s3.1 + 1)))) rfl ?_
    refine wpList_nil ?_
    refine x_norm ?_
    replace H : HS ⟨S, keysR [.blk b2_ ((vcl (fun a_ : UInt32 => Value.int .u32 (((a_).toNat : Int))) x2)) 157], w⟩ S w22 [.blk b4 ((cl160 ((i32 ((((i32 ((((i32 ((((i32 ((((i32 (((s3.2.2.2.2.2.2.2.2).toNat : Int) + ((((y15 ^^^ y16) ^^^ y17)).toNat : Int)))).toNat : Int) + ((((s3.2.2.2.2.2.1 &&& s3.2.2.2.2.2.2.1) ^^^ (((4294967295 : UInt32) ^^^ s3.2.2.2.2.2.1) &&& s3.2.2.2.2.2.2.2.1))).toNat : Int)))).toNat : Int) + ((y18).toNat : Int)))).toNat : Int) + ((y19).toNat : Int)))).toNat : Int) + (((i32 (((((y20 ^^^ y21) ^^^ y22)).toNat : Int) + (((((s3.2.1 &&& s3.2.2.1) ^^^ (s3.2.1 &&& s3.2.2.2.1)) ^^^ (s3.2.2.1 &&& s3.2.2.2.1))).toNat : Int)))).toNat : Int))), s3.2.1, s3.2.2.1, s3.2.2.2.1, (i32 (((s3.2.2.2.2.1).toNat : Int) + (((i32 ((((i32 ((((i32 ((((i32 (((s3.2.2.2.2.2.2.2.2).toNat : Int) + ((((y15 ^^^ y16) ^^^ y17)).toNat : Int)))).toNat : Int) + ((((s3.2.2.2.2.2.1 &&& s3.2.2.2.2.2.2.1) ^^^ (((4294967295 : UInt32) ^^^ s3.2.2.2.2.2.1) &&& s3.2.2.2.2.2.2.2.1))).toNat : Int)))).toNat : Int) + ((y18).toNat : Int)))).toNat : Int) + ((y19).toNat : Int)))).toNat : Int))), s3.2.2.2.2.2.1, s3.2.2.2.2.2.2.1, s3.2.2.2.2.2.2.2.1))) 160, .blk b3 ((vcl (fun a_ : UInt32 => Value.int .u32 (((a_).toNat : Int))) t2)) 157, .blk b2 ((cl160 ((0 : UInt32), (0 : UInt32), (0 : UInt32), (0 : UInt32), (0 : UInt32), (0 : UInt32), (0 : UInt32), (0 : UInt32)))) 160, .blk b1 ((cl160 x0)) 160, .blk b2_ ((vcl (fun a_ : UInt32 => Value.int .u32 (((a_).toNat : Int))) x2)) 157] := H
    obtain rfl := Option.some.inj hb3
    exact ⟨((w64 (s3.1 + 1)), (i32 ((((i32 ((((i32 ((((i32 ((((i32 (((s3.2.2.2.2.2.2.2.2).toNat : Int) + ((((y15 ^^^ y16) ^^^ y17)).toNat : Int)))).toNat : Int) + ((((s3.2.2.2.2.2.1 &&& s3.2.2.2.2.2.2.1) ^^^ (((4294967295 : UInt32) ^^^ s3.2.2.2.2.2.1) &&& s3.2.2.2.2.2.2.2.1))).toNat : Int)))).toNat : Int) + ((y18).toNat : Int)))).toNat : Int) + ((y19).toNat : Int)))).toNat : Int) + (((i32 (((((y20 ^^^ y21) ^^^ y22)).toNat : Int) + (((((s3.2.1 &&& s3.2.2.1) ^^^ (s3.2.1 &&& s3.2.2.2.1)) ^^^ (s3.2.2.1 &&& s3.2.2.2.1))).toNat : Int)))).toNat : Int))), s3.2.1, s3.2.2.1, s3.2.2.2.1, (i32 (((s3.2.2.2.2.1).toNat : Int) + (((i32 ((((i32 ((((i32 ((((i32 (((s3.2.2.2.2.2.2.2.2).toNat : Int) + ((((y15 ^^^ y16) ^^^ y17)).toNat : Int)))).toNat : Int) + ((((s3.2.2.2.2.2.1 &&& s3.2.2.2.2.2.2.1) ^^^ (((4294967295 : UInt32) ^^^ s3.2.2.2.2.2.1) &&& s3.2.2.2.2.2.2.2.1))).toNat : Int)))).toNat : Int) + ((y18).toNat : Int)))).toNat : Int) + ((y19).toNat : Int)))).toNat : Int))), s3.2.2.2.2.2.1, s3.2.2.2.2.2.2.1, s3.2.2.2.2.2.2.2.1), _, rfl, (by (repeat (refine keep_cons rfl ?_)); refine keep_sub k13 rfl ?_; (repeat (refine keep_cons rfl ?_)); exact fun _ _ => rfl), ⟨rfl, H⟩, hh3⟩
   ·replace hb3 := cnd_f hb3 hc3
    refine wp_exit ?_
    refine x_exit ?_
    refine x_exit ?_
    refine b_hit ?_
    refine x_norm ?_
    replace H : HS ⟨S, keysR [.blk b2_ ((vcl (fun a_ : UInt32 => Value.int .u32 (((a_).toNat : Int))) x2)) 157], w⟩ S w15 [.blk b4 ((cl160 s3.2)) 160, .blk b3 ((vcl (fun a_ : UInt32 => Value.int .u32 (((a_).toNat : Int))) t2)) 157, .blk b2 ((cl160 ((0 : UInt32), (0 : UInt32), (0 : UInt32), (0 : UInt32), (0 : UInt32), (0 : UInt32), (0 : UInt32), (0 : UInt32)))) 160, .blk b1 ((cl160 x0)) 160, .blk b2_ ((vcl (fun a_ : UInt32 => Value.int .u32 (((a_).toNat : Int))) x2)) 157] := H
    obtain rfl := Option.some.inj hb3
    obtain rfl := Option.some.inj hh3
    obtain rfl := Option.some.inj hE6
    exact J2 _ _ (by (repeat (refine keep_cons rfl ?_)); refine keep_sub k13 rfl ?_; (repeat (refine keep_cons rfl ?_)); refine keep_name k12 ?_; (repeat (refine keep_cons rfl ?_)); exact fun _ _ => rfl) H
  refine sr ?_; intro K11 hK11
  refine p_as (v := .int .i64 (16)) rfl ?_
  refine xk hK11 ?_; clear hK11
  refine wp_block ?_
  refine nameF fun m6 k7 => ?_
  obtain ⟨out2, hL2, hE4⟩ := bnd hE3
  replace H : HS ⟨S, keysR [.blk b2_ ((vcl (fun a_ : UInt32 => Value.int .u32 (((a_).toNat : Int))) x2)) 157], w⟩ S w7 [.blk b3 ((vcl (fun a_ : UInt32 => Value.int .u32 (((a_).toNat : Int))) t1)) 157, .blk b2 ((cl160 ((0 : UInt32), (0 : UInt32), (0 : UInt32), (0 : UInt32), (0 : UInt32), (0 : UInt32), (0 : UInt32), (0 : UInt32)))) 160, .blk b1 ((cl160 x0)) 160, .blk b2_ ((vcl (fun a_ : UInt32 => Value.int .u32 (((a_).toNat : Int))) x2)) 157] := H
  refine loopI [10, 11, 12, 36, 37, 38, 39, 40, 41, 42, 43, 44, 45, 46, 47, 48, 49, 50, 51, 52, 53, 54, 55, 56, 57, 58, 59, 60, 61, 62, 63, 64, 65, 66, 67, 68, 69, 70, 71, 72, 73, 74, 75, 76, 77, 78, 79, 80] (fun (s2 : Int × (Vec UInt32 64)) (m7 : FM) (w8 : World) => look m7 10 = .int .i64 (s2.1) ∧ HS ⟨S, keysR [.blk b2_ ((vcl (fun a_ : UInt32 => Value.int .u32 (((a_).toNat : Int))) x2)) 157], w⟩ S w8 [.blk b3 ((vcl (fun a_ : UInt32 => Value.int .u32 (((a_).toNat : Int))) s2.2)) 157, .blk b2 ((cl160 ((0 : UInt32), (0 : UInt32), (0 : UInt32), (0 : UInt32), (0 : UInt32), (0 : UInt32), (0 : UInt32), (0 : UInt32)))) 160, .blk b1 ((cl160 x0)) 160, .blk b2_ ((vcl (fun a_ : UInt32 => Value.int .u32 (((a_).toNat : Int))) x2)) 157]) hL2 ⟨(k7 10), H⟩ ?_
  clear H; intro k9 s2 m7 w8 k8 hI2 o4 hb2 hh2; obtain ⟨q11, H⟩ := hI2
  have q12 : look m7 2 = .pointer (some ⟨b2_, 0, none⟩) := (k8 2 rfl).trans ((k7 2).trans ((k6 2).trans q7))
  have q13 : look m7 3 = .pointer (some ⟨b1, 0, none⟩) := (k8 3 rfl).trans ((k7 3).trans ((k6 3).trans q8))
  have q14 : look m7 6 = .pointer (some ⟨b2, 0, none⟩) := (k8 6 rfl).trans ((k7 6).trans ((k6 6).trans q9))
  have q15 : look m7 7 = .pointer (some ⟨b3, 0, none⟩) := (k8 7 rfl).trans ((k7 7).trans ((k6 7).trans q10))
  have q16 : look m7 9 = .func (.func 160) #[] #[] := (k8 9 rfl).trans ((k7 9).trans (k6 9))
  unfold hash_state_next_b1 at hb2
  refine wp_seq_k ?_; intro K12 hK12
  refine sr ?_; intro K13 hK13
  refine p_mv q11 ?_
  refine p_val (r_lssI rfl rfl) ?_
  refine xk hK13 ?_; clear hK13
  refine c_split (t := decide (s2.1 < 64)) rfl (fun hc2 => ?_) (fun hc2 => ?_)
  ·replace hb2 := cnd_t hb2 hc2
   refine wp_skip ?_
   refine xn hK12 ?_; clear hK12
   refine wp_seq_k ?_; intro K14 hK14
   refine wp_block ?_
   refine wp_seq_k ?_; intro K15 hK15
   obtain ⟨y5, e5, hb2⟩ := bnd hb2
   obtain ⟨y6, e6, hb2⟩ := bnd hb2
   apply wp_region_ext 9 (kindsF []) rfl rfl (by kernel_rfl); intro vs1
   simp only [List.take_succ_cons, List.take_zero, List.drop_succ_cons, List.drop_zero]
   replace H := H.drew
   refine t_v (fun w hx => r_move q11) ?_
   refine t_v (fun w hx => r_subI rfl rfl) ?_
   refine t_v (fun w hx => r_addrA (i := ((w64 (s2.1 - 15)) : Int).toNat) u157 sz133 q15 rfl rfl (by have h1_ := (idx_some e5).1; omega) (by have h1_ := (idx_some e5).1; have h2_ := idx_ltV e5; omega)) ?_
   refine t_v (fun w hx => h_loadV (X := s2.2) (cf := fun a_ : UInt32 => Value.int .u32 (((a_).toNat : Int))) to133 (H.ext hx) rfl (k := 0) rfl e5) ?_
   refine t_v (fun w hx => r_move q11) ?_
   refine t_v (fun w hx => r_subI rfl rfl) ?_
   refine t_v (fun w hx => r_addrA (i := ((w64 (s2.1 - 2)) : Int).toNat) u157 sz133 q15 rfl rfl (by have h1_ := (idx_some e6).1; omega) (by have h1_ := (idx_some e6).1; have h2_ := idx_ltV e6; omega)) ?_
   refine t_v (fun w hx => h_loadV (X := s2.2) (cf := fun a_ : UInt32 => Value.int .u32 (((a_).toNat : Int))) to133 (H.ext hx) rfl (k := 0) rfl e6) ?_
   refine t_v (fun w hx => r_assign (v := .int .u32 (((y5).toNat : Int))) rfl) ?_
   refine t_nil (fun w9 hx hF hA => ?_)
   replace H := H.ext hx; clear hx hF hA
   refine p_as (v := .int .u32 (((y6).toNat : Int))) rfl ?_
   refine wpList_nil ?_; refine on_norm ?_
   refine xn hK15 ?_; clear hK15
   obtain ⟨y7, e7, hb2⟩ := bnd hb2
   obtain ⟨y8, e8, hb2⟩ := bnd hb2
   obtain ⟨y9, e9, hb2⟩ := bnd hb2
   obtain ⟨y10, e10, hb2⟩ := bnd hb2
   obtain ⟨y11, e11, hb2⟩ := bnd hb2
   obtain ⟨y12, e12, hb2⟩ := bnd hb2
   obtain ⟨y13, e13, hb2⟩ := bnd hb2
   apply wp_region_ext 33 (kindsF [(7, .inl (.int .u32 (((y8).toNat : Int)))), (10, .inl (.int .u32 (((y9).toNat : Int)))), (23, .inl (.int .u32 (((y11).toNat : Int)))), (26, .inl (.int .u32 (((y12).toNat : Int))))]) rfl rfl (by kernel_rfl); intro vs2
   simp only [List.take_succ_cons, List.take_zero, List.drop_succ_cons, List.drop_zero]
   replace H := H.drew
   refine t_v (fun w hx => r_move q11) ?_
   refine t_v (fun w hx => r_move q11) ?_
   refine t_v (fun w hx => r_subI rfl rfl) ?_
   refine t_v (fun w hx => r_addrA (i := ((w64 (s2.1 - 16)) : Int).toNat) u157 sz133 q15 rfl rfl (by have h1_ := (idx_some e7).1; omega) (by have h1_ := (idx_some e7).1; have h2_ := idx_ltV e7; omega)) ?_
   refine t_v (fun w hx => h_loadV (X := s2.2) (cf := fun a_ : UInt32 => Value.int .u32 (((a_).toNat : Int))) to133 (H.ext hx) rfl (k := 0) rfl e7) ?_
   refine t_v (fun w hx => r_move (v := .func (.func 160) #[] #[]) q16) ?_
   refine t_v (fun w hx => r_move (v := .int .u32 (((y5).toNat : Int))) rfl) ?_
   refine t_callD (l := [.int .u32 (((y5).toNat : Int)), .int .i64 (7)]) rfl rfl rfl is160 rfl (fun w hx hF => (hash_state_next_1_c (H.ext hx).sub e8).mono (fun _ _ ⟨he, hx⟩ => ⟨he, hx⟩)) ?_
   refine t_v (fun w hx => r_move (v := .func (.func 160) #[] #[]) q16) ?_
   refine t_v (fun w hx => r_move (v := .int .u32 (((y5).toNat : Int))) rfl) ?_
   refine t_callD (l := [.int .u32 (((y5).toNat : Int)), .int .i64 (18)]) rfl rfl rfl is160 rfl (fun w hx hF => (hash_state_next_1_c (H.ext hx).sub e9).mono (fun _ _ ⟨he, hx⟩ => ⟨he, hx⟩)) ?_
   refine t_v (fun w hx => r_bits (bo := .xor) (by simp) rfl rfl (i32_xor _ _)) ?_
   refine t_v (fun w hx => r_move (v := .int .u32 (((y5).toNat : Int))) rfl) ?_
   refine t_v (fun w hx => r_shr rfl rfl (by decide) (i32_shr _ _)) ?_
   refine t_v (fun w hx => r_bits (bo := .xor) (by simp) rfl rfl (i32_xor _ _)) ?_
   refine t_v (fun w hx => r_add rfl rfl (i32_wrap _)) ?_
   refine t_v (fun w hx => r_move q11) ?_
   refine t_v (fun w hx => r_subI rfl rfl) ?_
   refine t_v (fun w hx => r_addrA (i := ((w64 (s2.1 - 7)) : Int).toNat) u157 sz133 q15 rfl rfl (by have h1_ := (idx_some e10).1; omega) (by have h1_ := (idx_some e10).1; have h2_ := idx_ltV e10; omega)) ?_
   refine t_v (fun w hx => h_loadV (X := s2.2) (cf := fun a_ : UInt32 => Value.int .u32 (((a_).toNat : Int))) to133 (H.ext hx) rfl (k := 0) rfl e10) ?_
   refine t_v (fun w hx => r_add rfl rfl (i32_wrap _)) ?_
   refine t_v (fun w hx => r_move (v := .func (.func 160) #[] #[]) q16) ?_
   refine t_v (fun w hx => r_move (v := .int .u32 (((y6).toNat : Int))) rfl) ?_
   refine t_callD (l := [.int .u32 (((y6).toNat : Int)), .int .i64 (17)]) rfl rfl rfl is160 rfl (fun w hx hF => (hash_state_next_1_c (H.ext hx).sub e11).mono (fun _ _ ⟨he, hx⟩ => ⟨he, hx⟩)) ?_
   refine t_v (fun w hx => r_move (v := .func (.func 160) #[] #[]) q16) ?_
   refine t_v (fun w hx => r_move (v := .int .u32 (((y6).toNat : Int))) rfl) ?_
   refine t_callD (l := [.int .u32 (((y6).toNat : Int)), .int .i64 (19)]) rfl rfl rfl is160 rfl (fun w hx hF => (hash_state_next_1_c (H.ext hx).sub e12).mono (fun _ _ ⟨he, hx⟩ => ⟨he, hx⟩)) ?_
   refine t_v (fun w hx => r_bits (bo := .xor) (by simp) rfl rfl (i32_xor _ _)) ?_
   refine t_v (fun w hx => r_move (v := .int .u32 (((y6).toNat : Int))) rfl) ?_
   refine t_v (fun w hx => r_shr rfl rfl (by decide) (i32_shr _ _)) ?_
   refine t_v (fun w hx => r_bits (bo := .xor) (by simp) rfl rfl (i32_xor _ _)) ?_
   refine t_v (fun w hx => r_add rfl rfl (i32_wrap _)) ?_
   refine t_v (fun w hx => r_addrA (i := (s2.1 : Int).toNat) u157 sz133 q15 rfl rfl (by have h1_ := (idx_some e13).1; omega) (by have h1_ := (idx_some e13).1; have h2_ := idx_ltV e13; omega)) ?_
   refine t_nil (fun w10 hx hF hA => ?_)
   replace H := H.ext hx; clear hx hF hA
   obtain ⟨y14, e14, hb2⟩ := bnd hb2
   refine p_ofs (a_storeV (X := s2.2) (cf := fun a_ : UInt32 => Value.int .u32 (((a_).toNat : Int))) (u := (i32 ((((i32 ((((i32 (((y7).toNat : Int) + ((((y8 ^^^ y9) ^^^ (i32 (shrI .u32 ((y5).toNat : Int) 3)))).toNat : Int)))).toNat : Int) + ((y10).toNat : Int)))).toNat : Int) + ((((y11 ^^^ y12) ^^^ (i32 (shrI .u32 ((y6).toNat : Int) 10)))).toNat : Int)))) (k := 0) tsz133 H rfl rfl rfl rfl e14) ?_; clear H; intro w11 H
   replace H : HS ⟨S, keysR [.blk b2_ ((vcl (fun a_ : UInt32 => Value.int .u32 (((a_).toNat : Int))) x2)) 157], w⟩ S w11 [.blk b3 ((vcl (fun a_ : UInt32 => Value.int .u32 (((a_).toNat : Int))) y14)) 157, .blk b2 ((cl160 ((0 : UInt32), (0 : UInt32), (0 : UInt32), (0 : UInt32), (0 : UInt32), (0 : UInt32), (0 : UInt32), (0 : UInt32)))) 160, .blk b1 ((cl160 x0)) 160, .blk b2_ ((vcl (fun a_ : UInt32 => Value.int .u32 (((a_).toNat : Int))) x2)) 157] := H
   refine wpList_nil ?_; refine on_norm ?_
   refine b_norm ?_
   refine xn hK14 ?_; clear hK14
   refine wp_region_lit ?_
   refine p_mv q11 ?_
   refine p_val (r_addI rfl rfl) ?_
   refine p_as (v := .int .i64 ((w64 (s2.1 + 1)))) rfl ?_
   refine wpList_nil ?_
   refine x_norm ?_
   replace H : HS ⟨S, keysR [.blk b2_ ((vcl (fun a_ : UInt32 => Value.int .u32 (((a_).toNat : Int))) x2)) 157], w⟩ S w11 [.blk b3 ((vcl (fun a_ : UInt32 => Value.int .u32 (((a_).toNat : Int))) y14)) 157, .blk b2 ((cl160 ((0 : UInt32), (0 : UInt32), (0 : UInt32), (0 : UInt32), (0 : UInt32), (0 : UInt32), (0 : UInt32), (0 : UInt32)))) 160, .blk b1 ((cl160 x0)) 160, .blk b2_ ((vcl (fun a_ : UInt32 => Value.int .u32 (((a_).toNat : Int))) x2)) 157] := H
   obtain rfl := Option.some.inj hb2
   exact ⟨((w64 (s2.1 + 1)), y14), _, rfl, (by (repeat (refine keep_cons rfl ?_)); refine keep_sub k8 rfl ?_; (repeat (refine keep_cons rfl ?_)); exact fun _ _ => rfl), ⟨rfl, H⟩, hh2⟩
  ·replace hb2 := cnd_f hb2 hc2
   refine wp_exit ?_
   refine x_exit ?_
   refine x_exit ?_
   refine b_hit ?_
   refine x_norm ?_
   replace H : HS ⟨S, keysR [.blk b2_ ((vcl (fun a_ : UInt32 => Value.int .u32 (((a_).toNat : Int))) x2)) 157], w⟩ S w8 [.blk b3 ((vcl (fun a_ : UInt32 => Value.int .u32 (((a_).toNat : Int))) s2.2)) 157, .blk b2 ((cl160 ((0 : UInt32), (0 : UInt32), (0 : UInt32), (0 : UInt32), (0 : UInt32), (0 : UInt32), (0 : UInt32), (0 : UInt32)))) 160, .blk b1 ((cl160 x0)) 160, .blk b2_ ((vcl (fun a_ : UInt32 => Value.int .u32 (((a_).toNat : Int))) x2)) 157] := H
   obtain rfl := Option.some.inj hb2
   obtain rfl := Option.some.inj hh2
   obtain rfl := Option.some.inj hE4
   exact J3 _ _ (by (repeat (refine keep_cons rfl ?_)); refine keep_sub k8 rfl ?_; (repeat (refine keep_cons rfl ?_)); refine keep_name k7 ?_; (repeat (refine keep_cons rfl ?_)); exact fun _ _ => rfl) H
 refine sr ?_; intro K4 hK4
 refine p_mv (v := .int .i64 (0)) rfl ?_
 refine xk hK4 ?_; clear hK4
 refine wp_block ?_
 refine nameF fun m2 k2 => ?_
 obtain ⟨out1, hL1, hE2⟩ := bnd hE1
 replace H : HS ⟨S, keysR [.blk b2_ ((vcl (fun a_ : UInt32 => Value.int .u32 (((a_).toNat : Int))) x2)) 157], w⟩ S w3 [.blk b3 ((vcl (fun a_ : UInt32 => Value.int .u32 (((a_).toNat : Int))) (vrep 64 (0 : UInt32)))) 157, .blk b2 ((cl160 ((0 : UInt32), (0 : UInt32), (0 : UInt32), (0 : UInt32), (0 : UInt32), (0 : UInt32), (0 : UInt32), (0 : UInt32)))) 160, .blk b1 ((cl160 x0)) 160, .blk b2_ ((vcl (fun a_ : UInt32 => Value.int .u32 (((a_).toNat : Int))) x2)) 157] := H
 refine loopI [8, 20, 21, 22, 23, 24, 25, 26, 27, 28, 29, 30, 31, 32, 33, 34, 35] (fun (s1 : Int × (Vec UInt32 64)) (m3 : FM) (w4 : World) => look m3 20 = .int .i64 (s1.1) ∧ HS ⟨S, keysR [.blk b2_ ((vcl (fun a_ : UInt32 => Value.int .u32 (((a_).toNat : Int))) x2)) 157], w⟩ S w4 [.blk b3 ((vcl (fun a_ : UInt32 => Value.int .u32 (((a_).toNat : Int))) s1.2)) 157, .blk b2 ((cl160 ((0 : UInt32), (0 : UInt32), (0 : UInt32), (0 : UInt32), (0 : UInt32), (0 : UInt32), (0 : UInt32), (0 : UInt32)))) 160, .blk b1 ((cl160 x0)) 160, .blk b2_ ((vcl (fun a_ : UInt32 => Value.int .u32 (((a_).toNat : Int))) x2)) 157]) hL1 ⟨(k2 20), H⟩ ?_
 clear H; intro k4 s1 m3 w4 k3 hI1 o2 hb1 hh1; obtain ⟨q1, H⟩ := hI1
 have q2 : look m3 1 = v1_ := (k3 1 rfl).trans ((k2 1).trans (k1 1))
 have q3 : look m3 2 = .pointer (some ⟨b2_, 0, none⟩) := (k3 2 rfl).trans ((k2 2).trans (k1 2))
 have q4 : look m3 3 = .pointer (some ⟨b1, 0, none⟩) := (k3 3 rfl).trans ((k2 3).trans (k1 3))
 have q5 : look m3 6 = .pointer (some ⟨b2, 0, none⟩) := (k3 6 rfl).trans ((k2 6).trans (k1 6))
 have q6 : look m3 7 = .pointer (some ⟨b3, 0, none⟩) := (k3 7 rfl).trans ((k2 7).trans (k1 7))
 unfold hash_state_next_b0 at hb1
 refine sr ?_; intro K5 hK5
 refine p_val (r_lssI q1 rfl) ?_
 refine xk hK5 ?_; clear hK5
 refine wp_seq_k ?_; intro K6 hK6
 refine c_split (t := decide (s1.1 < 16)) rfl (fun hc1 => ?_) (fun hc1 => ?_)
 ·replace hb1 := cnd_t hb1 hc1
  refine wp_skip ?_
  refine xn hK6 ?_; clear hK6
  refine wp_seq_k ?_; intro K7 hK7
  refine wp_block ?_
  refine sr ?_; intro K8 hK8
  refine p_mv q1 ?_
  refine p_as (v := .int .i64 (s1.1)) rfl ?_
  refine xk hK8 ?_; clear hK8
  refine wp_region_lit ?_
  refine p_mv (v := .int .i64 (s1.1)) rfl ?_
  refine p_mv (v := v1_) q2 ?_
  refine p_mv (v := .int .i64 (s1.1)) rfl ?_
  refine p_val (r_mulI rfl rfl) ?_
  refine p_mv (v := .int .i64 (s1.1)) rfl ?_
  refine p_val (r_mulI rfl rfl) ?_
  refine p_val (r_addI rfl rfl) ?_
  obtain ⟨y1, e1, hb1⟩ := bnd hb1
  refine p_val (r_subLH (p := ((w64 ((4 : Int) * s1.1)) : Int).toNat) (h := ((w64 ((w64 ((4 : Int) * s1.1)) + 4)) : Int).toNat) u100 tsz5 rfl rfl rfl (sub3_some e1).1 (sub3_some e1).2.1 h1_ (sub3_some e1).2.2.1 (sub3_some e1).2.2.2.1) ?_
  have g1 : RdS S (subN v1_ 1 ((w64 ((4 : Int) * s1.1)) : Int).toNat ((w64 ((w64 ((4 : Int) * s1.1)) + 4)) : Int).toNat) y1 := RdS.subLH h1_ e1
  refine p_val (r_strS u100 u5 u9 rfl g1 H.sub) ?_
  obtain ⟨y2, e2, hb1⟩ := bnd hb1
  refine p_call (l := [str (y1)]) is159 rfl ?_
  refine (hash_value_c H.sub e2).mono ?_; rintro _ w5 ⟨rfl, hx⟩; replace H := H.ext hx; clear hx
  refine p_val (r_conv u102 u133 rfl (i32_wrap _)) ?_
  obtain ⟨y3, e3, hb1⟩ := bnd hb1
  refine p_val (r_addrA (i := (s1.1 : Int).toNat) u157 sz133 q6 rfl rfl (by have h1_ := (idx_some e3).1; omega) (by have h1_ := (idx_some e3).1; have h2_ := idx_ltV e3; omega)) ?_
  obtain ⟨y4, e4, hb1⟩ := bnd hb1
  refine p_ofs (a_storeV (X := s1.2) (cf := fun a_ : UInt32 => Value.int .u32 (((a_).toNat : Int))) (u := (i32 ((y2).toNat : Int))) (k := 0) tsz133 H rfl rfl rfl rfl e4) ?_; clear H; intro w6 H
  replace H : HS ⟨S, keysR [.blk b2_ ((vcl (fun a_ : UInt32 => Value.int .u32 (((a_).toNat : Int))) x2)) 157], w⟩ S w6 [.blk b3 ((vcl (fun a_ : UInt32 => Value.int .u32 (((a_).toNat : Int))) y4)) 157, .blk b2 ((cl160 ((0 : UInt32), (0 : UInt32), (0 : UInt32), (0 : UInt32), (0 : UInt32), (0 : UInt32), (0 : UInt32), (0 : UInt32)))) 160, .blk b1 ((cl160 x0)) 160, .blk b2_ ((vcl (fun a_ : UInt32 => Value.int .u32 (((a_).toNat : Int))) x2)) 157] := H
  refine wpList_nil ?_
  refine b_norm ?_
  refine xn hK7 ?_; clear hK7
  refine wp_region_lit ?_
  refine p_val (r_addI q1 rfl) ?_
  refine p_mv (v := .int .i64 ((w64 (s1.1 + 1)))) rfl ?_
  refine wpList_nil ?_
  refine x_norm ?_
  replace H : HS ⟨S, keysR [.blk b2_ ((vcl (fun a_ : UInt32 => Value.int .u32 (((a_).toNat : Int))) x2)) 157], w⟩ S w6 [.blk b3 ((vcl (fun a_ : UInt32 => Value.int .u32 (((a_).toNat : Int))) y4)) 157, .blk b2 ((cl160 ((0 : UInt32), (0 : UInt32), (0 : UInt32), (0 : UInt32), (0 : UInt32), (0 : UInt32), (0 : UInt32), (0 : UInt32)))) 160, .blk b1 ((cl160 x0)) 160, .blk b2_ ((vcl (fun a_ : UInt32 => Value.int .u32 (((a_).toNat : Int))) x2)) 157] := H
  obtain rfl := Option.some.inj hb1
  exact ⟨((w64 (s1.1 + 1)), y4), _, rfl, (by (repeat (refine keep_cons rfl ?_)); refine keep_sub k3 rfl ?_; (repeat (refine keep_cons rfl ?_)); exact fun _ _ => rfl), ⟨rfl, H⟩, hh1⟩
 ·replace hb1 := cnd_f hb1 hc1
  refine wp_exit ?_
  refine x_exit ?_
  refine x_exit ?_
  refine b_hit ?_
  refine x_norm ?_
  replace H : HS ⟨S, keysR [.blk b2_ ((vcl (fun a_ : UInt32 => Value.int .u32 (((a_).toNat : Int))) x2)) 157], w⟩ S w4 [.blk b3 ((vcl (fun a_ : UInt32 => Value.int .u32 (((a_).toNat : Int))) s1.2)) 157, .blk b2 ((cl160 ((0 : UInt32), (0 : UInt32), (0 : UInt32), (0 : UInt32), (0 : UInt32), (0 : UInt32), (0 : UInt32), (0 : UInt32)))) 160, .blk b1 ((cl160 x0)) 160, .blk b2_ ((vcl (fun a_ : UInt32 => Value.int .u32 (((a_).toNat : Int))) x2)) 157] := H
  obtain rfl := Option.some.inj hb1
  obtain rfl := Option.some.inj hh1
  obtain rfl := Option.some.inj hE2
  exact J4 _ _ (by (repeat (refine keep_cons rfl ?_)); refine keep_sub k3 rfl ?_; (repeat (refine keep_cons rfl ?_)); refine keep_name k2 ?_; (repeat (refine keep_cons rfl ?_)); exact fun _ _ => rfl) H
def hash_Sum_b0 (s1 : (List UInt8)) : Option (((List UInt8)) ⊕ ((List UInt8))) :=
  bif ((Int.tmod ((s1).length : Int) 64) != 56) then (Option.bind (app s1 ([(0 : UInt8)] : List UInt8)) fun y2 => some (.inl (y2))) else (some (.inr (s1)))
def hash_Sum_b1 (s2 : (List UInt8) × UInt32 × UInt32 × UInt32 × UInt32 × UInt32 × UInt32 × UInt32 × UInt32 × (Vec UInt32 64)) : Option (((List UInt8) × UInt32 × UInt32 × UInt32 × UInt32 × UInt32 × UInt32 × UInt32 × UInt32 × (Vec UInt32 64)) ⊕ (UInt32 × UInt32 × UInt32 × UInt32 × UInt32 × UInt32 × UInt32 × UInt32 × (Vec UInt32 64))) :=
  bif decide ((0 : Int) < ((s2.1).length : Int)) then (Option.bind (subH s2.1 64) fun y5 => Option.bind (hash_state_next_p (s2.2.1, s2.2.2.1, s2.2.2.2.1, s2.2.2.2.2.1, s2.2.2.2.2.2.1, s2.2.2.2.2.2.2.1, s2.2.2.2.2.2.2.2.1, s2.2.2.2.2.2.2.2.2.1) y5 s2.2.2.2.2.2.2.2.2.2) fun y6 => Option.bind (subL s2.1 64) fun y7 => some (.inl ((y7, y6.1.1, y6.1.2.1, y6.1.2.2.1, y6.1.2.2.2.1, y6.1.2.2.2.2.1, y6.1.2.2.2.2.2.1, y6.1.2.2.2.2.2.2.1, y6.1.2.2.2.2.2.2.2, y6.2)))) else (some (.inr ((s2.2.1, s2.2.2.1, s2.2.2.2.1, s2.2.2.2.2.1, s2.2.2.2.2.2.1, s2.2.2.2.2.2.2.1, s2.2.2.2.2.2.2.2.1, s2.2.2.2.2.2.2.2.2.1, s2.2.2.2.2.2.2.2.2.2))))
def hash_Sum_b2 (t2 : UInt32 × UInt32 × UInt32 × UInt32 × UInt32 × UInt32 × UInt32 × UInt32 × (Vec UInt32 64)) (s3 : (List UInt8) × Int) : Option (((List UInt8) × Int) ⊕ ((List UInt8))) :=
  bif decide (s3.2 < 8) then (Option.bind (idx ([t2.1, t2.2.1, t2.2.2.1, t2.2.2.2.1, t2.2.2.2.2.1, t2.2.2.2.2.2.1, t2.2.2.2.2.2.2.1, t2.2.2.2.2.2.2.2.1] : List UInt32) s3.2) fun y8 => Option.bind (hash_big_p s3.1 (i64 ((y8).toNat : Int)) 4) fun y9 => some (.inl ((y9, (w64 (s3.2 + 1)))))) else (some (.inr (s3.1)))
def hash_Sum_p (x0 : List UInt8) : Option ((List UInt8)) :=
  Option.bind (app x0 ([(128 : UInt8)] : List UInt8)) fun y1 => Option.bind (Option.bind (iter (hash_Sum_b0) (y1)) (fun e => some (e))) (fun t1 => Option.bind (hash_big_p t1 (i64 ((8 : Int) * (((i64 ((x0).length : Int))).toNat : Int))) 8) fun y3 => Option.bind (hash_keys_p) fun y4 => Option.bind (Option.bind (iter (hash_Sum_b1) ((y3, (1779033703 : UInt32), (3144134277 : UInt32), (1013904242 : UInt32), (2773480762 : UInt32), (1359893119 : UInt32), (2600822924 : UInt32), (528734635 : UInt32), (1541459225 : UInt32), y4))) (fun e => some (e))) (fun t2 => Option.bind (Option.bind (iter (hash_Sum_b2 t2) ((([] : List UInt8), 0))) (fun e => some (e))) (fun t3 => some (t3))))
theorem hash_Sum_c {S : Mem} {w : World} (hS : Sub S w) {x0 : List UInt8} {r : (List UInt8)} (hF : hash_Sum_p x0 = some r) :
    Calls Tryz.prog 97 #[str (x0)] w fun e w' => e = .returned (str (r)) ∧ Ext w w' := by
 refine enter (n := 48) Tryz.func97 rfl rfl rfl ?_
 have H := HS.start hS
 unfold hash_Sum_p at hF
 refine sr ?_; intro K1 hK1
 refine p_as (v := str (([] : List UInt8))) rfl ?_
 refine xk hK1 ?_; clear hK1
 refine sr ?_; intro K2 hK2
 refine p_mv (v := str (x0)) rfl ?_
 refine p_of1 (a_bytes (l := x0) u9 u100 u5 H rfl) ?_; clear H; rintro w1 v1 ⟨rs1, H⟩
 have g1 : RL S (u8s x0) x0 := RL.of_u8s _
 replace H : HS ⟨S, [], w⟩ S w1 [.osl (v1) (x0).length 1 (u8s x0) rs1 5] := H
 have g2 : RL S ([Value.int .u8 (128)] ++ ([] : List Value)) ([(128 : UInt8)] : List UInt8) := (RL.cons (rpU8c (x := (128 : UInt8)) rfl) RL.nil)
 refine p_of1 (a_bslice (N := 1) (vals := [(0, .int .u8 (128))]) (l := ([Value.int .u8 (128)] ++ ([] : List Value))) tn100 H rfl rfl rfl g2.len) ?_; clear H; intro w2 v2 H
 generalize ([Value.int .u8 (128)] ++ ([] : List Value)) = cs1 at H g2
 replace H : HS ⟨S, [], w⟩ S w2 [.osl (v2) (([(128 : UInt8)] : List UInt8)).length 1 cs1 [] 5, .osl (v1) (x0).length 1 (u8s x0) rs1 5] := H
 obtain ⟨y1, e1, hF⟩ := bnd hF
 refine p_of1 (a_appendX (k := 1) (v2 := v2) tn100 rfl H rfl rfl g1 rfl (H.slW (k := 0) rfl) g2 e1) ?_; clear H; rintro w3 v3 ⟨cs2, rs2, H, g3⟩
 replace H : HS ⟨S, [], w⟩ S w3 [.osl (v2) (([(128 : UInt8)] : List UInt8)).length 1 cs1 [] 5, .osl (v3) (y1).length 1 cs2 rs2 5] := H
 replace H := H.sel [1] rfl
 replace H : HS ⟨S, [], w⟩ S w3 [.osl (v3) (y1).length 1 cs2 rs2 5] := H
 refine p_as (v := v3) rfl ?_
 refine xk hK2 ?_; clear hK2
 refine wp_seq_k ?_; intro K3 hK3
 refine nameF fun m1 k1 => ?_
 obtain ⟨t1, hE1, hF1⟩ := bnd hF
 have J3 : ∀ (v7 : Value) (cs6 rs5 : List Value) (m4 : FM) (w7 : World), (∀ t, has [3, 13, 14, 15, 16, 17, 18, 19] t = false → look m4 t = look m1 t) → look m4 3 = v7 → HS ⟨S, [], w⟩ S w7 [.osl (v7) (t1).length 1 cs6 rs5 5] → RL S cs6 t1 → K3 (fr 48 m4) w7 := by
  clear H; intro v7 cs6 rs5 m4 w7 k5 q3 H g7
  have q4 : look m4 0 = str (x0) := (k5 0 rfl).trans (k1 0)
  refine hK3 _ _ ?_
  refine sr ?_; intro K6 hK6
  refine p_mv (v := v7) q3 ?_
  refine p_mv q4 ?_
  refine p_val (r_lenT (N := (x0).length) u9 rfl rfl) ?_
  refine p_val (r_conv u3 u102 rfl (i64_wrap _)) ?_
  refine p_val (r_mul rfl rfl (i64_wrap _)) ?_
  obtain ⟨y3, e3, hF1⟩ := bnd hF1
  refine p_call (l := [v7, .int .u64 ((((i64 ((8 : Int) * (((i64 ((x0).length : Int))).toNat : Int)))).toNat : Int)), .int .i64 (8)]) is118 rfl ?_
  refine (hash_big_c (H.hand [0] rfl) g7 e3).mono ?_; rintro _ w8 ⟨S1, pv1, pcs1, prs1, rfl, H2, pg1⟩
  obtain ⟨H1, hle1⟩ := H.frame [0] [] rfl H2; clear H H2; have H := H1; clear H1
  replace H : HS ⟨S, [], w⟩ S1 w8 [.osl (pv1) (y3).length 1 pcs1 prs1 5] := H
  refine p_as (v := pv1) rfl ?_
  refine xk hK6 ?_; clear hK6
  refine sr ?_; intro K7 hK7
  obtain ⟨y4, e4, hF1⟩ := bnd hF1
  refine p_call (l := []) is124 rfl ?_
  refine (hash_keys_c H.sub e4).mono ?_; rintro _ w9 ⟨rfl, hx⟩; replace H := H.ext hx; clear hx
  refine p_ofb (a_alloc (l := (vcl (fun a_ : UInt32 => Value.int .u32 (((a_).toNat : Int))) (vrep 64 (0 : UInt32)))) H tz157 rfl) ?_; clear H; intro w10 b1 H
  refine p_ofs (a_storeVW (X := (vrep 64 (0 : UInt32))) (Y := y4) (cf := fun a_ : UInt32 => Value.int .u32 (((a_).toNat : Int))) (k := 0) tsz157 H rfl rfl rfl (fun _ => rfl)) ?_; clear H; intro w11 H
  replace H : HS ⟨S, [], w⟩ S1 w11 [.blk b1 ((vcl (fun a_ : UInt32 => Value.int .u32 (((a_).toNat : Int))) y4)) 157, .osl (pv1) (y3).length 1 pcs1 prs1 5] := H
  refine xk hK7 ?_; clear hK7
  refine sr ?_; intro K8 hK8
  refine p_val (r_build (vals := [(0, .int .u32 (1779033703)), (1, .int .u32 (3144134277)), (2, .int .u32 (1013904242)), (3, .int .u32 (2773480762)), (4, .int .u32 (1359893119)), (5, .int .u32 (2600822924)), (6, .int .u32 (528734635)), (7, .int .u32 (1541459225))]) (l := (cl160 ((1779033703 : UInt32), (3144134277 : UInt32), (1013904242 : UInt32), (2773480762 : UInt32), (1359893119 : UInt32), (2600822924 : UInt32), (528734635 : UInt32), (1541459225 : UInt32)))) tb160 rfl rfl) ?_
  refine p_ofb (a_alloc (l := (cl160 ((0 : UInt32), (0 : UInt32), (0 : UInt32), (0 : UInt32), (0 : UInt32), (0 : UInt32), (0 : UInt32), (0 : UInt32)))) H tz160 rfl) ?_; clear H; intro w12 b2 H
  refine p_ofs (a_store (k := 0) (v := .agg ((cl160 ((1779033703 : UInt32), (3144134277 : UInt32), (1013904242 : UInt32), (2773480762 : UInt32), (1359893119 : UInt32), (2600822924 : UInt32), (528734635 : UInt32), (1541459225 : UInt32)))).toArray) (l := (cl160 ((1779033703 : UInt32), (3144134277 : UInt32), (1013904242 : UInt32), (2773480762 : UInt32), (1359893119 : UInt32), (2600822924 : UInt32), (528734635 : UInt32), (1541459225 : UInt32)))) tsz160 H rfl rfl rfl (cells_agg _) rfl (fun u hu => List.all_eq_true.1 (rfl : ((cl160 ((1779033703 : UInt32), (3144134277 : UInt32), (1013904242 : UInt32), (2773480762 : UInt32), (1359893119 : UInt32), (2600822924 : UInt32), (528734635 : UInt32), (1541459225 : UInt32)))).all (·.oneCell') = true) u hu) rfl) ?_; clear H; intro w13 H
  replace H : HS ⟨S, [], w⟩ S1 w13 [.blk b2 ((cl160 ((1779033703 : UInt32), (3144134277 : UInt32), (1013904242 : UInt32), (2773480762 : UInt32), (1359893119 : UInt32), (2600822924 : UInt32), (528734635 : UInt32), (1541459225 : UInt32)))) 160, .blk b1 ((vcl (fun a_ : UInt32 => Value.int .u32 (((a_).toNat : Int))) y4)) 157, .osl (pv1) (y3).length 1 pcs1 prs1 5] := H
  refine xk hK8 ?_; clear hK8
  refine wp_seq_k ?_; intro K9 hK9
  obtain ⟨S2, hle2, g8, H1⟩ := H.fixX (k := 2) rfl pg1; clear H; have H := H1; clear H1
  replace H : HS ⟨S, [], w⟩ S2 w13 [.blk b2 ((cl160 ((1779033703 : UInt32), (3144134277 : UInt32), (1013904242 : UInt32), (2773480762 : UInt32), (1359893119 : UInt32), (2600822924 : UInt32), (528734635 : UInt32), (1541459225 : UInt32)))) 160, .blk b1 ((vcl (fun a_ : UInt32 => Value.int .u32 (((a_).toNat : Int))) y4)) 157] := H
  refine nameF fun m5 k6 => ?_
  obtain ⟨t2, hE3, hF2⟩ := bnd hF1
  have J2 : ∀ (S5 : Mem) (m8 : FM) (w18 : World), (∀ t, has [3, 28, 29, 30, 31, 32, 33, 34, 35, 36] t = false → look m8 t = look m5 t) → Mem.le S2 S5 → HS ⟨S, [], w⟩ S5 w18 [.blk b2 ((cl160 (t2.1, t2.2.1, t2.2.2.1, t2.2.2.2.1, t2.2.2.2.2.1, t2.2.2.2.2.2.1, t2.2.2.2.2.2.2.1, t2.2.2.2.2.2.2.2.1))) 160, .blk b1 ((vcl (fun a_ : UInt32 => Value.int .u32 (((a_).toNat : Int))) t2.2.2.2.2.2.2.2.2)) 157] → K9 (fr 48 m8) w18 := by
   clear H; intro S5 m8 w18 k10 hle5 H
   replace g8 := RdS.mono g8 hle5
   have q8 : look m8 5 = .pointer (some ⟨b2, 0, none⟩) := (k10 5 rfl).trans (k6 5)
   refine hK9 _ _ ?_
   refine sr ?_; intro K13 hK13
   refine p_as (v := .slice none 0 0) rfl ?_
   refine xk hK13 ?_; clear hK13
   refine wp_seq_k ?_; intro K14 hK14
   refine nameF fun m9 k11 => ?_
   obtain ⟨t3, hE5, hF3⟩ := bnd hF2
   have J1 : ∀ (v10 : Value) (cs8 rs7 : List Value) (S8 : Mem) (m12 : FM) (w21 : World), (∀ t, has [6, 8, 37, 38, 39, 40, 41, 42, 43, 44, 45] t = false → look m12 t = look m9 t) → look m12 6 = v10 → Mem.le S5 S8 → HS ⟨S, [], w⟩ S8 w21 [.osl (v10) (t3).length 1 cs8 rs7 5, .blk b2 ((cl160 (t2.1, t2.2.1, t2.2.2.1, t2.2.2.2.1, t2.2.2.2.2.1, t2.2.2.2.2.2.1, t2.2.2.2.2.2.2.1, t2.2.2.2.2.2.2.2.1))) 160, .blk b1 ((vcl (fun a_ : UInt32 => Value.int .u32 (((a_).toNat : Int))) t2.2.2.2.2.2.2.2.2)) 157] → RL S8 cs8 t3 → K14 (fr 48 m12) w21 := by
    clear H; intro v10 cs8 rs7 S8 m12 w21 k15 q12 hle8 H g14
    replace g8 := RdS.mono g8 hle8
    refine hK14 _ _ ?_
    refine sr ?_; intro K20 hK20
    refine p_mv (v := v10) q12 ?_
    refine p_val (r_strO u100 u5 u9 rfl H (k := 0) rfl g14) ?_
    refine p_as (v := str (t3)) rfl ?_
    refine xk hK20 ?_; clear hK20
    refine wp_ret ?_
    obtain rfl := Option.some.inj hF3
    refine e_1 rfl (q_tmp (v := str (t3)) rfl) ?_
    exact ⟨rfl, H.toExt⟩
   refine sr ?_; intro K15 hK15
   refine p_val (h_load (l := (cl160 (t2.1, t2.2.1, t2.2.2.1, t2.2.2.2.1, t2.2.2.2.2.1, t2.2.2.2.2.2.1, t2.2.2.2.2.2.2.1, t2.2.2.2.2.2.2.2.1))) tg160 H ((k11 5).trans q8) (k := 0) rfl rfl rfl) ?_
   refine p_mv (v := .int .i64 (0)) rfl ?_
   refine xk hK15 ?_; clear hK15
   refine wp_block ?_
   refine nameF fun m10 k12 => ?_
   obtain ⟨out3, hL3, hE6⟩ := bnd hE5
   replace H := H.nilOwn 1 5; have g13 : RL S5 [] ([] : List UInt8) := RL.nil
   replace H : HS ⟨S, [], w⟩ S5 w18 [.osl (.slice none 0 0) (([] : List UInt8)).length 1 [] [] 5, .blk b2 ((cl160 (t2.1, t2.2.1, t2.2.2.1, t2.2.2.2.1, t2.2.2.2.2.1, t2.2.2.2.2.2.1, t2.2.2.2.2.2.2.1, t2.2.2.2.2.2.2.2.1))) 160, .blk b1 ((vcl (fun a_ : UInt32 => Value.int .u32 (((a_).toNat : Int))) t2.2.2.2.2.2.2.2.2)) 157] := H
   refine loopI [6, 8, 38, 39, 40, 41, 42, 43, 44, 45] (fun (s3 : (List UInt8) × Int) (m11 : FM) (w19 : World) => ∃ (S6 : Mem) (v9 : Value) (cs7 rs6 : List Value), look m11 6 = v9 ∧ look m11 38 = .int .i64 (s3.2) ∧ Mem.le S5 S6 ∧ HS ⟨S, [], w⟩ S6 w19 [.osl (v9) (s3.1).length 1 cs7 rs6 5, .blk b2 ((cl160 (t2.1, t2.2.1, t2.2.2.1, t2.2.2.2.1, t2.2.2.2.2.1, t2.2.2.2.2.2.1, t2.2.2.2.2.2.2.1, t2.2.2.2.2.2.2.2.1))) 160, .blk b1 ((vcl (fun a_ : UInt32 => Value.int .u32 (((a_).toNat : Int))) t2.2.2.2.2.2.2.2.2)) 157] ∧ RL S6 cs7 s3.1) hL3 ⟨_, _, _, _, (show _ = (.slice none 0 0 : Value) from ((k12 6).trans (k11 6))), (k12 38), (Mem.le_refl _), H, g13⟩ ?_
   clear H; intro k14 s3 m11 w19 k13 hI3 o6 hb3 hh3; obtain ⟨S6, v9, cs7, rs6, q9, q10, hle6, H, g12⟩ := hI3
   replace g8 := RdS.mono g8 hle6
   have q11 : look m11 37 = .agg ((cl160 (t2.1, t2.2.1, t2.2.2.1, t2.2.2.2.1, t2.2.2.2.2.1, t2.2.2.2.2.2.1, t2.2.2.2.2.2.2.1, t2.2.2.2.2.2.2.2.1))).toArray := (k13 37 rfl).trans (k12 37)
   unfold hash_Sum_b2 at hb3
   refine sr ?_; intro K16 hK16
   refine p_val (r_lssI q10 rfl) ?_
   refine xk hK16 ?_; clear hK16
   refine wp_seq_k ?_; intro K17 hK17
   refine c_split (t := decide (s3.2 < 8)) rfl (fun hc3 => ?_) (fun hc3 => ?_)
   ·replace hb3 := cnd_t hb3 hc3
    refine wp_skip ?_
    refine xn hK17 ?_; clear hK17
    refine wp_seq_k ?_; intro K18 hK18
    refine wp_block ?_
    refine sr ?_; intro K19 hK19
    obtain ⟨y8, e8, hb3⟩ := bnd hb3
    refine p_val (r_idxAV (cf := fun a_ : UInt32 => Value.int .u32 (((a_).toNat : Int))) u160 to133 q11 q10 rfl rfl e8) ?_
    refine p_as (v := .int .u32 (((y8).toNat : Int))) rfl ?_
    refine xk hK19 ?_; clear hK19
    refine wp_region_lit ?_
    refine p_mv (v := v9) q9 ?_
    refine p_mv (v := .int .u32 (((y8).toNat : Int))) rfl ?_
    refine p_val (r_conv u133 u102 rfl (i64_wrap _)) ?_
    obtain ⟨y9, e9, hb3⟩ := bnd hb3
    refine p_call (l := [v9, .int .u64 ((((i64 ((y8).toNat : Int))).toNat : Int)), .int .i64 (4)]) is118 rfl ?_
    refine (hash_big_c (H.hand [0] rfl) g12 e9).mono ?_; rintro _ w20 ⟨S7, pv2, pcs2, prs2, rfl, H2, pg2⟩
    obtain ⟨H1, hle7⟩ := H.frame [0] [1, 2] rfl H2; clear H H2; have H := H1; clear H1
    replace H : HS ⟨S, [], w⟩ S7 w20 [.osl (pv2) (y9).length 1 pcs2 prs2 5, .blk b2 ((cl160 (t2.1, t2.2.1, t2.2.2.1, t2.2.2.2.1, t2.2.2.2.2.1, t2.2.2.2.2.2.1, t2.2.2.2.2.2.2.1, t2.2.2.2.2.2.2.2.1))) 160, .blk b1 ((vcl (fun a_ : UInt32 => Value.int .u32 (((a_).toNat : Int))) t2.2.2.2.2.2.2.2.2)) 157] := H
    refine p_as (v := pv2) rfl ?_
    refine wpList_nil ?_
    refine b_norm ?_
    refine xn hK18 ?_; clear hK18
    refine wp_region_lit ?_
    refine p_val (r_addI q10 rfl) ?_
    refine p_mv (v := .int .i64 ((w64 (s3.2 + 1)))) rfl ?_
    refine wpList_nil ?_
    refine x_norm ?_
    replace H : HS ⟨S, [], w⟩ S7 w20 [.osl (pv2) (y9).length 1 pcs2 prs2 5, .blk b2 ((cl160 (t2.1, t2.2.1, t2.2.2.1, t2.2.2.2.1, t2.2.2.2.2.1, t2.2.2.2.2.2.1, t2.2.2.2.2.2.2.1, t2.2.2.2.2.2.2.2.1))) 160, .blk b1 ((vcl (fun a_ : UInt32 => Value.int .u32 (((a_).toNat : Int))) t2.2.2.2.2.2.2.2.2)) 157] := H
    obtain rfl := Option.some.inj hb3
    exact ⟨(y9, (w64 (s3.2 + 1))), _, rfl, (by (repeat (refine keep_cons rfl ?_)); refine keep_sub k13 rfl ?_; (repeat (refine keep_cons rfl ?_)); exact fun _ _ => rfl), ⟨_, _, _, _, rfl, rfl, (Mem.le_trans hle6 hle7), H, pg2⟩, hh3⟩
   ·replace hb3 := cnd_f hb3 hc3
    refine wp_exit ?_
    refine x_exit ?_
    refine x_exit ?_
    refine b_hit ?_
    refine x_norm ?_
    replace H : HS ⟨S, [], w⟩ S6 w19 [.osl (v9) (s3.1).length 1 cs7 rs6 5, .blk b2 ((cl160 (t2.1, t2.2.1, t2.2.2.1, t2.2.2.2.1, t2.2.2.2.2.1, t2.2.2.2.2.2.1, t2.2.2.2.2.2.2.1, t2.2.2.2.2.2.2.2.1))) 160, .blk b1 ((vcl (fun a_ : UInt32 => Value.int .u32 (((a_).toNat : Int))) t2.2.2.2.2.2.2.2.2)) 157] := H
    obtain rfl := Option.some.inj hb3
    obtain rfl := Option.some.inj hh3
    obtain rfl := Option.some.inj hE6
    exact J1 _ _ _ _ _ _ (by (repeat (refine keep_cons rfl ?_)); refine keep_sub k13 rfl ?_; (repeat (refine keep_cons rfl ?_)); refine keep_name k12 ?_; (repeat (refine keep_cons rfl ?_)); exact fun _ _ => rfl) (show _ = (v9 : Value) from q9) hle6 H g12
  refine wp_block ?_
  refine nameF fun m6 k7 => ?_
  obtain ⟨out2, hL2, hE4⟩ := bnd hE3
  replace H : HS ⟨S, [], w⟩ S2 w13 [.blk b2 ((cl160 ((1779033703 : UInt32), (3144134277 : UInt32), (1013904242 : UInt32), (2773480762 : UInt32), (1359893119 : UInt32), (2600822924 : UInt32), (528734635 : UInt32), (1541459225 : UInt32)))) 160, .blk b1 ((vcl (fun a_ : UInt32 => Value.int .u32 (((a_).toNat : Int))) y4)) 157] := H
  refine loopI [3, 28, 29, 30, 31, 32, 33, 34, 35, 36] (fun (s2 : (List UInt8) × UInt32 × UInt32 × UInt32 × UInt32 × UInt32 × UInt32 × UInt32 × UInt32 × (Vec UInt32 64)) (m7 : FM) (w14 : World) => ∃ (S3 : Mem) (v8 : Value), look m7 3 = v8 ∧ Mem.le S2 S3 ∧ HS ⟨S, [], w⟩ S3 w14 [.blk b2 ((cl160 (s2.2.1, s2.2.2.1, s2.2.2.2.1, s2.2.2.2.2.1, s2.2.2.2.2.2.1, s2.2.2.2.2.2.2.1, s2.2.2.2.2.2.2.2.1, s2.2.2.2.2.2.2.2.2.1))) 160, .blk b1 ((vcl (fun a_ : UInt32 => Value.int .u32 (((a_).toNat : Int))) s2.2.2.2.2.2.2.2.2.2)) 157] ∧ RdS S3 v8 s2.1) hL2 ⟨_, _, (show _ = (pv1 : Value) from ((k7 3).trans (k6 3))), (Mem.le_refl _), H, g8⟩ ?_
  clear H; intro k9 s2 m7 w14 k8 hI2 o4 hb2 hh2; obtain ⟨S3, v8, q5, hle3, H, g9⟩ := hI2
  replace g8 := RdS.mono g8 hle3
  have q6 : look m7 4 = .pointer (some ⟨b1, 0, none⟩) := (k8 4 rfl).trans ((k7 4).trans (k6 4))
  have q7 : look m7 5 = .pointer (some ⟨b2, 0, none⟩) := (k8 5 rfl).trans ((k7 5).trans (k6 5))
  unfold hash_Sum_b1 at hb2
  refine wp_seq_k ?_; intro K10 hK10
  refine sr ?_; intro K11 hK11
  refine p_mv (v := v8) q5 ?_
  refine p_val (r_lenR' u100 rfl g9 H.sub) ?_
  refine p_val (r_gtrI rfl rfl) ?_
  refine xk hK11 ?_; clear hK11
  refine c_split (t := decide ((0 : Int) < ((s2.1).length : Int))) rfl (fun hc2 => ?_) (fun hc2 => ?_)
  ·replace hb2 := cnd_t hb2 hc2
   refine wp_skip ?_
   refine xn hK10 ?_; clear hK10
   refine wp_seq_k ?_; intro K12 hK12
   refine wp_block ?_
   obtain ⟨y5, e5, hb2⟩ := bnd hb2
   have g10 : RdS S3 (subN v8 1 0 (64 : Int).toNat) y5 := RdS.subH g9 e5
   apply wp_region_ext 3 (kindsF []) rfl rfl (by kernel_rfl); intro vs1
   simp only [List.take_succ_cons, List.take_zero, List.drop_succ_cons, List.drop_zero]
   replace H := H.drew
   refine t_v (fun w hx => h_load (l := (cl160 (s2.2.1, s2.2.2.1, s2.2.2.2.1, s2.2.2.2.2.1, s2.2.2.2.2.2.1, s2.2.2.2.2.2.2.1, s2.2.2.2.2.2.2.2.1, s2.2.2.2.2.2.2.2.2.1))) tg160 (H.ext hx) q7 (k := 0) rfl rfl rfl) ?_
   refine t_v (fun w hx => r_move (v := v8) q5) ?_
   refine t_v (fun w hx => r_subH (h := (64 : Int).toNat) u100 tsz5 rfl rfl (subH_some e5).1 g9 (subH_some e5).2.1) ?_
   refine t_nil (fun w15 hx hF hA => ?_)
   replace H := H.ext hx; clear hx hF hA
   obtain ⟨y6, e6, hb2⟩ := bnd hb2
   refine p_call (l := [.agg ((cl160 (s2.2.1, s2.2.2.1, s2.2.2.2.1, s2.2.2.2.2.1, s2.2.2.2.2.2.1, s2.2.2.2.2.2.2.1, s2.2.2.2.2.2.2.2.1, s2.2.2.2.2.2.2.2.2.1))).toArray, (subN v8 1 0 (64 : Int).toNat), .pointer (some ⟨b1, 0, none⟩)]) is125 (args_cons rfl (args_cons rfl (args_cons q6 args_nil))) ?_
   refine (hash_state_next_c (H.hand [1] rfl) g10 e6).mono ?_; rintro _ w16 ⟨S4, rfl, H2⟩
   obtain ⟨H1, hle4⟩ := H.frame [1] [0] rfl H2; clear H H2; have H := H1; clear H1
   replace g9 := RdS.mono g9 hle4
   replace g10 := RdS.mono g10 hle4
   replace H : HS ⟨S, [], w⟩ S4 w16 [.blk b1 ((vcl (fun a_ : UInt32 => Value.int .u32 (((a_).toNat : Int))) y6.2)) 157, .blk b2 ((cl160 (s2.2.1, s2.2.2.1, s2.2.2.2.1, s2.2.2.2.2.1, s2.2.2.2.2.2.1, s2.2.2.2.2.2.2.1, s2.2.2.2.2.2.2.2.1, s2.2.2.2.2.2.2.2.2.1))) 160] := H
   refine p_ofs (a_store (k := 1) (v := .agg ((cl160 y6.1)).toArray) (l := (cl160 y6.1)) tsz160 H q7 rfl rfl (cells_agg _) rfl (fun u hu => List.all_eq_true.1 (rfl : ((cl160 y6.1)).all (·.oneCell') = true) u hu) rfl) ?_; clear H; intro w17 H
   replace H : HS ⟨S, [], w⟩ S4 w17 [.blk b1 ((vcl (fun a_ : UInt32 => Value.int .u32 (((a_).toNat : Int))) y6.2)) 157, .blk b2 ((cl160 y6.1)) 160] := H
   refine wpList_nil ?_; refine on_norm ?_
   refine b_norm ?_
   refine xn hK12 ?_; clear hK12
   refine wp_region_lit ?_
   refine p_mv (v := v8) q5 ?_
   obtain ⟨y7, e7, hb2⟩ := bnd hb2
   refine p_val (r_subL (p := (64 : Int).toNat) u100 tsz5 rfl rfl (subL_some e7).1 g9 (subL_some e7).2.1) ?_
   have g11 : RdS S4 (subN v8 1 (64 : Int).toNat (s2.1).length) y7 := RdS.subL g9 e7
   refine p_as (v := (subN v8 1 (64 : Int).toNat (s2.1).length)) rfl ?_
   refine wpList_nil ?_
   refine x_norm ?_
   replace H := H.sel [1, 0] rfl
   replace H : HS ⟨S, [], w⟩ S4 w17 [.blk b2 ((cl160 y6.1)) 160, .blk b1 ((vcl (fun a_ : UInt32 => Value.int .u32 (((a_).toNat : Int))) y6.2)) 157] := H
   obtain rfl := Option.some.inj hb2
   exact ⟨(y7, y6.1.1, y6.1.2.1, y6.1.2.2.1, y6.1.2.2.2.1, y6.1.2.2.2.2.1, y6.1.2.2.2.2.2.1, y6.1.2.2.2.2.2.2.1, y6.1.2.2.2.2.2.2.2, y6.2), _, rfl, (by (repeat (refine keep_cons rfl ?_)); refine keep_sub k8 rfl ?_; (repeat (refine keep_cons rfl ?_)); exact fun _ _ => rfl), ⟨_, _, rfl, (Mem.le_trans hle3 hle4), H, g11⟩, hh2⟩
  ·replace hb2 := cnd_f hb2 hc2
   refine wp_exit ?_
   refine x_exit ?_
   refine x_exit ?_
   refine b_hit ?_
   refine x_norm ?_
   replace H : HS ⟨S, [], w⟩ S3 w14 [.blk b2 ((cl160 (s2.2.1, s2.2.2.1, s2.2.2.2.1, s2.2.2.2.2.1, s2.2.2.2.2.2.1, s2.2.2.2.2.2.2.1, s2.2.2.2.2.2.2.2.1, s2.2.2.2.2.2.2.2.2.1))) 160, .blk b1 ((vcl (fun a_ : UInt32 => Value.int .u32 (((a_).toNat : Int))) s2.2.2.2.2.2.2.2.2.2)) 157] := H
   obtain rfl := Option.some.inj hb2
   obtain rfl := Option.some.inj hh2
   obtain rfl := Option.some.inj hE4
   exact J2 _ _ _ (by (repeat (refine keep_cons rfl ?_)); refine keep_sub k8 rfl ?_; (repeat (refine keep_cons rfl ?_)); refine keep_name k7 ?_; (repeat (refine keep_cons rfl ?_)); exact fun _ _ => rfl) hle3 H
 refine wp_block ?_
 refine nameF fun m2 k2 => ?_
 obtain ⟨out1, hL1, hE2⟩ := bnd hE1
 replace H : HS ⟨S, [], w⟩ S w3 [.osl (v3) (y1).length 1 cs2 rs2 5] := H
 refine loopI [3, 13, 14, 15, 16, 17, 18, 19] (fun (s1 : (List UInt8)) (m3 : FM) (w4 : World) => ∃ (v4 : Value) (cs3 rs3 : List Value), look m3 3 = v4 ∧ HS ⟨S, [], w⟩ S w4 [.osl (v4) (s1).length 1 cs3 rs3 5] ∧ RL S cs3 s1) hL1 ⟨_, _, _, (show _ = (v3 : Value) from ((k2 3).trans (k1 3))), H, g3⟩ ?_
 clear H; intro k4 s1 m3 w4 k3 hI1 o2 hb1 hh1; obtain ⟨v4, cs3, rs3, q1, H, g4⟩ := hI1
 have q2 : look m3 0 = str (x0) := (k3 0 rfl).trans ((k2 0).trans (k1 0))
 unfold hash_Sum_b0 at hb1
 refine wp_seq_k ?_; intro K4 hK4
 refine sr ?_; intro K5 hK5
 refine p_mv (v := v4) q1 ?_
 refine p_val (r_lenO u100 rfl H (k := 0) rfl rfl) ?_
 refine p_val (r_rem (r := Int.tmod ((s1).length : Int) 64) rfl rfl (by decide) rfl) ?_
 refine p_val (r_neqI rfl rfl) ?_
 refine xk hK5 ?_; clear hK5
 refine c_split (t := ((Int.tmod ((s1).length : Int) 64) != 56)) rfl (fun hc1 => ?_) (fun hc1 => ?_)
 ·replace hb1 := cnd_t hb1 hc1
  refine wp_skip ?_
  refine xn hK4 ?_; clear hK4
  refine wp_block ?_
  refine wp_region_lit ?_
  refine p_mv (v := v4) q1 ?_
  have g5 : RL S ([Value.int .u8 (0)] ++ ([] : List Value)) ([(0 : UInt8)] : List UInt8) := (RL.cons (rpU8c (x := (0 : UInt8)) rfl) RL.nil)
  refine p_of1 (a_bslice (N := 1) (vals := [(0, .int .u8 (0))]) (l := ([Value.int .u8 (0)] ++ ([] : List Value))) tn100 H rfl rfl rfl g5.len) ?_; clear H; intro w5 v5 H
  generalize ([Value.int .u8 (0)] ++ ([] : List Value)) = cs4 at H g5
  replace H : HS ⟨S, [], w⟩ S w5 [.osl (v5) (([(0 : UInt8)] : List UInt8)).length 1 cs4 [] 5, .osl (v4) (s1).length 1 cs3 rs3 5] := H
  obtain ⟨y2, e2, hb1⟩ := bnd hb1
  refine p_of1 (a_appendX (k := 1) (v2 := v5) tn100 rfl H rfl rfl g4 rfl (H.slW (k := 0) rfl) g5 e2) ?_; clear H; rintro w6 v6 ⟨cs5, rs4, H, g6⟩
  replace H : HS ⟨S, [], w⟩ S w6 [.osl (v5) (([(0 : UInt8)] : List UInt8)).length 1 cs4 [] 5, .osl (v6) (y2).length 1 cs5 rs4 5] := H
  replace H := H.sel [1] rfl
  replace H : HS ⟨S, [], w⟩ S w6 [.osl (v6) (y2).length 1 cs5 rs4 5] := H
  refine p_as (v := v6) rfl ?_
  refine wpList_nil ?_
  refine b_norm ?_
  refine x_norm ?_
  replace H : HS ⟨S, [], w⟩ S w6 [.osl (v6) (y2).length 1 cs5 rs4 5] := H
  obtain rfl := Option.some.inj hb1
  exact ⟨y2, _, rfl, (by (repeat (refine keep_cons rfl ?_)); refine keep_sub k3 rfl ?_; (repeat (refine keep_cons rfl ?_)); exact fun _ _ => rfl), ⟨_, _, _, rfl, H, g6⟩, hh1⟩
 ·replace hb1 := cnd_f hb1 hc1
  refine wp_exit ?_
  refine x_exit ?_
  refine x_exit ?_
  refine b_hit ?_
  refine x_norm ?_
  replace H : HS ⟨S, [], w⟩ S w4 [.osl (v4) (s1).length 1 cs3 rs3 5] := H
  obtain rfl := Option.some.inj hb1
  obtain rfl := Option.some.inj hh1
  obtain rfl := Option.some.inj hE2
  exact J3 _ _ _ _ _ (by (repeat (refine keep_cons rfl ?_)); refine keep_sub k3 rfl ?_; (repeat (refine keep_cons rfl ?_)); refine keep_name k2 ?_; (repeat (refine keep_cons rfl ?_)); exact fun _ _ => rfl) (show _ = (v4 : Value) from q1) H g4
end Go.Proofs.YtmkomlbiaebddaaGreatDoor
