/- What some functions compute, and that they do. Conditions: as each theorem says. -/
import Derived.Test.YtmbcolbbekbccaaGreatQpJ
namespace Go.Proofs.YtmbcolbbekbccaaGreat
open Go Go.RowKit
attribute [local irreducible] wpList wpT Code.wp Calls Code.rounds
theorem is69 : IsFn Tryz.prog 69 := isFn Tryz.func69 (by kernel_rfl) (by kernel_rfl)
theorem is70 : IsFn Tryz.prog 70 := isFn Tryz.func70 (by kernel_rfl) (by kernel_rfl)
theorem is71 : IsFn Tryz.prog 71 := isFn Tryz.func71 (by kernel_rfl) (by kernel_rfl)
theorem is121 : IsFn Tryz.prog 121 := isFn Tryz.func121 (by kernel_rfl) (by kernel_rfl)
theorem is123 : IsFn Tryz.prog 123 := isFn Tryz.func123 (by kernel_rfl) (by kernel_rfl)
theorem is150 : IsFn Tryz.prog 150 := isFn Tryz.func150 (by kernel_rfl) (by kernel_rfl)
def seneschalref06_Left_b1 (s2 : Int × (List UInt32)) : Option ((Int × (List UInt32)) ⊕ ((List UInt32))) :=
  bif decide ((0 : Int) < s2.1) then (Option.bind (idx s2.2 (w64 (s2.1 - 1))) fun y2 => Option.bind (idx s2.2 s2.1) fun y3 => Option.bind (setL s2.2 (s2.1 : Int) y2) fun y4 => some (.inl (((w64 (s2.1 - 1)), y4)))) else (some (.inr (s2.2)))
def seneschalref06_Left_b3 (x1 : List UInt32) (t5 : UInt32) (s4 : UInt64 × Int × (List UInt32)) : Option ((UInt64 × Int × (List UInt32)) ⊕ ((List UInt32))) :=
  bif decide (s4.2.1 ≤ ((x1).length : Int)) then (Option.bind (bif decide (s4.2.1 < ((x1).length : Int)) then (Option.bind (idx x1 s4.2.1) fun y12 => some ((i64 (((s4.1).toNat : Int) + (((i64 ((((i64 ((t5).toNat : Int))).toNat : Int) * (((i64 ((y12).toNat : Int))).toNat : Int)))).toNat : Int))))) else (some (s4.1))) (fun t6 => Option.bind (idx s4.2.2 s4.2.1) fun y13 => Option.bind (idx s4.2.2 s4.2.1) fun y14 => Option.bind (setL s4.2.2 (s4.2.1 : Int) (i32 ((((i64 ((((i64 ((((i64 ((y13).toNat : Int))).toNat : Int) + 1099511627776))).toNat : Int) - ((t6).toNat : Int))) &&& (65535 : UInt64))).toNat : Int))) fun y15 => some (.inl (((i64 ((16777216 : Int) - (((i64 (shrI .u64 (((i64 ((((i64 ((((i64 ((y13).toNat : Int))).toNat : Int) + 1099511627776))).toNat : Int) - ((t6).toNat : Int)))).toNat : Int) 16))).toNat : Int))), (w64 (s4.2.1 + 1)), y15))))) else (some (.inr (s4.2.2)))
def seneschalref06_Left_b2 (x1 : List UInt32) (s3 : (List UInt32)) : Option (((List UInt32)) ⊕ ((List UInt32))) :=
  Option.bind (idx s3 ((x1).length : Int)) fun y8 => Option.bind (bif decide ((0 : Int) < ((y8).toNat : Int)) then (some (true)) else (Option.bind (subH s3 ((x1).length : Int)) fun y9 => Option.bind (seneschalref06_Cmp_p y9 x1) fun y10 => some (decide ((0 : Int) ≤ y10)))) (fun t4 => bif t4 then (Option.bind (idx s3 ((x1).length : Int)) fun y11 => Option.bind (bif (((y11).toNat : Int) == 0) then (some ((1 : UInt32))) else (some (y11))) (fun t5 => Option.bind (iter (seneschalref06_Left_b3 x1 t5) (((0 : UInt64), 0, s3))) (fun e => some (.inl (e))))) else (some (.inr (s3))))
def seneschalref06_Left_b0 (x0 : List UInt32) (x1 : List UInt32) (s1 : Int × (List UInt32)) : Option ((Int × (List UInt32)) ⊕ ((List UInt32))) :=
  bif decide ((0 : Int) ≤ s1.1) then (Option.bind (Option.bind (Option.bind (iter (seneschalref06_Left_b1) ((((x1).length : Int), s1.2))) (fun e => some (e))) (fun t3 => Option.bind (idx x0 s1.1) fun y5 => Option.bind (idx t3 0) fun y6 => Option.bind (setL t3 (0 : Int) y5) fun y7 => Option.bind (iter (seneschalref06_Left_b2 x1) (y7)) (fun e => some (e)))) (fun t2 => some (.inl (((w64 (s1.1 - 1)), t2))))) else (some (.inr (s1.2)))
def seneschalref06_Left_p (x0 : List UInt32) (x1 : List UInt32) : Option ((List UInt32)) :=
  Option.bind (mkL (w64 (((x1).length : Int) + 1)) (0 : UInt32)) fun y1 => Option.bind (Option.bind (iter (seneschalref06_Left_b0 x0 x1) (((w64 (((x0).length : Int) - 1)), y1))) (fun e => some (e))) (fun t1 => Option.bind (seneschalref06_trim_p t1) fun y16 => some (y16))
theorem seneschalref06_Left_c {S : Mem} {w : World} (hS : Sub S w) {v0_ : Value} {x0 : List UInt32} (h0_ : RdS S v0_ x0) {v1_ : Value} {x1 : List UInt32} (h1_ : RdS S v1_ x1) {r : (List UInt32)} (hF : seneschalref06_Left_p x0 x1 = some r) :
    Calls Tryz.prog 70 #[v0_, v1_] w fun e w' => Ext w w' ∧ ∃ (v0' : Value), e = .returned (v0') ∧ RdS (gr S w w') v0' r := by
 refine enter (n := 102) Tryz.func70 rfl rfl rfl ?_
 have H := HS.start hS
 unfold seneschalref06_Left_p at hF
 refine sr ?_; intro K1 hK1
 refine p_as (v := .slice none 0 0) rfl ?_
 refine xk hK1 ?_; clear hK1
 refine sr ?_; intro K2 hK2
 refine p_mv (v := v1_) rfl ?_
 refine p_val (r_lenR' u63 rfl h1_ H.sub) ?_
 refine p_as (v := .int .i64 (((x1).length : Int))) rfl ?_
 refine xk hK2 ?_; clear hK2
 refine sr ?_; intro K3 hK3
 refine p_mv (v := .int .i64 (((x1).length : Int))) rfl ?_
 refine p_val (r_addI rfl rfl) ?_
 obtain ⟨y1, e1, hF⟩ := bnd hF
 refine p_of1 (a_makeX (zx := (0 : UInt32)) tn63 rfl H rfl rfl (rpU32c (x := (0 : UInt32)) rfl) e1 (Int.le_refl _) (mkL_some e1).2.1) ?_; clear H; rintro w1 v1 ⟨cs1, rs1, H, g1⟩
 replace H : HS ⟨S, [], w⟩ S w1 [.osl (v1) (y1).length 1 cs1 rs1 107] := H
 refine p_as (v := v1) rfl ?_
 refine xk hK3 ?_; clear hK3
 refine wp_seq_k ?_; intro K4 hK4
 refine nameF fun m1 k1 => ?_
 obtain ⟨t1, hE1, hF1⟩ := bnd hF
 have J6 : ∀ (cs17 rs8 : List Value) (m20 : FM) (w15 : World), (∀ t, has [7, 8, 9, 10, 11, 12, 13, 19, 20, 21, 22, 23, 24, 25, 26, 27, 28, 29, 30, 31, 32, 33, 34, 35, 36, 37, 38, 39, 40, 41, 42, 43, 44, 45, 46, 47, 48, 49, 50, 51, 52, 53, 54, 55, 56, 57, 58, 59, 60, 61, 62, 63, 64, 65, 66, 67, 68, 69, 70, 71, 72, 73, 74, 75, 76, 77, 78, 79, 80, 81, 82, 83, 84, 85, 86, 87, 88, 89, 90, 91, 92, 93, 94, 95, 96, 97, 98, 99] t = false → look m20 t = look m1 t) → HS ⟨S, [], w⟩ S w15 [.osl (v1) (t1).length 1 cs17 rs8 107] → RL S cs17 t1 → K4 (fr 102 m20) w15 := by
  clear H; intro cs17 rs8 m20 w15 k24 H g12
  have q55 : look m20 6 = v1 := (k24 6 rfl).trans (k1 6)
  refine hK4 _ _ ?_
  refine sr ?_; intro K31 hK31
  refine p_mv (v := v1) q55 ?_
  obtain ⟨S1, hle1, g13, H1⟩ := H.fixX (k := 0) rfl g12; clear H; have H := H1; clear H1
  replace H : HS ⟨S, [], w⟩ S1 w15 [] := H
  obtain ⟨y16, e16, hF1⟩ := bnd hF1
  refine p_call (l := [v1]) is84 rfl ?_
  refine (seneschalref06_trim_c H.sub g13 e16).mono ?_; rintro _ w16 ⟨hx, v9, rfl, g14⟩
  have hle2 := gr_le (w' := w16) H.sub; replace H := H.call hx; clear hx; generalize gr S1 w15 w16 = S2 at hle2 H g14
  replace g13 := RdS.mono g13 hle2
  refine p_as (v := v9) rfl ?_
  refine xk hK31 ?_; clear hK31
  refine wp_ret ?_
  obtain rfl := osi hF1
  refine e_1 rfl (q_tmp (v := v9) rfl) ?_
  exact ⟨H.toExt, _, rfl, RdS.mono g14 H.gr⟩
 refine sr ?_; intro K5 hK5
 refine p_mv (v := v0_) (k1 0) ?_
 refine p_val (r_lenR' u63 rfl h0_ H.sub) ?_
 refine p_val (r_subI rfl rfl) ?_
 refine p_as (v := .int .i64 ((w64 (((x0).length : Int) - 1)))) rfl ?_
 refine xk hK5 ?_; clear hK5
 refine wp_block ?_
 refine nameF fun m2 k2 => ?_
 obtain ⟨out1, hL1, hE2⟩ := bnd hE1
 replace H : HS ⟨S, [], w⟩ S w1 [.osl (v1) (y1).length 1 cs1 rs1 107] := H
 refine loopI [7, 8, 9, 10, 11, 12, 13, 22, 23, 24, 25, 26, 27, 28, 29, 30, 31, 32, 33, 34, 35, 36, 37, 38, 39, 40, 41, 42, 43, 44, 45, 46, 47, 48, 49, 50, 51, 52, 53, 54, 55, 56, 57, 58, 59, 60, 61, 62, 63, 64, 65, 66, 67, 68, 69, 70, 71, 72, 73, 74, 75, 76, 77, 78, 79, 80, 81, 82, 83, 84, 85, 86, 87, 88, 89, 90, 91, 92, 93, 94, 95, 96, 97, 98, 99] (fun (s1 : Int × (List UInt32)) (m3 : FM) (w2 : World) => ∃ (cs2 rs2 : List Value), look m3 7 = .int .i64 (s1.1) ∧ HS ⟨S, [], w⟩ S w2 [.osl (v1) (s1.2).length 1 cs2 rs2 107] ∧ RL S cs2 s1.2) hL1 ⟨_, _, (k2 7), H, g1⟩ ?_
 clear H; intro k4 s1 m3 w2 k3 hI1 o2 hb1 hh1; obtain ⟨cs2, rs2, q1, H, g2⟩ := hI1
 have q2 : look m3 0 = v0_ := (k3 0 rfl).trans ((k2 0).trans (k1 0))
 have q3 : look m3 1 = v1_ := (k3 1 rfl).trans ((k2 1).trans (k1 1))
 have q4 : look m3 5 = .int .i64 (((x1).length : Int)) := (k3 5 rfl).trans ((k2 5).trans (k1 5))
 have q5 : look m3 6 = v1 := (k3 6 rfl).trans ((k2 6).trans (k1 6))
 unfold seneschalref06_Left_b0 at hb1
 refine wp_seq_k ?_; intro K6 hK6
 refine sr ?_; intro K7 hK7
 refine p_mv q1 ?_
 refine p_val (r_geqI rfl rfl) ?_
 refine xk hK7 ?_; clear hK7
 refine c_split (t := decide ((0 : Int) ≤ s1.1)) rfl (fun hc1 => ?_) (fun hc1 => ?_)
 ·replace hb1 := cnd_t hb1 hc1
  refine wp_skip ?_
  refine xn hK6 ?_; clear hK6
  refine wp_seq_k ?_; intro K8 hK8
  refine nameF fun m4 k5 => ?_
  obtain ⟨t2, hE3, hF2⟩ := bnd hb1
  have J5 : ∀ (cs16 rs7 : List Value) (m19 : FM) (w14 : World), (∀ t, has [8, 9, 10, 11, 12, 13, 26, 27, 28, 29, 30, 31, 32, 33, 34, 35, 36, 37, 38, 39, 40, 41, 42, 43, 44, 45, 46, 47, 48, 49, 50, 51, 52, 53, 54, 55, 56, 57, 58, 59, 60, 61, 62, 63, 64, 65, 66, 67, 68, 69, 70, 71, 72, 73, 74, 75, 76, 77, 78, 79, 80, 81, 82, 83, 84, 85, 86, 87, 88, 89, 90, 91, 92, 93, 94, 95, 96, 97, 98, 99] t = false → look m19 t = look m4 t) → HS ⟨S, [], w⟩ S w14 [.osl (v1) (t2).length 1 cs16 rs7 107] → RL S cs16 t2 → K8 (fr 102 m19) w14 := by
   clear H; intro cs16 rs7 m19 w14 k23 H g11
   have q50 : look m19 0 = v0_ := (k23 0 rfl).trans ((k5 0).trans q2)
   have q51 : look m19 1 = v1_ := (k23 1 rfl).trans ((k5 1).trans q3)
   have q52 : look m19 5 = .int .i64 (((x1).length : Int)) := (k23 5 rfl).trans ((k5 5).trans q4)
   have q53 : look m19 6 = v1 := (k23 6 rfl).trans ((k5 6).trans q5)
   have q54 : look m19 7 = .int .i64 (s1.1) := (k23 7 rfl).trans ((k5 7).trans q1)
   refine hK8 _ _ ?_
   refine wp_region_lit ?_
   refine p_mv q54 ?_
   refine p_val (r_subI rfl rfl) ?_
   refine p_as (v := .int .i64 ((w64 (s1.1 - 1)))) rfl ?_
   refine wpList_nil ?_
   refine x_norm ?_
   replace H : HS ⟨S, [], w⟩ S w14 [.osl (v1) (t2).length 1 cs16 rs7 107] := H
   obtain rfl := osi hF2
   exact ⟨((w64 (s1.1 - 1)), t2), _, rfl, (by (repeat (refine keep_cons rfl ?_)); refine keep_sub k23 rfl ?_; (repeat (refine keep_cons rfl ?_)); refine keep_name k5 ?_; (repeat (refine keep_cons rfl ?_)); refine keep_sub k3 rfl ?_; exact kcx), ⟨_, _, rfl, H, g11⟩, hh1⟩
  refine wp_block ?_
  refine wp_seq_k ?_; intro K9 hK9
  refine nameF fun m5 k6 => ?_
  obtain ⟨t3, hE4, hF3⟩ := bnd hE3
  have J4 : ∀ (cs6 rs4 : List Value) (m8 : FM) (w5 : World), (∀ t, has [8, 26, 27, 28, 29, 30, 31, 32, 33, 34, 35, 36, 37, 38] t = false → look m8 t = look m5 t) → HS ⟨S, [], w⟩ S w5 [.osl (v1) (t3).length 1 cs6 rs4 107] → RL S cs6 t3 → K9 (fr 102 m8) w5 := by
   clear H; intro cs6 rs4 m8 w5 k10 H g5
   have q12 : look m8 0 = v0_ := (k10 0 rfl).trans ((k6 0).trans ((k5 0).trans q2))
   have q13 : look m8 1 = v1_ := (k10 1 rfl).trans ((k6 1).trans ((k5 1).trans q3))
   have q14 : look m8 5 = .int .i64 (((x1).length : Int)) := (k10 5 rfl).trans ((k6 5).trans ((k5 5).trans q4))
   have q15 : look m8 6 = v1 := (k10 6 rfl).trans ((k6 6).trans ((k5 6).trans q5))
   have q16 : look m8 7 = .int .i64 (s1.1) := (k10 7 rfl).trans ((k6 7).trans ((k5 7).trans q1))
   refine hK9 _ _ ?_
   refine sr ?_; intro K14 hK14
   refine p_mv (v := v1) q15 ?_
   refine p_mv (v := v0_) q12 ?_
   refine p_mv q16 ?_
   obtain ⟨y5, e5, hF3⟩ := bnd hF3
   obtain ⟨b3, o6, N1, c3, cs7, hv3, hi1, hc3, hr2⟩ := h0_.get (idx_some e5).2
   refine p_val (r_addrV (i := (s1.1 : Int).toNat) u63 tsz107 rfl hv3 rfl (idx_some e5).1 hi1) ?_
   obtain rfl := elU32 hr2
   refine p_val (s_load1 (p := (o6 + (s1.1 : Int).toNat * 1)) (o := 0) (v := .int .u32 (((y5).toNat : Int))) to107 H.sub rfl hc3 rfl) ?_
   obtain ⟨y6, e6, hF3⟩ := bnd hF3
   obtain ⟨b4, c4, hv4⟩ := H.ownAt (k := 0) rfl (idx_lt e6)
   refine p_val (r_addrV (i := (0 : Int).toNat) u63 tsz107 rfl hv4 rfl (idx_some e6).1 (idx_lt e6)) ?_
   subst hv4
   obtain ⟨y7, e7, hF3⟩ := bnd hF3
   refine p_ofs (a_storeX (k := 0) (v := .int .u32 (((y5).toNat : Int))) (l := [Value.int .u32 (((y5).toNat : Int))]) tsz107 rfl H rfl g5 rfl rfl (cells_one rfl) rpU32 e7) ?_; clear H; rintro w6 ⟨cs8, H, g6⟩
   replace H : HS ⟨S, [], w⟩ S w6 [.osl (sl b4 0 (t3).length c4) (y7).length 1 cs8 rs4 107] := H
   refine xk hK14 ?_; clear hK14
   refine wp_block ?_
   refine nameF fun m9 k11 => ?_
   obtain ⟨out3, hL3, hE6⟩ := bnd hF3
   replace H : HS ⟨S, [], w⟩ S w6 [.osl (sl b4 0 (t3).length c4) (y7).length 1 cs8 rs4 107] := H
   refine loopI [9, 10, 11, 12, 13, 45, 46, 47, 48, 49, 50, 51, 52, 53, 54, 55, 56, 57, 58, 59, 60, 61, 62, 63, 64, 65, 66, 67, 68, 69, 70, 71, 72, 73, 74, 75, 76, 77, 78, 79, 80, 81, 82, 83, 84, 85, 86, 87, 88, 89, 90, 91, 92, 93, 94, 95, 96, 97, 98, 99] (fun (s3 : (List UInt32)) (m10 : FM) (w7 : World) => ∃ (cs9 rs5 : List Value), HS ⟨S, [], w⟩ S w7 [.osl (sl b4 0 (t3).length c4) (s3).length 1 cs9 rs5 107] ∧ RL S cs9 s3) hL3 ⟨_, _, H, g6⟩ ?_
   clear H; intro k13 s3 m10 w7 k12 hI3 o7 hb3 hh3; obtain ⟨cs9, rs5, H, g7⟩ := hI3
   have q17 : look m10 0 = v0_ := (k12 0 rfl).trans ((k11 0).trans q12)
   have q18 : look m10 1 = v1_ := (k12 1 rfl).trans ((k11 1).trans q13)
   have q19 : look m10 5 = .int .i64 (((x1).length : Int)) := (k12 5 rfl).trans ((k11 5).trans q14)
   have q20 : look m10 6 = sl b4 0 (t3).length c4 := (k12 6 rfl).trans ((k11 6).trans q15)
   have q21 : look m10 7 = .int .i64 (s1.1) := (k12 7 rfl).trans ((k11 7).trans q16)
   unfold seneschalref06_Left_b2 at hb3
   refine wp_seq_k ?_; intro K15 hK15
   refine sr ?_; intro K16 hK16
   refine p_mv (v := sl b4 0 (t3).length c4) q20 ?_
   refine p_mv q19 ?_
   obtain ⟨y8, e8, hb3⟩ := bnd hb3
   refine p_val (r_addrV (i := (((x1).length : Int) : Int).toNat) u63 tsz107 rfl (HS.ownV H (k := 0) rfl) rfl (idx_some e8).1 (idx_lt e8)) ?_
   have hr3 := RL.get g7 (idx_some e8).2; generalize hghr3 : piece cs9 _ _ = cs10 at hr3
   obtain rfl := elU32 hr3
   refine p_val (o_load1 (v := .int .u32 (((y8).toNat : Int))) to107 H (k := 0) rfl rfl (idx_lt e8) hghr3) ?_
   refine p_val (r_gtrI rfl rfl) ?_
   refine p_mv (v := .bool (decide ((0 : Int) < ((y8).toNat : Int)))) rfl ?_
   refine nameL fun m11 k14 => ?_
   refine gs_at 7 fun K17 hK17 R2 hR2 => ?_
   obtain ⟨t4, hE7, hF4⟩ := bnd hb3
   have J3 : ∀ (m12 : FM) (w9 : World), (∀ t, has [51, 52, 53, 54, 55, 56, 57] t = false → look m12 t = look m11 t) → look m12 57 = .bool (t4) → HS ⟨S, [], w⟩ S w9 [.osl (sl b4 0 (t3).length c4) (s3).length 1 cs9 rs5 107] → K17 m12 w9 := by
    clear H; intro m12 w9 k15 q22 H
    have q23 : look m12 0 = v0_ := (k15 0 rfl).trans ((k14 0).trans q17)
    have q24 : look m12 1 = v1_ := (k15 1 rfl).trans ((k14 1).trans q18)
    have q25 : look m12 5 = .int .i64 (((x1).length : Int)) := (k15 5 rfl).trans ((k14 5).trans q19)
    have q26 : look m12 6 = sl b4 0 (t3).length c4 := (k15 6 rfl).trans ((k14 6).trans q20)
    have q27 : look m12 7 = .int .i64 (s1.1) := (k15 7 rfl).trans ((k14 7).trans q21)
    refine hK17 _ _ ?_
    refine xk hK16 ?_; clear hK16
    refine c_split (t := t4) q22 (fun hc4 => ?_) (fun hc4 => ?_)
    ·replace hF4 := cnd_t hF4 hc4
     refine wp_skip ?_
     refine xn hK15 ?_; clear hK15
     refine wp_block ?_
     refine sr ?_; intro K18 hK18
     refine p_mv (v := sl b4 0 (t3).length c4) q26 ?_
     refine p_mv q25 ?_
     obtain ⟨y11, e11, hF4⟩ := bnd hF4
     refine p_val (r_addrV (i := (((x1).length : Int) : Int).toNat) u63 tsz107 rfl (HS.ownV H (k := 0) rfl) rfl (idx_some e11).1 (idx_lt e11)) ?_
     have hr4 := RL.get g7 (idx_some e11).2; generalize hghr4 : piece cs9 _ _ = cs11 at hr4
     obtain rfl := elU32 hr4
     refine p_val (o_load1 (v := .int .u32 (((y11).toNat : Int))) to107 H (k := 0) rfl rfl (idx_lt e11) hghr4) ?_
     refine p_as (v := .int .u32 (((y11).toNat : Int))) rfl ?_
     refine xk hK18 ?_; clear hK18
     refine wp_seq_k ?_; intro K19 hK19
     refine nameF fun m13 k16 => ?_
     obtain ⟨t5, hE8, hF5⟩ := bnd hF4
     have J2 : ∀ (m14 : FM) (w10 : World), (∀ t, has [9, 62, 63] t = false → look m14 t = look m13 t) → look m14 9 = .int .u32 (((t5).toNat : Int)) → HS ⟨S, [], w⟩ S w10 [.osl (sl b4 0 (t3).length c4) (s3).length 1 cs9 rs5 107] → K19 (fr 102 m14) w10 := by
      clear H; intro m14 w10 k17 q28 H
      have q29 : look m14 0 = v0_ := (k17 0 rfl).trans ((k16 0).trans q23)
      have q30 : look m14 1 = v1_ := (k17 1 rfl).trans ((k16 1).trans q24)
      have q31 : look m14 5 = .int .i64 (((x1).length : Int)) := (k17 5 rfl).trans ((k16 5).trans q25)
      have q32 : look m14 6 = sl b4 0 (t3).length c4 := (k17 6 rfl).trans ((k16 6).trans q26)
      have q33 : look m14 7 = .int .i64 (s1.1) := (k17 7 rfl).trans ((k16 7).trans q27)
      refine hK19 _ _ ?_
      refine sr ?_; intro K21 hK21
      refine p_as (v := .int .u64 (0)) rfl ?_
      refine xk hK21 ?_; clear hK21
      refine sr ?_; intro K22 hK22
      refine p_as (v := .int .i64 (0)) rfl ?_
      refine xk hK22 ?_; clear hK22
      refine wp_block ?_
      refine nameF fun m15 k18 => ?_
      obtain ⟨out4, hL4, hE9⟩ := bnd hF5
      replace H : HS ⟨S, [], w⟩ S w10 [.osl (sl b4 0 (t3).length c4) (s3).length 1 cs9 rs5 107] := H
      refine loopI [10, 11, 12, 13, 64, 65, 66, 67, 68, 69, 70, 71, 72, 73, 74, 75, 76, 77, 78, 79, 80, 81, 82, 83, 84, 85, 86, 87, 88, 89, 90, 91, 92, 93, 94, 95, 96, 97, 98, 99] (fun (s4 : UInt64 × Int × (List UInt32)) (m16 : FM) (w11 : World) => ∃ (cs12 rs6 : List Value), look m16 10 = .int .u64 (((s4.1).toNat : Int)) ∧ look m16 11 = .int .i64 (s4.2.1) ∧ HS ⟨S, [], w⟩ S w11 [.osl (sl b4 0 (t3).length c4) (s4.2.2).length 1 cs12 rs6 107] ∧ RL S cs12 s4.2.2) hL4 ⟨_, _, (k18 10), (k18 11), H, g7⟩ ?_
      clear H; intro k20 s4 m16 w11 k19 hI4 o10 hb5 hh4; obtain ⟨cs12, rs6, q34, q35, H, g9⟩ := hI4
      have q36 : look m16 0 = v0_ := (k19 0 rfl).trans ((k18 0).trans q29)
      have q37 : look m16 1 = v1_ := (k19 1 rfl).trans ((k18 1).trans q30)
      have q38 : look m16 5 = .int .i64 (((x1).length : Int)) := (k19 5 rfl).trans ((k18 5).trans q31)
      have q39 : look m16 6 = sl b4 0 (t3).length c4 := (k19 6 rfl).trans ((k18 6).trans q32)
      have q40 : look m16 7 = .int .i64 (s1.1) := (k19 7 rfl).trans ((k18 7).trans q33)
      have q41 : look m16 9 = .int .u32 (((t5).toNat : Int)) := (k19 9 rfl).trans ((k18 9).trans q28)
      unfold seneschalref06_Left_b3 at hb5
      refine wp_seq_k ?_; intro K23 hK23
      refine sr ?_; intro K24 hK24
      refine p_mv q35 ?_
      refine p_mv q38 ?_
      refine p_val (r_leqI rfl rfl) ?_
      refine xk hK24 ?_; clear hK24
      refine c_split (t := decide (s4.2.1 ≤ ((x1).length : Int))) rfl (fun hc6 => ?_) (fun hc6 => ?_)
      ·replace hb5 := cnd_t hb5 hc6
       refine wp_skip ?_
       refine xn hK23 ?_; clear hK23
       refine wp_seq_k ?_; intro K25 hK25
       refine wp_block ?_
       refine sr ?_; intro K26 hK26
       refine p_mv q34 ?_
       refine p_as (v := .int .u64 (((s4.1).toNat : Int))) rfl ?_
       refine xk hK26 ?_; clear hK26
       refine wp_seq_k ?_; intro K27 hK27
       refine nameF fun m17 k21 => ?_
       obtain ⟨t6, hE10, hF6⟩ := bnd hb5
       have J1 : ∀ (m18 : FM) (w12 : World), (∀ t, has [12, 70, 71, 72, 73, 74, 75, 76, 77, 78, 79, 80, 81, 82] t = false → look m18 t = look m17 t) → look m18 12 = .int .u64 (((t6).toNat : Int)) → HS ⟨S, [], w⟩ S w12 [.osl (sl b4 0 (t3).length c4) (s4.2.2).length 1 cs12 rs6 107] → K27 (fr 102 m18) w12 := by
        clear H; intro m18 w12 k22 q42 H
        have q43 : look m18 0 = v0_ := (k22 0 rfl).trans ((k21 0).trans q36)
        have q44 : look m18 1 = v1_ := (k22 1 rfl).trans ((k21 1).trans q37)
        have q45 : look m18 5 = .int .i64 (((x1).length : Int)) := (k22 5 rfl).trans ((k21 5).trans q38)
        have q46 : look m18 6 = sl b4 0 (t3).length c4 := (k22 6 rfl).trans ((k21 6).trans q39)
        have q47 : look m18 7 = .int .i64 (s1.1) := (k22 7 rfl).trans ((k21 7).trans q40)
        have q48 : look m18 9 = .int .u32 (((t5).toNat : Int)) := (k22 9 rfl).trans ((k21 9).trans q41)
        have q49 : look m18 11 = .int .i64 (s4.2.1) := (k22 11 rfl).trans ((k21 11).trans q35)
        refine hK27 _ _ ?_
        refine sr ?_; intro K29 hK29
        refine p_mv (v := sl b4 0 (t3).length c4) q46 ?_
        refine p_mv q49 ?_
        obtain ⟨y13, e13, hF6⟩ := bnd hF6
        refine p_val (r_addrV (i := (s4.2.1 : Int).toNat) u63 tsz107 rfl (HS.ownV H (k := 0) rfl) rfl (idx_some e13).1 (idx_lt e13)) ?_
        have hr6 := RL.get g9 (idx_some e13).2; generalize hghr6 : piece cs12 _ _ = cs14 at hr6
        obtain rfl := elU32 hr6
        refine p_val (o_load1 (v := .int .u32 (((y13).toNat : Int))) to107 H (k := 0) rfl rfl (idx_lt e13) hghr6) ?_
        refine p_val (r_conv u107 u22 rfl (i64_wrap _)) ?_
        refine p_val (r_add rfl rfl (i64_wrap _)) ?_
        refine p_mv q42 ?_
        refine p_val (r_sub rfl rfl (i64_wrap _)) ?_
        refine p_as (v := .int .u64 ((((i64 ((((i64 ((((i64 ((y13).toNat : Int))).toNat : Int) + 1099511627776))).toNat : Int) - ((t6).toNat : Int)))).toNat : Int))) rfl ?_
        refine xk hK29 ?_; clear hK29
        refine sr ?_; intro K30 hK30
        refine p_mv (v := sl b4 0 (t3).length c4) q46 ?_
        refine p_mv q49 ?_
        refine p_mv (v := .int .u64 ((((i64 ((((i64 ((((i64 ((y13).toNat : Int))).toNat : Int) + 1099511627776))).toNat : Int) - ((t6).toNat : Int)))).toNat : Int))) rfl ?_
        refine p_val (r_bits (bo := .and) (by simp) rfl rfl (i64_and _ (65535 : UInt64))) ?_
        refine p_val (r_conv u22 u107 rfl (i32_wrap _)) ?_
        obtain ⟨y14, e14, hF6⟩ := bnd hF6
        refine p_val (r_addrV (i := (s4.2.1 : Int).toNat) u63 tsz107 rfl (HS.ownV H (k := 0) rfl) rfl (idx_some e14).1 (idx_lt e14)) ?_
        obtain ⟨y15, e15, hF6⟩ := bnd hF6
        refine p_ofs (a_storeX (k := 0) (v := .int .u32 ((((i32 ((((i64 ((((i64 ((((i64 ((y13).toNat : Int))).toNat : Int) + 1099511627776))).toNat : Int) - ((t6).toNat : Int))) &&& (65535 : UInt64))).toNat : Int))).toNat : Int))) (l := [Value.int .u32 ((((i32 ((((i64 ((((i64 ((((i64 ((y13).toNat : Int))).toNat : Int) + 1099511627776))).toNat : Int) - ((t6).toNat : Int))) &&& (65535 : UInt64))).toNat : Int))).toNat : Int))]) tsz107 rfl H rfl g9 rfl rfl (cells_one rfl) rpU32 e15) ?_; clear H; rintro w13 ⟨cs15, H, g10⟩
        replace H : HS ⟨S, [], w⟩ S w13 [.osl (sl b4 0 (t3).length c4) (y15).length 1 cs15 rs6 107] := H
        refine xk hK30 ?_; clear hK30
        refine wp_region_lit ?_
        refine p_mv (v := .int .u64 ((((i64 ((((i64 ((((i64 ((y13).toNat : Int))).toNat : Int) + 1099511627776))).toNat : Int) - ((t6).toNat : Int)))).toNat : Int))) rfl ?_
        refine p_val (r_shr rfl rfl (by decide) (i64_shr _ _)) ?_
        refine p_val (r_sub rfl rfl (i64_wrap _)) ?_
        refine p_as (v := .int .u64 ((((i64 ((16777216 : Int) - (((i64 (shrI .u64 (((i64 ((((i64 ((((i64 ((y13).toNat : Int))).toNat : Int) + 1099511627776))).toNat : Int) - ((t6).toNat : Int)))).toNat : Int) 16))).toNat : Int)))).toNat : Int))) rfl ?_
        refine wpList_nil ?_
        refine b_norm ?_
        refine xn hK25 ?_; clear hK25
        refine wp_region_lit ?_
        refine p_mv q49 ?_
        refine p_val (r_addI rfl rfl) ?_
        refine p_as (v := .int .i64 ((w64 (s4.2.1 + 1)))) rfl ?_
        refine wpList_nil ?_
        refine x_norm ?_
        replace H : HS ⟨S, [], w⟩ S w13 [.osl (sl b4 0 (t3).length c4) (y15).length 1 cs15 rs6 107] := H
        obtain rfl := osi hF6
        exact ⟨((i64 ((16777216 : Int) - (((i64 (shrI .u64 (((i64 ((((i64 ((((i64 ((y13).toNat : Int))).toNat : Int) + 1099511627776))).toNat : Int) - ((t6).toNat : Int)))).toNat : Int) 16))).toNat : Int))), (w64 (s4.2.1 + 1)), y15), _, rfl, (by (repeat (refine keep_cons rfl ?_)); refine keep_sub k22 rfl ?_; (repeat (refine keep_cons rfl ?_)); refine keep_name k21 ?_; (repeat (refine keep_cons rfl ?_)); refine keep_sub k19 rfl ?_; exact kcx), ⟨_, _, rfl, rfl, H, g10⟩, hh4⟩
       refine sr ?_; intro K28 hK28
       refine p_mv ((k21 11).trans q35) ?_
       refine p_mv ((k21 5).trans q38) ?_
       refine p_val (r_lssI rfl rfl) ?_
       refine xk hK28 ?_; clear hK28
       refine c_split (t := decide (s4.2.1 < ((x1).length : Int))) rfl (fun hc7 => ?_) (fun hc7 => ?_)
       ·replace hE10 := cnd_t hE10 hc7
        refine wp_region_lit ?_
        refine p_mv (k21 12) ?_
        refine p_mv ((k21 9).trans q41) ?_
        refine p_val (r_conv u107 u22 rfl (i64_wrap _)) ?_
        refine p_mv (v := v1_) ((k21 1).trans q37) ?_
        refine p_mv ((k21 11).trans q35) ?_
        obtain ⟨y12, e12, hE10⟩ := bnd hE10
        obtain ⟨b7, o12, N2, c7, cs13, hv7, hi2, hc8, hr5⟩ := h1_.get (idx_some e12).2
        refine p_val (r_addrV (i := (s4.2.1 : Int).toNat) u63 tsz107 rfl hv7 rfl (idx_some e12).1 hi2) ?_
        obtain rfl := elU32 hr5
        refine p_val (s_load1 (p := (o12 + (s4.2.1 : Int).toNat * 1)) (o := 0) (v := .int .u32 (((y12).toNat : Int))) to107 H.sub rfl hc8 rfl) ?_
        refine p_val (r_conv u107 u22 rfl (i64_wrap _)) ?_
        refine p_val (r_mul rfl rfl (i64_wrap _)) ?_
        refine p_val (r_add rfl rfl (i64_wrap _)) ?_
        refine p_as (v := .int .u64 ((((i64 (((s4.1).toNat : Int) + (((i64 ((((i64 ((t5).toNat : Int))).toNat : Int) * (((i64 ((y12).toNat : Int))).toNat : Int)))).toNat : Int)))).toNat : Int))) rfl ?_
        refine wpList_nil ?_
        refine x_norm ?_
        replace H : HS ⟨S, [], w⟩ S w11 [.osl (sl b4 0 (t3).length c4) (s4.2.2).length 1 cs12 rs6 107] := H
        obtain rfl := osi hE10
        exact J1 _ _ kcx rfl H
       ·replace hE10 := cnd_f hE10 hc7
        refine wp_skip ?_
        refine x_norm ?_
        replace H : HS ⟨S, [], w⟩ S w11 [.osl (sl b4 0 (t3).length c4) (s4.2.2).length 1 cs12 rs6 107] := H
        obtain rfl := osi hE10
        exact J1 _ _ kcx (k21 12) H
      ·replace hb5 := cnd_f hb5 hc6
       refine wp_exit ?_
       refine x_exit ?_
       refine x_exit ?_
       refine b_hit ?_
       refine b_norm ?_
       refine x_norm ?_
       replace H : HS ⟨S, [], w⟩ S w11 [.osl (sl b4 0 (t3).length c4) (s4.2.2).length 1 cs12 rs6 107] := H
       obtain rfl := osi hb5
       obtain rfl := osi hh4
       obtain rfl := osi hE9
       exact ⟨s4.2.2, _, rfl, (by (repeat (refine keep_cons rfl ?_)); refine keep_sub k19 rfl ?_; (repeat (refine keep_cons rfl ?_)); refine keep_name k18 ?_; (repeat (refine keep_cons rfl ?_)); refine keep_sub k17 rfl ?_; (repeat (refine keep_cons rfl ?_)); refine keep_name k16 ?_; (repeat (refine keep_cons rfl ?_)); refine keep_sub k15 rfl ?_; (repeat (refine keep_cons rfl ?_)); refine keep_name k14 ?_; (repeat (refine keep_cons rfl ?_)); refine keep_sub k12 rfl ?_; exact kcx), ⟨_, _, H, g9⟩, hh3⟩
     refine sr ?_; intro K20 hK20
     refine p_mv (k16 9) ?_
     refine p_val (r_eqlI rfl rfl) ?_
     refine xk hK20 ?_; clear hK20
     refine c_split (t := (((y11).toNat : Int) == 0)) rfl (fun hc5 => ?_) (fun hc5 => ?_)
     ·replace hE8 := cnd_t hE8 hc5
      refine wp_region_lit ?_
      refine p_as (v := .int .u32 (1)) rfl ?_
      refine wpList_nil ?_
      refine x_norm ?_
      replace H : HS ⟨S, [], w⟩ S w9 [.osl (sl b4 0 (t3).length c4) (s3).length 1 cs9 rs5 107] := H
      obtain rfl := osi hE8
      exact J2 _ _ kcx rfl H
     ·replace hE8 := cnd_f hE8 hc5
      refine wp_skip ?_
      refine x_norm ?_
      replace H : HS ⟨S, [], w⟩ S w9 [.osl (sl b4 0 (t3).length c4) (s3).length 1 cs9 rs5 107] := H
      obtain rfl := osi hE8
      exact J2 _ _ kcx (k16 9) H
    ·replace hF4 := cnd_f hF4 hc4
     refine wp_exit ?_
     refine x_exit ?_
     refine x_exit ?_
     refine b_hit ?_
     refine b_norm ?_
     refine x_norm ?_
     replace H : HS ⟨S, [], w⟩ S w9 [.osl (sl b4 0 (t3).length c4) (s3).length 1 cs9 rs5 107] := H
     obtain rfl := osi hF4
     obtain rfl := osi hh3
     obtain rfl := osi hE6
     exact J5 _ _ _ _ (by (repeat (refine keep_cons rfl ?_)); refine keep_sub k15 rfl ?_; (repeat (refine keep_cons rfl ?_)); refine keep_name k14 ?_; (repeat (refine keep_cons rfl ?_)); refine keep_sub k12 rfl ?_; (repeat (refine keep_cons rfl ?_)); refine keep_name k11 ?_; (repeat (refine keep_cons rfl ?_)); refine keep_sub k10 rfl ?_; (repeat (refine keep_cons rfl ?_)); refine keep_name k6 ?_; exact kcx) H g7
   refine p_gs (j := 5) (gvl_at rfl rfl (k14 50)) (fun hb4 => ?_) (fun hb4 => ?_)
   ·replace hE7 := cnd_t hE7 hb4
    refine p_skip (gvl_at rfl rfl (k14 50)) hb4 ?_
    rw [put_fr]
    refine p_skip (gvl_at rfl rfl (k14 50)) hb4 ?_
    rw [put_fr]
    refine p_skip (gvl_at rfl rfl (k14 50)) hb4 ?_
    rw [put_fr]
    refine p_skip (gvl_at rfl rfl (k14 50)) hb4 ?_
    rw [put_fr]
    refine p_skip (gvl_at rfl rfl (k14 50)) hb4 ?_
    rw [put_fr]
    refine p_skip (gvl_at rfl rfl (k14 50)) hb4 ?_
    rw [put_fr]
    refine p_val (r_pickt (v := .bool (true)) (k14 50) hb4 rfl) ?_
    refine hR2 _ _ ?_
    replace H : HS ⟨S, [], w⟩ S w7 [.osl (sl b4 0 (t3).length c4) (s3).length 1 cs9 rs5 107] := H
    obtain rfl := osi hE7
    exact J3 _ _ kcx rfl H
   ·replace hE7 := cnd_f hE7 hb4
    refine p_want (gvl_at rfl rfl (k14 50)) hb4 ?_
    refine p_mv (v := sl b4 0 (t3).length c4) ((k14 6).trans q20) ?_
    refine p_want (gvl_at rfl rfl (k14 50)) hb4 ?_
    refine p_mv ((k14 5).trans q19) ?_
    refine p_want (gvl_at rfl rfl (k14 50)) hb4 ?_
    obtain ⟨y9, e9, hE7⟩ := bnd hE7
    refine p_val (r_subH (h := (((x1).length : Int) : Int).toNat) u63 tsz107 rfl rfl (subH_some e9).1 (RdS.ofOwn H (k := 0) rfl g7) (subH_some e9).2.1) ?_
    refine p_want (gvl_at rfl rfl (k14 50)) hb4 ?_
    refine p_mv (v := v1_) ((k14 1).trans q18) ?_
    refine p_want (gvl_at rfl rfl (k14 50)) hb4 ?_
    obtain ⟨y10, e10, hE7⟩ := bnd hE7
    refine p_call (l := [(subN (sl b4 0 (t3).length c4) 1 0 (((x1).length : Int) : Int).toNat), v1_]) is69 rfl ?_
    refine (seneschalref06_Cmp_c (subMem w7) (RdS.subH (RdS.ofOwn H (k := 0) rfl g7) e9) (h1_.mono H.sub) e10).mono ?_; rintro _ w8 ⟨rfl, hx⟩; replace H := H.ext hx; clear hx
    refine p_want (gvl_at rfl rfl (k14 50)) hb4 ?_
    refine p_val (r_geqI rfl rfl) ?_
    refine p_val (r_pickf (v := .bool (decide ((0 : Int) ≤ y10))) (k14 50) hb4 rfl) ?_
    refine hR2 _ _ ?_
    replace H : HS ⟨S, [], w⟩ S w8 [.osl (sl b4 0 (t3).length c4) (s3).length 1 cs9 rs5 107] := H
    obtain rfl := osi hE7
    exact J3 _ _ kcx rfl H
  refine sr ?_; intro K10 hK10
  refine p_mv ((k6 5).trans ((k5 5).trans q4)) ?_
  refine p_as (v := .int .i64 (((x1).length : Int))) rfl ?_
  refine xk hK10 ?_; clear hK10
  refine wp_block ?_
  refine nameF fun m6 k7 => ?_
  obtain ⟨out2, hL2, hE5⟩ := bnd hE4
  replace H : HS ⟨S, [], w⟩ S w2 [.osl (v1) (s1.2).length 1 cs2 rs2 107] := H
  refine loopI [8, 27, 28, 29, 30, 31, 32, 33, 34, 35, 36, 37, 38] (fun (s2 : Int × (List UInt32)) (m7 : FM) (w3 : World) => ∃ (cs3 rs3 : List Value), look m7 8 = .int .i64 (s2.1) ∧ HS ⟨S, [], w⟩ S w3 [.osl (v1) (s2.2).length 1 cs3 rs3 107] ∧ RL S cs3 s2.2) hL2 ⟨_, _, (k7 8), H, g2⟩ ?_
  clear H; intro k9 s2 m7 w3 k8 hI2 o5 hb2 hh2; obtain ⟨cs3, rs3, q6, H, g3⟩ := hI2
  have q7 : look m7 0 = v0_ := (k8 0 rfl).trans ((k7 0).trans ((k6 0).trans ((k5 0).trans q2)))
  have q8 : look m7 1 = v1_ := (k8 1 rfl).trans ((k7 1).trans ((k6 1).trans ((k5 1).trans q3)))
  have q9 : look m7 5 = .int .i64 (((x1).length : Int)) := (k8 5 rfl).trans ((k7 5).trans ((k6 5).trans ((k5 5).trans q4)))
  have q10 : look m7 6 = v1 := (k8 6 rfl).trans ((k7 6).trans ((k6 6).trans ((k5 6).trans q5)))
  have q11 : look m7 7 = .int .i64 (s1.1) := (k8 7 rfl).trans ((k7 7).trans ((k6 7).trans ((k5 7).trans q1)))
  unfold seneschalref06_Left_b1 at hb2
  refine wp_seq_k ?_; intro K11 hK11
  refine sr ?_; intro K12 hK12
  refine p_mv q6 ?_
  refine p_val (r_gtrI rfl rfl) ?_
  refine xk hK12 ?_; clear hK12
  refine c_split (t := decide ((0 : Int) < s2.1)) rfl (fun hc2 => ?_) (fun hc2 => ?_)
  ·replace hb2 := cnd_t hb2 hc2
   refine wp_skip ?_
   refine xn hK11 ?_; clear hK11
   refine wp_seq_k ?_; intro K13 hK13
   refine wp_block ?_
   refine wp_region_lit ?_
   refine p_mv (v := v1) q10 ?_
   refine p_mv q6 ?_
   refine p_mv (v := v1) q10 ?_
   refine p_mv q6 ?_
   refine p_val (r_subI rfl rfl) ?_
   obtain ⟨y2, e2, hb2⟩ := bnd hb2
   obtain ⟨b1, c1, hv1⟩ := H.ownAt (k := 0) rfl (idx_lt e2)
   refine p_val (r_addrV (i := ((w64 (s2.1 - 1)) : Int).toNat) u63 tsz107 rfl hv1 rfl (idx_some e2).1 (idx_lt e2)) ?_
   subst hv1
   have hr1 := RL.get g3 (idx_some e2).2; generalize hghr1 : piece cs3 _ _ = cs4 at hr1
   obtain rfl := elU32 hr1
   refine p_val (o_load1 (v := .int .u32 (((y2).toNat : Int))) to107 H (k := 0) rfl rfl (idx_lt e2) hghr1) ?_
   obtain ⟨y3, e3, hb2⟩ := bnd hb2
   refine p_val (r_addrV (i := (s2.1 : Int).toNat) u63 tsz107 rfl (HS.ownV H (k := 0) rfl) rfl (idx_some e3).1 (idx_lt e3)) ?_
   obtain ⟨y4, e4, hb2⟩ := bnd hb2
   refine p_ofs (a_storeX (k := 0) (v := .int .u32 (((y2).toNat : Int))) (l := [Value.int .u32 (((y2).toNat : Int))]) tsz107 rfl H rfl g3 rfl rfl (cells_one rfl) rpU32 e4) ?_; clear H; rintro w4 ⟨cs5, H, g4⟩
   replace H : HS ⟨S, [], w⟩ S w4 [.osl (sl b1 0 (s2.2).length c1) (y4).length 1 cs5 rs3 107] := H
   refine wpList_nil ?_
   refine b_norm ?_
   refine xn hK13 ?_; clear hK13
   refine wp_region_lit ?_
   refine p_mv q6 ?_
   refine p_val (r_subI rfl rfl) ?_
   refine p_as (v := .int .i64 ((w64 (s2.1 - 1)))) rfl ?_
   refine wpList_nil ?_
   refine x_norm ?_
   replace H : HS ⟨S, [], w⟩ S w4 [.osl (sl b1 0 (s2.2).length c1) (y4).length 1 cs5 rs3 107] := H
   obtain rfl := osi hb2
   exact ⟨((w64 (s2.1 - 1)), y4), _, rfl, (by (repeat (refine keep_cons rfl ?_)); refine keep_sub k8 rfl ?_; exact kcx), ⟨_, _, rfl, H, g4⟩, hh2⟩
  ·replace hb2 := cnd_f hb2 hc2
   refine wp_exit ?_
   refine x_exit ?_
   refine x_exit ?_
   refine b_hit ?_
   refine x_norm ?_
   replace H : HS ⟨S, [], w⟩ S w3 [.osl (v1) (s2.2).length 1 cs3 rs3 107] := H
   obtain rfl := osi hb2
   obtain rfl := osi hh2
   obtain rfl := osi hE5
   exact J4 _ _ _ _ (by (repeat (refine keep_cons rfl ?_)); refine keep_sub k8 rfl ?_; (repeat (refine keep_cons rfl ?_)); refine keep_name k7 ?_; exact kcx) H g3
 ·replace hb1 := cnd_f hb1 hc1
  refine wp_exit ?_
  refine x_exit ?_
  refine x_exit ?_
  refine b_hit ?_
  refine x_norm ?_
  replace H : HS ⟨S, [], w⟩ S w2 [.osl (v1) (s1.2).length 1 cs2 rs2 107] := H
  obtain rfl := osi hb1
  obtain rfl := osi hh1
  obtain rfl := osi hE2
  exact J6 _ _ _ _ (by (repeat (refine keep_cons rfl ?_)); refine keep_sub k3 rfl ?_; (repeat (refine keep_cons rfl ?_)); refine keep_name k2 ?_; exact kcx) H g2
def seneschalref06_Modulus_p (x0 : Int) : Option ((List UInt32)) :=
  bif (x0 == 0) then (some (([(65535 : UInt32), (65535 : UInt32), (65535 : UInt32), (65535 : UInt32), (65535 : UInt32), (65535 : UInt32), (0 : UInt32), (0 : UInt32), (0 : UInt32), (0 : UInt32), (0 : UInt32), (0 : UInt32), (1 : UInt32), (0 : UInt32), (65535 : UInt32), (65535 : UInt32)] : List UInt32))) else (some (([(9553 : UInt32), (64611 : UInt32), (51906 : UInt32), (62393 : UInt32), (40580 : UInt32), (42775 : UInt32), (64173 : UInt32), (48358 : UInt32), (65535 : UInt32), (65535 : UInt32), (65535 : UInt32), (65535 : UInt32), (0 : UInt32), (0 : UInt32), (65535 : UInt32), (65535 : UInt32)] : List UInt32)))
theorem seneschalref06_Modulus_c {S : Mem} {w : World} (hS : Sub S w) {x0 : Int} {r : (List UInt32)} (hF : seneschalref06_Modulus_p x0 = some r) :
    Calls Tryz.prog 71 #[.int .i64 (x0)] w fun e w' => Ext w w' ∧ ∃ (v0' : Value), e = .returned (v0') ∧ RdS (gr S w w') v0' r := by
 refine enter (n := 7) Tryz.func71 rfl rfl rfl ?_
 have H := HS.start hS
 unfold seneschalref06_Modulus_p at hF
 refine sr ?_; intro K1 hK1
 refine p_as (v := .slice none 0 0) rfl ?_
 refine xk hK1 ?_; clear hK1
 refine wp_seq_k ?_; intro K2 hK2
 refine sr ?_; intro K3 hK3
 refine p_mv (v := .int .i64 (x0)) rfl ?_
 refine p_val (r_eqlI rfl rfl) ?_
 refine xk hK3 ?_; clear hK3
 refine c_split (t := (x0 == 0)) rfl (fun hc1 => ?_) (fun hc1 => ?_)
 ·replace hF := cnd_t hF hc1
  refine sr ?_; intro K4 hK4
  have g1 : RL S ([Value.int .u32 (65535)] ++ ([Value.int .u32 (65535)] ++ ([Value.int .u32 (65535)] ++ ([Value.int .u32 (65535)] ++ ([Value.int .u32 (65535)] ++ ([Value.int .u32 (65535)] ++ ([Value.int .u32 (0)] ++ ([Value.int .u32 (0)] ++ ([Value.int .u32 (0)] ++ ([Value.int .u32 (0)] ++ ([Value.int .u32 (0)] ++ ([Value.int .u32 (0)] ++ ([Value.int .u32 (1)] ++ ([Value.int .u32 (0)] ++ ([Value.int .u32 (65535)] ++ ([Value.int .u32 (65535)] ++ ([] : List Value))))))))))))))))) ([(65535 : UInt32), (65535 : UInt32), (65535 : UInt32), (65535 : UInt32), (65535 : UInt32), (65535 : UInt32), (0 : UInt32), (0 : UInt32), (0 : UInt32), (0 : UInt32), (0 : UInt32), (0 : UInt32), (1 : UInt32), (0 : UInt32), (65535 : UInt32), (65535 : UInt32)] : List UInt32) := (RL.cons (rpU32c (x := (65535 : UInt32)) rfl) (RL.cons (rpU32c (x := (65535 : UInt32)) rfl) (RL.cons (rpU32c (x := (65535 : UInt32)) rfl) (RL.cons (rpU32c (x := (65535 : UInt32)) rfl) (RL.cons (rpU32c (x := (65535 : UInt32)) rfl) (RL.cons (rpU32c (x := (65535 : UInt32)) rfl) (RL.cons (rpU32c (x := (0 : UInt32)) rfl) (RL.cons (rpU32c (x := (0 : UInt32)) rfl) (RL.cons (rpU32c (x := (0 : UInt32)) rfl) (RL.cons (rpU32c (x := (0 : UInt32)) rfl) (RL.cons (rpU32c (x := (0 : UInt32)) rfl) (RL.cons (rpU32c (x := (0 : UInt32)) rfl) (RL.cons (rpU32c (x := (1 : UInt32)) rfl) (RL.cons (rpU32c (x := (0 : UInt32)) rfl) (RL.cons (rpU32c (x := (65535 : UInt32)) rfl) (RL.cons (rpU32c (x := (65535 : UInt32)) rfl) RL.nil))))))))))))))))
  refine p_of1 (a_bslice (N := 16) (vals := [(0, .int .u32 (65535)), (1, .int .u32 (65535)), (2, .int .u32 (65535)), (3, .int .u32 (65535)), (4, .int .u32 (65535)), (5, .int .u32 (65535)), (6, .int .u32 (0)), (7, .int .u32 (0)), (8, .int .u32 (0)), (9, .int .u32 (0)), (10, .int .u32 (0)), (11, .int .u32 (0)), (12, .int .u32 (1)), (13, .int .u32 (0)), (14, .int .u32 (65535)), (15, .int .u32 (65535))]) (l := ([Value.int .u32 (65535)] ++ ([Value.int .u32 (65535)] ++ ([Value.int .u32 (65535)] ++ ([Value.int .u32 (65535)] ++ ([Value.int .u32 (65535)] ++ ([Value.int .u32 (65535)] ++ ([Value.int .u32 (0)] ++ ([Value.int .u32 (0)] ++ ([Value.int .u32 (0)] ++ ([Value.int .u32 (0)] ++ ([Value.int .u32 (0)] ++ ([Value.int .u32 (0)] ++ ([Value.int .u32 (1)] ++ ([Value.int .u32 (0)] ++ ([Value.int .u32 (65535)] ++ ([Value.int .u32 (65535)] ++ ([] : List Value)))))))))))))))))) tn63 H rfl rfl rfl g1.len) ?_; clear H; intro w1 v1 H
  generalize ([Value.int .u32 (65535)] ++ ([Value.int .u32 (65535)] ++ ([Value.int .u32 (65535)] ++ ([Value.int .u32 (65535)] ++ ([Value.int .u32 (65535)] ++ ([Value.int .u32 (65535)] ++ ([Value.int .u32 (0)] ++ ([Value.int .u32 (0)] ++ ([Value.int .u32 (0)] ++ ([Value.int .u32 (0)] ++ ([Value.int .u32 (0)] ++ ([Value.int .u32 (0)] ++ ([Value.int .u32 (1)] ++ ([Value.int .u32 (0)] ++ ([Value.int .u32 (65535)] ++ ([Value.int .u32 (65535)] ++ ([] : List Value))))))))))))))))) = cs1 at H g1
  replace H : HS ⟨S, [], w⟩ S w1 [.osl (v1) (([(65535 : UInt32), (65535 : UInt32), (65535 : UInt32), (65535 : UInt32), (65535 : UInt32), (65535 : UInt32), (0 : UInt32), (0 : UInt32), (0 : UInt32), (0 : UInt32), (0 : UInt32), (0 : UInt32), (1 : UInt32), (0 : UInt32), (65535 : UInt32), (65535 : UInt32)] : List UInt32)).length 1 cs1 [] 107] := H
  refine p_as (v := v1) rfl ?_
  refine xk hK4 ?_; clear hK4
  refine wp_ret ?_
  refine x_ret ?_
  obtain ⟨S1, hle1, g3, H1⟩ := H.fixX (k := 0) rfl g1; clear H; have H := H1; clear H1
  replace H : HS ⟨S, [], w⟩ S1 w1 [] := H
  obtain rfl := osi hF
  refine e_1 rfl (q_tmp (v := v1) rfl) ?_
  exact ⟨H.toExt, _, rfl, RdS.mono g3 H.gr⟩
 ·replace hF := cnd_f hF hc1
  refine wp_skip ?_
  refine xn hK2 ?_; clear hK2
  refine sr ?_; intro K5 hK5
  have g2 : RL S ([Value.int .u32 (9553)] ++ ([Value.int .u32 (64611)] ++ ([Value.int .u32 (51906)] ++ ([Value.int .u32 (62393)] ++ ([Value.int .u32 (40580)] ++ ([Value.int .u32 (42775)] ++ ([Value.int .u32 (64173)] ++ ([Value.int .u32 (48358)] ++ ([Value.int .u32 (65535)] ++ ([Value.int .u32 (65535)] ++ ([Value.int .u32 (65535)] ++ ([Value.int .u32 (65535)] ++ ([Value.int .u32 (0)] ++ ([Value.int .u32 (0)] ++ ([Value.int .u32 (65535)] ++ ([Value.int .u32 (65535)] ++ ([] : List Value))))))))))))))))) ([(9553 : UInt32), (64611 : UInt32), (51906 : UInt32), (62393 : UInt32), (40580 : UInt32), (42775 : UInt32), (64173 : UInt32), (48358 : UInt32), (65535 : UInt32), (65535 : UInt32), (65535 : UInt32), (65535 : UInt32), (0 : UInt32), (0 : UInt32), (65535 : UInt32), (65535 : UInt32)] : List UInt32) := (RL.cons (rpU32c (x := (9553 : UInt32)) rfl) (RL.cons (rpU32c (x := (64611 : UInt32)) rfl) (RL.cons (rpU32c (x := (51906 : UInt32)) rfl) (RL.cons (rpU32c (x := (62393 : UInt32)) rfl) (RL.cons (rpU32c (x := (40580 : UInt32)) rfl) (RL.cons (rpU32c (x := (42775 : UInt32)) rfl) (RL.cons (rpU32c (x := (64173 : UInt32)) rfl) (RL.cons (rpU32c (x := (48358 : UInt32)) rfl) (RL.cons (rpU32c (x := (65535 : UInt32)) rfl) (RL.cons (rpU32c (x := (65535 : UInt32)) rfl) (RL.cons (rpU32c (x := (65535 : UInt32)) rfl) (RL.cons (rpU32c (x := (65535 : UInt32)) rfl) (RL.cons (rpU32c (x := (0 : UInt32)) rfl) (RL.cons (rpU32c (x := (0 : UInt32)) rfl) (RL.cons (rpU32c (x := (65535 : UInt32)) rfl) (RL.cons (rpU32c (x := (65535 : UInt32)) rfl) RL.nil))))))))))))))))
  refine p_of1 (a_bslice (N := 16) (vals := [(0, .int .u32 (9553)), (1, .int .u32 (64611)), (2, .int .u32 (51906)), (3, .int .u32 (62393)), (4, .int .u32 (40580)), (5, .int .u32 (42775)), (6, .int .u32 (64173)), (7, .int .u32 (48358)), (8, .int .u32 (65535)), (9, .int .u32 (65535)), (10, .int .u32 (65535)), (11, .int .u32 (65535)), (12, .int .u32 (0)), (13, .int .u32 (0)), (14, .int .u32 (65535)), (15, .int .u32 (65535))]) (l := ([Value.int .u32 (9553)] ++ ([Value.int .u32 (64611)] ++ ([Value.int .u32 (51906)] ++ ([Value.int .u32 (62393)] ++ ([Value.int .u32 (40580)] ++ ([Value.int .u32 (42775)] ++ ([Value.int .u32 (64173)] ++ ([Value.int .u32 (48358)] ++ ([Value.int .u32 (65535)] ++ ([Value.int .u32 (65535)] ++ ([Value.int .u32 (65535)] ++ ([Value.int .u32 (65535)] ++ ([Value.int .u32 (0)] ++ ([Value.int .u32 (0)] ++ ([Value.int .u32 (65535)] ++ ([Value.int .u32 (65535)] ++ ([] : List Value)))))))))))))))))) tn63 H rfl rfl rfl g2.len) ?_; clear H; intro w2 v2 H
  generalize ([Value.int .u32 (9553)] ++ ([Value.int .u32 (64611)] ++ ([Value.int .u32 (51906)] ++ ([Value.int .u32 (62393)] ++ ([Value.int .u32 (40580)] ++ ([Value.int .u32 (42775)] ++ ([Value.int .u32 (64173)] ++ ([Value.int .u32 (48358)] ++ ([Value.int .u32 (65535)] ++ ([Value.int .u32 (65535)] ++ ([Value.int .u32 (65535)] ++ ([Value.int .u32 (65535)] ++ ([Value.int .u32 (0)] ++ ([Value.int .u32 (0)] ++ ([Value.int .u32 (65535)] ++ ([Value.int .u32 (65535)] ++ ([] : List Value))))))))))))))))) = cs2 at H g2
  replace H : HS ⟨S, [], w⟩ S w2 [.osl (v2) (([(9553 : UInt32), (64611 : UInt32), (51906 : UInt32), (62393 : UInt32), (40580 : UInt32), (42775 : UInt32), (64173 : UInt32), (48358 : UInt32), (65535 : UInt32), (65535 : UInt32), (65535 : UInt32), (65535 : UInt32), (0 : UInt32), (0 : UInt32), (65535 : UInt32), (65535 : UInt32)] : List UInt32)).length 1 cs2 [] 107] := H
  refine p_as (v := v2) rfl ?_
  refine xk hK5 ?_; clear hK5
  refine wp_ret ?_
  obtain ⟨S2, hle2, g4, H1⟩ := H.fixX (k := 0) rfl g2; clear H; have H := H1; clear H1
  replace H : HS ⟨S, [], w⟩ S2 w2 [] := H
  obtain rfl := osi hF
  refine e_1 rfl (q_tmp (v := v2) rfl) ?_
  exact ⟨H.toExt, _, rfl, RdS.mono g4 H.gr⟩
def seneschalref06_Sum_p (x0 : Int) (x1 : List UInt32) (x2 : List UInt32) : Option ((List UInt32)) :=
  Option.bind (seneschalref06_Add_p x1 x2) fun y1 => Option.bind (seneschalref06_Modulus_p x0) fun y2 => Option.bind (seneschalref06_Left_p y1 y2) fun y3 => some (y3)
theorem seneschalref06_Sum_c {S : Mem} {w : World} (hS : Sub S w) {x0 : Int} {v1_ : Value} {x1 : List UInt32} (h1_ : RdS S v1_ x1) {v2_ : Value} {x2 : List UInt32} (h2_ : RdS S v2_ x2) {r : (List UInt32)} (hF : seneschalref06_Sum_p x0 x1 x2 = some r) :
    Calls Tryz.prog 106 #[.int .i64 (x0), v1_, v2_] w fun e w' => Ext w w' ∧ ∃ (v0' : Value), e = .returned (v0') ∧ RdS (gr S w w') v0' r := by
 refine enter (n := 13) Tryz.func106 rfl rfl rfl ?_
 have H := HS.start hS
 unfold seneschalref06_Sum_p at hF
 refine sr ?_; intro K1 hK1
 refine p_as (v := .slice none 0 0) rfl ?_
 refine xk hK1 ?_; clear hK1
 refine sr ?_; intro K2 hK2
 refine p_mv (v := v1_) rfl ?_
 refine p_mv (v := v2_) rfl ?_
 obtain ⟨y1, e1, hF⟩ := bnd hF
 refine p_call (l := [v1_, v2_]) is150 rfl ?_
 refine (seneschalref06_Add_c H.sub h1_ h2_ e1).mono ?_; rintro _ w1 ⟨hx, v1, rfl, g1⟩
 have hle1 := gr_le (w' := w1) H.sub; replace H := H.call hx; clear hx; generalize gr S w w1 = S1 at hle1 H g1
 replace h1_ := RdS.mono h1_ hle1
 replace h2_ := RdS.mono h2_ hle1
 refine p_mv (v := .int .i64 (x0)) rfl ?_
 obtain ⟨y2, e2, hF⟩ := bnd hF
 refine p_call (l := [.int .i64 (x0)]) is71 rfl ?_
 refine (seneschalref06_Modulus_c H.sub e2).mono ?_; rintro _ w2 ⟨hx, v2, rfl, g2⟩
 have hle2 := gr_le (w' := w2) H.sub; replace H := H.call hx; clear hx; generalize gr S1 w1 w2 = S2 at hle2 H g2
 replace g1 := RdS.mono g1 hle2
 obtain ⟨y3, e3, hF⟩ := bnd hF
 refine p_call (l := [v1, v2]) is70 rfl ?_
 refine (seneschalref06_Left_c H.sub g1 g2 e3).mono ?_; rintro _ w3 ⟨hx, v3, rfl, g3⟩
 have hle3 := gr_le (w' := w3) H.sub; replace H := H.call hx; clear hx; generalize gr S2 w2 w3 = S3 at hle3 H g3
 replace g1 := RdS.mono g1 hle3
 replace g2 := RdS.mono g2 hle3
 refine p_as (v := v3) rfl ?_
 refine xk hK2 ?_; clear hK2
 refine wp_ret ?_
 obtain rfl := osi hF
 refine e_1 rfl (q_tmp (v := v3) rfl) ?_
 exact ⟨H.toExt, _, rfl, RdS.mono g3 H.gr⟩
def seneschalref06_Product_p (x0 : Int) (x1 : List UInt32) (x2 : List UInt32) : Option ((List UInt32)) :=
  Option.bind (seneschalref06_Mul_p x1 x2) fun y1 => Option.bind (seneschalref06_Modulus_p x0) fun y2 => Option.bind (seneschalref06_Left_p y1 y2) fun y3 => some (y3)
theorem seneschalref06_Product_c {S : Mem} {w : World} (hS : Sub S w) {x0 : Int} {v1_ : Value} {x1 : List UInt32} (h1_ : RdS S v1_ x1) {v2_ : Value} {x2 : List UInt32} (h2_ : RdS S v2_ x2) {r : (List UInt32)} (hF : seneschalref06_Product_p x0 x1 x2 = some r) :
    Calls Tryz.prog 65 #[.int .i64 (x0), v1_, v2_] w fun e w' => Ext w w' ∧ ∃ (v0' : Value), e = .returned (v0') ∧ RdS (gr S w w') v0' r := by
 refine enter (n := 13) Tryz.func65 rfl rfl rfl ?_
 have H := HS.start hS
 unfold seneschalref06_Product_p at hF
 refine sr ?_; intro K1 hK1
 refine p_as (v := .slice none 0 0) rfl ?_
 refine xk hK1 ?_; clear hK1
 refine sr ?_; intro K2 hK2
 refine p_mv (v := v1_) rfl ?_
 refine p_mv (v := v2_) rfl ?_
 obtain ⟨y1, e1, hF⟩ := bnd hF
 refine p_call (l := [v1_, v2_]) is123 rfl ?_
 refine (seneschalref06_Mul_c H.sub h1_ h2_ e1).mono ?_; rintro _ w1 ⟨hx, v1, rfl, g1⟩
 have hle1 := gr_le (w' := w1) H.sub; replace H := H.call hx; clear hx; generalize gr S w w1 = S1 at hle1 H g1
 replace h1_ := RdS.mono h1_ hle1
 replace h2_ := RdS.mono h2_ hle1
 refine p_mv (v := .int .i64 (x0)) rfl ?_
 obtain ⟨y2, e2, hF⟩ := bnd hF
 refine p_call (l := [.int .i64 (x0)]) is71 rfl ?_
 refine (seneschalref06_Modulus_c H.sub e2).mono ?_; rintro _ w2 ⟨hx, v2, rfl, g2⟩
 have hle2 := gr_le (w' := w2) H.sub; replace H := H.call hx; clear hx; generalize gr S1 w1 w2 = S2 at hle2 H g2
 replace g1 := RdS.mono g1 hle2
 obtain ⟨y3, e3, hF⟩ := bnd hF
 refine p_call (l := [v1, v2]) is70 rfl ?_
 refine (seneschalref06_Left_c H.sub g1 g2 e3).mono ?_; rintro _ w3 ⟨hx, v3, rfl, g3⟩
 have hle3 := gr_le (w' := w3) H.sub; replace H := H.call hx; clear hx; generalize gr S2 w2 w3 = S3 at hle3 H g3
 replace g1 := RdS.mono g1 hle3
 replace g2 := RdS.mono g2 hle3
 refine p_as (v := v3) rfl ?_
 refine xk hK2 ?_; clear hK2
 refine wp_ret ?_
 obtain rfl := osi hF
 refine e_1 rfl (q_tmp (v := v3) rfl) ?_
 exact ⟨H.toExt, _, rfl, RdS.mono g3 H.gr⟩
def seneschalref06_Opposite_p (x0 : Int) (x1 : List UInt32) : Option ((List UInt32)) :=
  Option.bind (seneschalref06_Modulus_p x0) fun y1 => Option.bind (seneschalref06_Modulus_p x0) fun y2 => Option.bind (seneschalref06_Left_p x1 y2) fun y3 => Option.bind (seneschalref06_Sub_p y1 y3) fun y4 => Option.bind (seneschalref06_Modulus_p x0) fun y5 => Option.bind (seneschalref06_Left_p y4 y5) fun y6 => some (y6)
theorem seneschalref06_Opposite_c {S : Mem} {w : World} (hS : Sub S w) {x0 : Int} {v1_ : Value} {x1 : List UInt32} (h1_ : RdS S v1_ x1) {r : (List UInt32)} (hF : seneschalref06_Opposite_p x0 x1 = some r) :
    Calls Tryz.prog 152 #[.int .i64 (x0), v1_] w fun e w' => Ext w w' ∧ ∃ (v0' : Value), e = .returned (v0') ∧ RdS (gr S w w') v0' r := by
 refine enter (n := 15) Tryz.func152 rfl rfl rfl ?_
 have H := HS.start hS
 unfold seneschalref06_Opposite_p at hF
 refine sr ?_; intro K1 hK1
 refine p_as (v := .slice none 0 0) rfl ?_
 refine xk hK1 ?_; clear hK1
 refine sr ?_; intro K2 hK2
 refine p_mv (v := .int .i64 (x0)) rfl ?_
 obtain ⟨y1, e1, hF⟩ := bnd hF
 refine p_call (l := [.int .i64 (x0)]) is71 rfl ?_
 refine (seneschalref06_Modulus_c H.sub e1).mono ?_; rintro _ w1 ⟨hx, v1, rfl, g1⟩
 have hle1 := gr_le (w' := w1) H.sub; replace H := H.call hx; clear hx; generalize gr S w w1 = S1 at hle1 H g1
 replace h1_ := RdS.mono h1_ hle1
 refine p_mv (v := v1_) rfl ?_
 refine p_mv (v := .int .i64 (x0)) rfl ?_
 obtain ⟨y2, e2, hF⟩ := bnd hF
 refine p_call (l := [.int .i64 (x0)]) is71 rfl ?_
 refine (seneschalref06_Modulus_c H.sub e2).mono ?_; rintro _ w2 ⟨hx, v2, rfl, g2⟩
 have hle2 := gr_le (w' := w2) H.sub; replace H := H.call hx; clear hx; generalize gr S1 w1 w2 = S2 at hle2 H g2
 replace h1_ := RdS.mono h1_ hle2
 replace g1 := RdS.mono g1 hle2
 obtain ⟨y3, e3, hF⟩ := bnd hF
 refine p_call (l := [v1_, v2]) is70 rfl ?_
 refine (seneschalref06_Left_c H.sub h1_ g2 e3).mono ?_; rintro _ w3 ⟨hx, v3, rfl, g3⟩
 have hle3 := gr_le (w' := w3) H.sub; replace H := H.call hx; clear hx; generalize gr S2 w2 w3 = S3 at hle3 H g3
 replace h1_ := RdS.mono h1_ hle3
 replace g1 := RdS.mono g1 hle3
 replace g2 := RdS.mono g2 hle3
 obtain ⟨y4, e4, hF⟩ := bnd hF
 refine p_call (l := [v1, v3]) is121 rfl ?_
 refine (seneschalref06_Sub_c H.sub g1 g3 e4).mono ?_; rintro _ w4 ⟨hx, v4, rfl, g4⟩
 have hle4 := gr_le (w' := w4) H.sub; replace H := H.call hx; clear hx; generalize gr S3 w3 w4 = S4 at hle4 H g4
 replace g1 := RdS.mono g1 hle4
 replace g3 := RdS.mono g3 hle4
 refine p_mv (v := .int .i64 (x0)) rfl ?_
 obtain ⟨y5, e5, hF⟩ := bnd hF
 refine p_call (l := [.int .i64 (x0)]) is71 rfl ?_
 refine (seneschalref06_Modulus_c H.sub e5).mono ?_; rintro _ w5 ⟨hx, v5, rfl, g5⟩
 have hle5 := gr_le (w' := w5) H.sub; replace H := H.call hx; clear hx; generalize gr S4 w4 w5 = S5 at hle5 H g5
 replace g4 := RdS.mono g4 hle5
 obtain ⟨y6, e6, hF⟩ := bnd hF
 refine p_call (l := [v4, v5]) is70 rfl ?_
 refine (seneschalref06_Left_c H.sub g4 g5 e6).mono ?_; rintro _ w6 ⟨hx, v6, rfl, g6⟩
 have hle6 := gr_le (w' := w6) H.sub; replace H := H.call hx; clear hx; generalize gr S5 w5 w6 = S6 at hle6 H g6
 replace g4 := RdS.mono g4 hle6
 replace g5 := RdS.mono g5 hle6
 refine p_as (v := v6) rfl ?_
 refine xk hK2 ?_; clear hK2
 refine wp_ret ?_
 obtain rfl := osi hF
 refine e_1 rfl (q_tmp (v := v6) rfl) ?_
 exact ⟨H.toExt, _, rfl, RdS.mono g6 H.gr⟩
end Go.Proofs.YtmbcolbbekbccaaGreat
namespace Go.Proofs.YtmbcolbbekbccaaGreat
open Go Go.RowKit
attribute [local irreducible] wpList wpT Code.wp Calls Code.rounds
theorem is118 : IsFn Tryz.prog 118 := isFn Tryz.func118 (by kernel_rfl) (by kernel_rfl)
theorem is119 : IsFn Tryz.prog 119 := isFn Tryz.func119 (by kernel_rfl) (by kernel_rfl)
theorem is120 : IsFn Tryz.prog 120 := isFn Tryz.func120 (by kernel_rfl) (by kernel_rfl)
theorem is122 : IsFn Tryz.prog 122 := isFn Tryz.func122 (by kernel_rfl) (by kernel_rfl)
def seneschalref06_half_b0 (x0 : List UInt32) (s1 : UInt32 × Int × (List UInt32)) : Option ((UInt32 × Int × (List UInt32)) ⊕ ((List UInt32))) :=
  bif decide ((0 : Int) ≤ s1.2.1) then (Option.bind (idx x0 s1.2.1) fun y2 => Option.bind (idx s1.2.2 s1.2.1) fun y3 => Option.bind (setL s1.2.2 (s1.2.1 : Int) (i32 (shrI .u32 ((((i32 (shlI .u32 ((s1.1).toNat : Int) 16)) ||| y2)).toNat : Int) 1))) fun y4 => some (.inl (((((i32 (shlI .u32 ((s1.1).toNat : Int) 16)) ||| y2) &&& (1 : UInt32)), (w64 (s1.2.1 - 1)), y4)))) else (some (.inr (s1.2.2)))
def seneschalref06_half_p (x0 : List UInt32) : Option ((List UInt32)) :=
  Option.bind (mkL ((x0).length : Int) (0 : UInt32)) fun y1 => Option.bind (Option.bind (iter (seneschalref06_half_b0 x0) (((0 : UInt32), (w64 (((x0).length : Int) - 1)), y1))) (fun e => some (e))) (fun t1 => Option.bind (seneschalref06_trim_p t1) fun y5 => some (y5))
theorem seneschalref06_half_c {S : Mem} {w : World} (hS : Sub S w) {v0_ : Value} {x0 : List UInt32} (h0_ : RdS S v0_ x0) {r : (List UInt32)} (hF : seneschalref06_half_p x0 = some r) :
    Calls Tryz.prog 119 #[v0_] w fun e w' => Ext w w' ∧ ∃ (v0' : Value), e = .returned (v0') ∧ RdS (gr S w w') v0' r := by
 refine enter (n := 33) Tryz.func119 rfl rfl rfl ?_
 have H := HS.start hS
 unfold seneschalref06_half_p at hF
 refine sr ?_; intro K1 hK1
 refine p_as (v := .slice none 0 0) rfl ?_
 refine xk hK1 ?_; clear hK1
 refine sr ?_; intro K2 hK2
 refine p_mv (v := v0_) rfl ?_
 refine p_val (r_lenR' u63 rfl h0_ H.sub) ?_
 obtain ⟨y1, e1, hF⟩ := bnd hF
 refine p_of1 (a_makeX (zx := (0 : UInt32)) tn63 rfl H rfl rfl (rpU32c (x := (0 : UInt32)) rfl) e1 (Int.le_refl _) (mkL_some e1).2.1) ?_; clear H; rintro w1 v1 ⟨cs1, rs1, H, g1⟩
 replace H : HS ⟨S, [], w⟩ S w1 [.osl (v1) (y1).length 1 cs1 rs1 107] := H
 refine p_as (v := v1) rfl ?_
 refine xk hK2 ?_; clear hK2
 refine sr ?_; intro K3 hK3
 refine p_as (v := .int .u32 (0)) rfl ?_
 refine xk hK3 ?_; clear hK3
 refine wp_seq_k ?_; intro K4 hK4
 refine nameF fun m1 k1 => ?_
 obtain ⟨t1, hE1, hF1⟩ := bnd hF
 have J1 : ∀ (cs5 rs3 : List Value) (m4 : FM) (w4 : World), (∀ t, has [4, 5, 6, 10, 11, 12, 13, 14, 15, 16, 17, 18, 19, 20, 21, 22, 23, 24, 25, 26, 27, 28, 29, 30] t = false → look m4 t = look m1 t) → HS ⟨S, [], w⟩ S w4 [.osl (v1) (t1).length 1 cs5 rs3 107] → RL S cs5 t1 → K4 (fr 33 m4) w4 := by
  clear H; intro cs5 rs3 m4 w4 k5 H g4
  have q5 : look m4 3 = v1 := (k5 3 rfl).trans (k1 3)
  refine hK4 _ _ ?_
  refine sr ?_; intro K11 hK11
  refine p_mv (v := v1) q5 ?_
  obtain ⟨S1, hle1, g5, H1⟩ := H.fixX (k := 0) rfl g4; clear H; have H := H1; clear H1
  replace H : HS ⟨S, [], w⟩ S1 w4 [] := H
  obtain ⟨y5, e5, hF1⟩ := bnd hF1
  refine p_call (l := [v1]) is84 rfl ?_
  refine (seneschalref06_trim_c H.sub g5 e5).mono ?_; rintro _ w5 ⟨hx, v4, rfl, g6⟩
  have hle2 := gr_le (w' := w5) H.sub; replace H := H.call hx; clear hx; generalize gr S1 w4 w5 = S2 at hle2 H g6
  replace g5 := RdS.mono g5 hle2
  refine p_as (v := v4) rfl ?_
  refine xk hK11 ?_; clear hK11
  refine wp_ret ?_
  obtain rfl := osi hF1
  refine e_1 rfl (q_tmp (v := v4) rfl) ?_
  exact ⟨H.toExt, _, rfl, RdS.mono g6 H.gr⟩
 refine sr ?_; intro K5 hK5
 refine p_mv (v := v0_) (k1 0) ?_
 refine p_val (r_lenR' u63 rfl h0_ H.sub) ?_
 refine p_val (r_subI rfl rfl) ?_
 refine p_as (v := .int .i64 ((w64 (((x0).length : Int) - 1)))) rfl ?_
 refine xk hK5 ?_; clear hK5
 refine wp_block ?_
 refine nameF fun m2 k2 => ?_
 obtain ⟨out1, hL1, hE2⟩ := bnd hE1
 replace H : HS ⟨S, [], w⟩ S w1 [.osl (v1) (y1).length 1 cs1 rs1 107] := H
 refine loopI [4, 5, 6, 13, 14, 15, 16, 17, 18, 19, 20, 21, 22, 23, 24, 25, 26, 27, 28, 29, 30] (fun (s1 : UInt32 × Int × (List UInt32)) (m3 : FM) (w2 : World) => ∃ (cs2 rs2 : List Value), look m3 4 = .int .u32 (((s1.1).toNat : Int)) ∧ look m3 5 = .int .i64 (s1.2.1) ∧ HS ⟨S, [], w⟩ S w2 [.osl (v1) (s1.2.2).length 1 cs2 rs2 107] ∧ RL S cs2 s1.2.2) hL1 ⟨_, _, ((k2 4).trans (k1 4)), (k2 5), H, g1⟩ ?_
 clear H; intro k4 s1 m3 w2 k3 hI1 o2 hb1 hh1; obtain ⟨cs2, rs2, q1, q2, H, g2⟩ := hI1
 have q3 : look m3 0 = v0_ := (k3 0 rfl).trans ((k2 0).trans (k1 0))
 have q4 : look m3 3 = v1 := (k3 3 rfl).trans ((k2 3).trans (k1 3))
 unfold seneschalref06_half_b0 at hb1
 refine wp_seq_k ?_; intro K6 hK6
 refine sr ?_; intro K7 hK7
 refine p_mv q2 ?_
 refine p_val (r_geqI rfl rfl) ?_
 refine xk hK7 ?_; clear hK7
 refine c_split (t := decide ((0 : Int) ≤ s1.2.1)) rfl (fun hc1 => ?_) (fun hc1 => ?_)
 ·replace hb1 := cnd_t hb1 hc1
  refine wp_skip ?_
  refine xn hK6 ?_; clear hK6
  refine wp_seq_k ?_; intro K8 hK8
  refine wp_block ?_
  refine sr ?_; intro K9 hK9
  refine p_mv q1 ?_
  refine p_val (r_shl rfl rfl (by decide) (i32_shl _ _)) ?_
  refine p_mv (v := v0_) q3 ?_
  refine p_mv q2 ?_
  obtain ⟨y2, e2, hb1⟩ := bnd hb1
  obtain ⟨b1, o3, N1, c1, cs3, hv1, hi1, hc2, hr1⟩ := h0_.get (idx_some e2).2
  refine p_val (r_addrV (i := (s1.2.1 : Int).toNat) u63 tsz107 rfl hv1 rfl (idx_some e2).1 hi1) ?_
  obtain rfl := elU32 hr1
  refine p_val (s_load1 (p := (o3 + (s1.2.1 : Int).toNat * 1)) (o := 0) (v := .int .u32 (((y2).toNat : Int))) to107 H.sub rfl hc2 rfl) ?_
  refine p_val (r_bits (bo := .or) (by simp) rfl rfl (i32_or _ _)) ?_
  refine p_as (v := .int .u32 (((((i32 (shlI .u32 ((s1.1).toNat : Int) 16)) ||| y2)).toNat : Int))) rfl ?_
  refine xk hK9 ?_; clear hK9
  refine sr ?_; intro K10 hK10
  refine p_mv (v := v1) q4 ?_
  refine p_mv q2 ?_
  refine p_mv (v := .int .u32 (((((i32 (shlI .u32 ((s1.1).toNat : Int) 16)) ||| y2)).toNat : Int))) rfl ?_
  refine p_val (r_shr rfl rfl (by decide) (i32_shr _ _)) ?_
  obtain ⟨y3, e3, hb1⟩ := bnd hb1
  obtain ⟨b2, c2, hv2⟩ := H.ownAt (k := 0) rfl (idx_lt e3)
  refine p_val (r_addrV (i := (s1.2.1 : Int).toNat) u63 tsz107 rfl hv2 rfl (idx_some e3).1 (idx_lt e3)) ?_
  subst hv2
  obtain ⟨y4, e4, hb1⟩ := bnd hb1
  refine p_ofs (a_storeX (k := 0) (v := .int .u32 ((((i32 (shrI .u32 ((((i32 (shlI .u32 ((s1.1).toNat : Int) 16)) ||| y2)).toNat : Int) 1))).toNat : Int))) (l := [Value.int .u32 ((((i32 (shrI .u32 ((((i32 (shlI .u32 ((s1.1).toNat : Int) 16)) ||| y2)).toNat : Int) 1))).toNat : Int))]) tsz107 rfl H rfl g2 rfl rfl (cells_one rfl) rpU32 e4) ?_; clear H; rintro w3 ⟨cs4, H, g3⟩
  replace H : HS ⟨S, [], w⟩ S w3 [.osl (sl b2 0 (s1.2.2).length c2) (y4).length 1 cs4 rs2 107] := H
  refine xk hK10 ?_; clear hK10
  refine wp_region_lit ?_
  refine p_mv (v := .int .u32 (((((i32 (shlI .u32 ((s1.1).toNat : Int) 16)) ||| y2)).toNat : Int))) rfl ?_
  refine p_val (r_bits (bo := .and) (by simp) rfl rfl (i32_and _ (1 : UInt32))) ?_
  refine p_as (v := .int .u32 ((((((i32 (shlI .u32 ((s1.1).toNat : Int) 16)) ||| y2) &&& (1 : UInt32))).toNat : Int))) rfl ?_
  refine wpList_nil ?_
  refine b_norm ?_
  refine xn hK8 ?_; clear hK8
  refine wp_region_lit ?_
  refine p_mv q2 ?_
  refine p_val (r_subI rfl rfl) ?_
  refine p_as (v := .int .i64 ((w64 (s1.2.1 - 1)))) rfl ?_
  refine wpList_nil ?_
  refine x_norm ?_
  replace H : HS ⟨S, [], w⟩ S w3 [.osl (sl b2 0 (s1.2.2).length c2) (y4).length 1 cs4 rs2 107] := H
  obtain rfl := osi hb1
  exact ⟨((((i32 (shlI .u32 ((s1.1).toNat : Int) 16)) ||| y2) &&& (1 : UInt32)), (w64 (s1.2.1 - 1)), y4), _, rfl, (by (repeat (refine keep_cons rfl ?_)); refine keep_sub k3 rfl ?_; exact kcx), ⟨_, _, rfl, rfl, H, g3⟩, hh1⟩
 ·replace hb1 := cnd_f hb1 hc1
  refine wp_exit ?_
  refine x_exit ?_
  refine x_exit ?_
  refine b_hit ?_
  refine x_norm ?_
  replace H : HS ⟨S, [], w⟩ S w2 [.osl (v1) (s1.2.2).length 1 cs2 rs2 107] := H
  obtain rfl := osi hb1
  obtain rfl := osi hh1
  obtain rfl := osi hE2
  exact J1 _ _ _ _ (by (repeat (refine keep_cons rfl ?_)); refine keep_sub k3 rfl ?_; (repeat (refine keep_cons rfl ?_)); refine keep_name k2 ?_; exact kcx) H g2
def seneschalref06_odd_p (x0 : List UInt32) : Option (Bool) :=
  Option.bind (bif decide ((0 : Int) < ((x0).length : Int)) then (Option.bind (idx x0 0) fun y1 => some (((((i32 (Int.tmod ((y1).toNat : Int) 2))).toNat : Int) == 1))) else (some (false))) (fun t1 => some (t1))
theorem seneschalref06_odd_c {S : Mem} {w : World} (hS : Sub S w) {v0_ : Value} {x0 : List UInt32} (h0_ : RdS S v0_ x0) {r : Bool} (hF : seneschalref06_odd_p x0 = some r) :
    Calls Tryz.prog 118 #[v0_] w fun e w' => e = .returned (.bool (r)) ∧ Ext w w' := by
 refine enter (n := 13) Tryz.func118 rfl rfl rfl ?_
 have H := HS.start hS
 unfold seneschalref06_odd_p at hF
 refine sr ?_; intro K1 hK1
 refine p_as (v := .bool (false)) rfl ?_
 refine xk hK1 ?_; clear hK1
 refine sr ?_; intro K2 hK2
 refine p_mv (v := v0_) rfl ?_
 refine p_val (r_lenR' u63 rfl h0_ H.sub) ?_
 refine p_val (r_gtrI rfl rfl) ?_
 refine p_mv (v := .bool (decide ((0 : Int) < ((x0).length : Int)))) rfl ?_
 refine nameL fun m1 k1 => ?_
 refine gs_at 6 fun K3 hK3 R1 hR1 => ?_
 obtain ⟨t1, hE1, hF1⟩ := bnd hF
 have J1 : ∀ (m2 : FM) (w1 : World), (∀ t, has [7, 8, 9, 10, 11, 12] t = false → look m2 t = look m1 t) → look m2 12 = .bool (t1) → HS ⟨S, [], w⟩ S w1 [] → K3 m2 w1 := by
  clear H; intro m2 w1 k2 q1 H
  refine hK3 _ _ ?_
  refine p_as q1 ?_
  refine xk hK2 ?_; clear hK2
  refine wp_ret ?_
  obtain rfl := osi hF1
  refine e_1 rfl (q_tmp (v := .bool (t1)) rfl) ?_
  exact ⟨rfl, H.toExt⟩
 refine p_gs (j := 3) (gvl_at rfl rfl (k1 6)) (fun hb1 => ?_) (fun hb1 => ?_)
 ·replace hE1 := cnd_t hE1 hb1
  refine p_want (gvl_at rfl rfl (k1 6)) hb1 ?_
  refine p_mv (v := v0_) (k1 0) ?_
  refine p_want (gvl_at rfl rfl (k1 6)) hb1 ?_
  obtain ⟨y1, e1, hE1⟩ := bnd hE1
  obtain ⟨b1, o2, N1, c1, cs1, hv1, hi1, hc1, hr1⟩ := h0_.get (idx_some e1).2
  refine p_val (r_addrV (i := (0 : Int).toNat) u63 tsz107 rfl hv1 rfl (idx_some e1).1 hi1) ?_
  obtain rfl := elU32 hr1
  refine p_want (gvl_at rfl rfl (k1 6)) hb1 ?_
  refine p_val (s_load1 (p := (o2 + (0 : Int).toNat * 1)) (o := 0) (v := .int .u32 (((y1).toNat : Int))) to107 H.sub rfl hc1 rfl) ?_
  refine p_want (gvl_at rfl rfl (k1 6)) hb1 ?_
  refine p_val (r_rem (r := (((i32 (Int.tmod ((y1).toNat : Int) 2))).toNat : Int)) rfl rfl (by decide) (i32_rem _ _ (by omega))) ?_
  refine p_want (gvl_at rfl rfl (k1 6)) hb1 ?_
  refine p_val (r_eqlI rfl rfl) ?_
  refine p_val (r_pickt (v := .bool (((((i32 (Int.tmod ((y1).toNat : Int) 2))).toNat : Int) == 1))) (k1 6) hb1 rfl) ?_
  refine hR1 _ _ ?_
  replace H : HS ⟨S, [], w⟩ S w [] := H
  obtain rfl := osi hE1
  exact J1 _ _ kcx rfl H
 ·replace hE1 := cnd_f hE1 hb1
  refine p_skip (gvl_at rfl rfl (k1 6)) hb1 ?_
  rw [put_fr]
  refine p_skip (gvl_at rfl rfl (k1 6)) hb1 ?_
  rw [put_fr]
  refine p_skip (gvl_at rfl rfl (k1 6)) hb1 ?_
  rw [put_fr]
  refine p_skip (gvl_at rfl rfl (k1 6)) hb1 ?_
  rw [put_fr]
  refine p_skip (gvl_at rfl rfl (k1 6)) hb1 ?_
  rw [put_fr]
  refine p_val (r_pickf (v := .bool (false)) (k1 6) hb1 rfl) ?_
  refine hR1 _ _ ?_
  replace H : HS ⟨S, [], w⟩ S w [] := H
  obtain rfl := osi hE1
  exact J1 _ _ kcx rfl H
def seneschalref06_halved_p (x0 : List UInt32) (x1 : List UInt32) : Option ((List UInt32)) :=
  Option.bind (Option.bind (seneschalref06_odd_p x0) fun y1 => bif y1 then (Option.bind (seneschalref06_Add_p x0 x1) fun y2 => some (y2)) else (some (x0))) (fun t1 => Option.bind (seneschalref06_half_p t1) fun y3 => some (y3))
theorem seneschalref06_halved_c {S : Mem} {w : World} (hS : Sub S w) {v0_ : Value} {x0 : List UInt32} (h0_ : RdS S v0_ x0) {v1_ : Value} {x1 : List UInt32} (h1_ : RdS S v1_ x1) {r : (List UInt32)} (hF : seneschalref06_halved_p x0 x1 = some r) :
    Calls Tryz.prog 120 #[v0_, v1_] w fun e w' => Ext w w' ∧ ∃ (v0' : Value), e = .returned (v0') ∧ RdS (gr S w w') v0' r := by
 refine enter (n := 12) Tryz.func120 rfl rfl rfl ?_
 have H := HS.start hS
 unfold seneschalref06_halved_p at hF
 refine sr ?_; intro K1 hK1
 refine p_as (v := .slice none 0 0) rfl ?_
 refine xk hK1 ?_; clear hK1
 refine wp_seq_k ?_; intro K2 hK2
 refine nameF fun m1 k1 => ?_
 obtain ⟨t1, hE1, hF1⟩ := bnd hF
 have J1 : ∀ (v2 : Value) (S2 : Mem) (m2 : FM) (w3 : World), (∀ t, has [0, 5, 6, 7, 8, 9] t = false → look m2 t = look m1 t) → look m2 0 = v2 → Mem.le S S2 → HS ⟨S, [], w⟩ S2 w3 [] → RdS S2 v2 t1 → K2 (fr 12 m2) w3 := by
  clear H; intro v2 S2 m2 w3 k2 q1 hle2 H g2
  replace h0_ := RdS.mono h0_ hle2
  replace h1_ := RdS.mono h1_ hle2
  refine hK2 _ _ ?_
  refine sr ?_; intro K4 hK4
  refine p_mv (v := v2) q1 ?_
  obtain ⟨y3, e3, hF1⟩ := bnd hF1
  refine p_call (l := [v2]) is119 rfl ?_
  refine (seneschalref06_half_c H.sub g2 e3).mono ?_; rintro _ w4 ⟨hx, v3, rfl, g3⟩
  have hle3 := gr_le (w' := w4) H.sub; replace H := H.call hx; clear hx; generalize gr S2 w3 w4 = S3 at hle3 H g3
  replace g2 := RdS.mono g2 hle3
  refine p_as (v := v3) rfl ?_
  refine xk hK4 ?_; clear hK4
  refine wp_ret ?_
  obtain rfl := osi hF1
  refine e_1 rfl (q_tmp (v := v3) rfl) ?_
  exact ⟨H.toExt, _, rfl, RdS.mono g3 H.gr⟩
 refine sr ?_; intro K3 hK3
 refine p_mv (v := v0_) (k1 0) ?_
 obtain ⟨y1, e1, hE1⟩ := bnd hE1
 refine p_call (l := [v0_]) is118 rfl ?_
 refine (seneschalref06_odd_c H.sub h0_ e1).mono ?_; rintro _ w1 ⟨rfl, hx⟩; replace H := H.ext hx; clear hx
 refine xk hK3 ?_; clear hK3
 refine c_split (t := y1) rfl (fun hc1 => ?_) (fun hc1 => ?_)
 ·replace hE1 := cnd_t hE1 hc1
  refine wp_region_lit ?_
  refine p_mv (v := v0_) (k1 0) ?_
  refine p_mv (v := v1_) (k1 1) ?_
  obtain ⟨y2, e2, hE1⟩ := bnd hE1
  refine p_call (l := [v0_, v1_]) is150 rfl ?_
  refine (seneschalref06_Add_c H.sub h0_ h1_ e2).mono ?_; rintro _ w2 ⟨hx, v1, rfl, g1⟩
  have hle1 := gr_le (w' := w2) H.sub; replace H := H.call hx; clear hx; generalize gr S w1 w2 = S1 at hle1 H g1
  replace h0_ := RdS.mono h0_ hle1
  replace h1_ := RdS.mono h1_ hle1
  refine p_as (v := v1) rfl ?_
  refine wpList_nil ?_
  refine x_norm ?_
  replace H : HS ⟨S, [], w⟩ S1 w2 [] := H
  obtain rfl := osi hE1
  exact J1 _ _ _ _ kcx rfl hle1 H g1
 ·replace hE1 := cnd_f hE1 hc1
  refine wp_skip ?_
  refine x_norm ?_
  replace H : HS ⟨S, [], w⟩ S w1 [] := H
  obtain rfl := osi hE1
  exact J1 _ _ _ _ kcx (show _ = (v0_ : Value) from (k1 0)) (Mem.le_refl _) H h0_
def seneschalref06_less_p (x0 : List UInt32) (x1 : List UInt32) (x2 : List UInt32) : Option ((List UInt32)) :=
  Option.bind (Option.bind (seneschalref06_Cmp_p x0 x1) fun y1 => bif decide (y1 < 0) then (Option.bind (seneschalref06_Add_p x0 x2) fun y2 => some (y2)) else (some (x0))) (fun t1 => Option.bind (seneschalref06_Sub_p t1 x1) fun y3 => some (y3))
theorem seneschalref06_less_c {S : Mem} {w : World} (hS : Sub S w) {v0_ : Value} {x0 : List UInt32} (h0_ : RdS S v0_ x0) {v1_ : Value} {x1 : List UInt32} (h1_ : RdS S v1_ x1) {v2_ : Value} {x2 : List UInt32} (h2_ : RdS S v2_ x2) {r : (List UInt32)} (hF : seneschalref06_less_p x0 x1 x2 = some r) :
    Calls Tryz.prog 122 #[v0_, v1_, v2_] w fun e w' => Ext w w' ∧ ∃ (v0' : Value), e = .returned (v0') ∧ RdS (gr S w w') v0' r := by
 refine enter (n := 17) Tryz.func122 rfl rfl rfl ?_
 have H := HS.start hS
 unfold seneschalref06_less_p at hF
 refine sr ?_; intro K1 hK1
 refine p_as (v := .slice none 0 0) rfl ?_
 refine xk hK1 ?_; clear hK1
 refine wp_seq_k ?_; intro K2 hK2
 refine nameF fun m1 k1 => ?_
 obtain ⟨t1, hE1, hF1⟩ := bnd hF
 have J1 : ∀ (v2 : Value) (S2 : Mem) (m2 : FM) (w3 : World), (∀ t, has [0, 7, 8, 9, 10, 11, 12, 13] t = false → look m2 t = look m1 t) → look m2 0 = v2 → Mem.le S S2 → HS ⟨S, [], w⟩ S2 w3 [] → RdS S2 v2 t1 → K2 (fr 17 m2) w3 := by
  clear H; intro v2 S2 m2 w3 k2 q1 hle2 H g2
  replace h0_ := RdS.mono h0_ hle2
  replace h1_ := RdS.mono h1_ hle2
  replace h2_ := RdS.mono h2_ hle2
  have q2 : look m2 1 = v1_ := (k2 1 rfl).trans (k1 1)
  refine hK2 _ _ ?_
  refine sr ?_; intro K4 hK4
  refine p_mv (v := v2) q1 ?_
  refine p_mv (v := v1_) q2 ?_
  obtain ⟨y3, e3, hF1⟩ := bnd hF1
  refine p_call (l := [v2, v1_]) is121 rfl ?_
  refine (seneschalref06_Sub_c H.sub g2 h1_ e3).mono ?_; rintro _ w4 ⟨hx, v3, rfl, g3⟩
  have hle3 := gr_le (w' := w4) H.sub; replace H := H.call hx; clear hx; generalize gr S2 w3 w4 = S3 at hle3 H g3
  replace h1_ := RdS.mono h1_ hle3
  replace g2 := RdS.mono g2 hle3
  refine p_as (v := v3) rfl ?_
  refine xk hK4 ?_; clear hK4
  refine wp_ret ?_
  obtain rfl := osi hF1
  refine e_1 rfl (q_tmp (v := v3) rfl) ?_
  exact ⟨H.toExt, _, rfl, RdS.mono g3 H.gr⟩
 refine sr ?_; intro K3 hK3
 refine p_mv (v := v0_) (k1 0) ?_
 refine p_mv (v := v1_) (k1 1) ?_
 obtain ⟨y1, e1, hE1⟩ := bnd hE1
 refine p_call (l := [v0_, v1_]) is69 rfl ?_
 refine (seneschalref06_Cmp_c H.sub h0_ h1_ e1).mono ?_; rintro _ w1 ⟨rfl, hx⟩; replace H := H.ext hx; clear hx
 refine p_val (r_lssI rfl rfl) ?_
 refine xk hK3 ?_; clear hK3
 refine c_split (t := decide (y1 < 0)) rfl (fun hc1 => ?_) (fun hc1 => ?_)
 ·replace hE1 := cnd_t hE1 hc1
  refine wp_region_lit ?_
  refine p_mv (v := v0_) (k1 0) ?_
  refine p_mv (v := v2_) (k1 2) ?_
  obtain ⟨y2, e2, hE1⟩ := bnd hE1
  refine p_call (l := [v0_, v2_]) is150 rfl ?_
  refine (seneschalref06_Add_c H.sub h0_ h2_ e2).mono ?_; rintro _ w2 ⟨hx, v1, rfl, g1⟩
  have hle1 := gr_le (w' := w2) H.sub; replace H := H.call hx; clear hx; generalize gr S w1 w2 = S1 at hle1 H g1
  replace h0_ := RdS.mono h0_ hle1
  replace h1_ := RdS.mono h1_ hle1
  replace h2_ := RdS.mono h2_ hle1
  refine p_as (v := v1) rfl ?_
  refine wpList_nil ?_
  refine x_norm ?_
  replace H : HS ⟨S, [], w⟩ S1 w2 [] := H
  obtain rfl := osi hE1
  exact J1 _ _ _ _ kcx rfl hle1 H g1
 ·replace hE1 := cnd_f hE1 hc1
  refine wp_skip ?_
  refine x_norm ?_
  replace H : HS ⟨S, [], w⟩ S w1 [] := H
  obtain rfl := osi hE1
  exact J1 _ _ _ _ kcx (show _ = (v0_ : Value) from (k1 0)) (Mem.le_refl _) H h0_
def seneschalref06_Inverse_b1 (y1 : (List UInt32)) (s2 : (List UInt32) × (List UInt32)) : Option (((List UInt32) × (List UInt32)) ⊕ ((List UInt32) × (List UInt32))) :=
  Option.bind (seneschalref06_odd_p s2.1) fun y5 => bif (!y5) then (Option.bind (seneschalref06_half_p s2.1) fun y6 => Option.bind (seneschalref06_halved_p s2.2 y1) fun y7 => some (.inl ((y6, y7)))) else (some (.inr ((s2.1, s2.2))))
def seneschalref06_Inverse_b2 (y1 : (List UInt32)) (s3 : (List UInt32) × (List UInt32)) : Option (((List UInt32) × (List UInt32)) ⊕ ((List UInt32) × (List UInt32))) :=
  Option.bind (seneschalref06_odd_p s3.1) fun y8 => bif (!y8) then (Option.bind (seneschalref06_half_p s3.1) fun y9 => Option.bind (seneschalref06_halved_p s3.2 y1) fun y10 => some (.inl ((y9, y10)))) else (some (.inr ((s3.1, s3.2))))
def seneschalref06_Inverse_b0 (y1 : (List UInt32)) (s1 : (List UInt32) × (List UInt32) × (List UInt32) × (List UInt32)) : Option (((List UInt32) × (List UInt32) × (List UInt32) × (List UInt32)) ⊕ ((List UInt32) × (List UInt32) × (List UInt32))) :=
  Option.bind (seneschalref06_Cmp_p s1.1 ([(1 : UInt32)] : List UInt32)) fun y3 => Option.bind (bif (y3 != 0) then (Option.bind (seneschalref06_Cmp_p s1.2.1 ([(1 : UInt32)] : List UInt32)) fun y4 => some ((y4 != 0))) else (some (false))) (fun t2 => bif t2 then (Option.bind (Option.bind (iter (seneschalref06_Inverse_b1 y1) ((s1.1, s1.2.2.1))) (fun e => some (e))) (fun t3 => Option.bind (Option.bind (iter (seneschalref06_Inverse_b2 y1) ((s1.2.1, s1.2.2.2))) (fun e => some (e))) (fun t4 => Option.bind (seneschalref06_Cmp_p t3.1 t4.1) fun y11 => bif decide ((0 : Int) ≤ y11) then (Option.bind (seneschalref06_Sub_p t3.1 t4.1) fun y12 => Option.bind (seneschalref06_less_p t3.2 t4.2 y1) fun y13 => some (.inl ((y12, t4.1, y13, t4.2)))) else (Option.bind (seneschalref06_Sub_p t4.1 t3.1) fun y14 => Option.bind (seneschalref06_less_p t4.2 t3.2 y1) fun y15 => some (.inl ((t3.1, y14, t3.2, y15))))))) else (some (.inr ((s1.1, s1.2.2.1, s1.2.2.2)))))
def seneschalref06_Inverse_p (x0 : Int) (x1 : List UInt32) : Option ((List UInt32)) :=
  Option.bind (seneschalref06_Modulus_p x0) fun y1 => Option.bind (seneschalref06_Left_p x1 y1) fun y2 => Option.bind (Option.bind (iter (seneschalref06_Inverse_b0 y1) ((y2, y1, ([(1 : UInt32)] : List UInt32), ([] : List UInt32)))) (fun e => some (e))) (fun t1 => Option.bind (seneschalref06_Cmp_p t1.1 ([(1 : UInt32)] : List UInt32)) fun y16 => bif (y16 == 0) then (some (t1.2.1)) else (some (t1.2.2)))
theorem seneschalref06_Inverse_c {S : Mem} {w : World} (hS : Sub S w) {x0 : Int} {v1_ : Value} {x1 : List UInt32} (h1_ : RdS S v1_ x1) {r : (List UInt32)} (hF : seneschalref06_Inverse_p x0 x1 = some r) :
    Calls Tryz.prog 64 #[.int .i64 (x0), v1_] w fun e w' => Ext w w' ∧ ∃ (v0' : Value), e = .returned (v0') ∧ RdS (gr S w w') v0' r := by
 refine enter (n := 68) Tryz.func64 rfl rfl rfl ?_
 have H := HS.start hS
 unfold seneschalref06_Inverse_p at hF
 refine sr ?_; intro K1 hK1
 refine p_as (v := .slice none 0 0) rfl ?_
 refine xk hK1 ?_; clear hK1
 refine sr ?_; intro K2 hK2
 refine p_mv (v := .int .i64 (x0)) rfl ?_
 obtain ⟨y1, e1, hF⟩ := bnd hF
 refine p_call (l := [.int .i64 (x0)]) is71 rfl ?_
 refine (seneschalref06_Modulus_c H.sub e1).mono ?_; rintro _ w1 ⟨hx, v1, rfl, g1⟩
 have hle1 := gr_le (w' := w1) H.sub; replace H := H.call hx; clear hx; generalize gr S w w1 = S1 at hle1 H g1
 replace h1_ := RdS.mono h1_ hle1
 refine p_as (v := v1) rfl ?_
 refine xk hK2 ?_; clear hK2
 refine sr ?_; intro K3 hK3
 refine p_mv (v := v1_) rfl ?_
 refine p_mv (v := v1) rfl ?_
 obtain ⟨y2, e2, hF⟩ := bnd hF
 refine p_call (l := [v1_, v1]) is70 rfl ?_
 refine (seneschalref06_Left_c H.sub h1_ g1 e2).mono ?_; rintro _ w2 ⟨hx, v2, rfl, g2⟩
 have hle2 := gr_le (w' := w2) H.sub; replace H := H.call hx; clear hx; generalize gr S1 w1 w2 = S2 at hle2 H g2
 replace h1_ := RdS.mono h1_ hle2
 replace g1 := RdS.mono g1 hle2
 refine p_mv (v := v1) rfl ?_
 refine p_as (v := v2) rfl ?_
 refine p_as (v := v1) rfl ?_
 refine xk hK3 ?_; clear hK3
 refine sr ?_; intro K4 hK4
 have g3 : RL S2 ([Value.int .u32 (1)] ++ ([] : List Value)) ([(1 : UInt32)] : List UInt32) := (RL.cons (rpU32c (x := (1 : UInt32)) rfl) RL.nil)
 refine p_of1 (a_bslice (N := 1) (vals := [(0, .int .u32 (1))]) (l := ([Value.int .u32 (1)] ++ ([] : List Value))) tn63 H rfl rfl rfl g3.len) ?_; clear H; intro w3 v3 H
 generalize ([Value.int .u32 (1)] ++ ([] : List Value)) = cs1 at H g3
 replace H : HS ⟨S, [], w⟩ S2 w3 [.osl (v3) (([(1 : UInt32)] : List UInt32)).length 1 cs1 [] 107] := H
 have g4 : RL S2 ([] : List Value) ([] : List UInt32) := RL.nil
 refine p_of1 (a_bslice (N := 0) (vals := []) (l := ([] : List Value)) tn63 H rfl rfl rfl g4.len) ?_; clear H; intro w4 v4 H
 replace H : HS ⟨S, [], w⟩ S2 w4 [.osl (v4) (([] : List UInt32)).length 1 ([] : List Value) [] 107, .osl (v3) (([(1 : UInt32)] : List UInt32)).length 1 cs1 [] 107] := H
 refine p_as (v := v3) rfl ?_
 refine p_as (v := v4) rfl ?_
 refine xk hK4 ?_; clear hK4
 refine wp_seq_k ?_; intro K5 hK5
 obtain ⟨S3, hle3, g5, H1⟩ := H.fixX (k := 0) rfl g4; clear H; have H := H1; clear H1
 replace h1_ := RdS.mono h1_ hle3
 replace g1 := RdS.mono g1 hle3
 replace g2 := RdS.mono g2 hle3
 replace g3 := RL.mono g3 hle3
 replace H : HS ⟨S, [], w⟩ S3 w4 [.osl (v3) (([(1 : UInt32)] : List UInt32)).length 1 cs1 [] 107] := H
 obtain ⟨S4, hle4, g6, H1⟩ := H.fixX (k := 0) rfl g3; clear H; have H := H1; clear H1
 replace h1_ := RdS.mono h1_ hle4
 replace g1 := RdS.mono g1 hle4
 replace g2 := RdS.mono g2 hle4
 replace g5 := RdS.mono g5 hle4
 replace H : HS ⟨S, [], w⟩ S4 w4 [] := H
 refine nameF fun m1 k1 => ?_
 obtain ⟨t1, hE1, hF1⟩ := bnd hF
 have J4 : ∀ (v27 : Value) (v28 : Value) (v29 : Value) (S18 : Mem) (m14 : FM) (w26 : World), (∀ t, has [6, 7, 8, 9, 18, 19, 20, 21, 22, 23, 24, 25, 26, 27, 28, 29, 30, 31, 32, 33, 34, 35, 36, 37, 38, 39, 40, 41, 42, 43, 44, 45, 46, 47, 48, 49, 50, 51, 52, 53, 54, 55, 56, 57, 58, 59, 60, 61] t = false → look m14 t = look m1 t) → look m14 6 = v27 → look m14 8 = v28 → look m14 9 = v29 → Mem.le S4 S18 → HS ⟨S, [], w⟩ S18 w26 [] → RdS S18 v27 t1.1 → RdS S18 v28 t1.2.1 → RdS S18 v29 t1.2.2 → K5 (fr 68 m14) w26 := by
  clear H; intro v27 v28 v29 S18 m14 w26 k17 q32 q33 q34 hle18 H g29 g30 g31
  replace h1_ := RdS.mono h1_ hle18
  replace g1 := RdS.mono g1 hle18
  replace g2 := RdS.mono g2 hle18
  replace g5 := RdS.mono g5 hle18
  replace g6 := RdS.mono g6 hle18
  refine hK5 _ _ ?_
  refine wp_seq_k ?_; intro K20 hK20
  refine sr ?_; intro K21 hK21
  refine p_mv (v := v27) q32 ?_
  have g32 : RL S18 ([Value.int .u32 (1)] ++ ([] : List Value)) ([(1 : UInt32)] : List UInt32) := (RL.cons (rpU32c (x := (1 : UInt32)) rfl) RL.nil)
  refine p_of1 (a_bslice (N := 1) (vals := [(0, .int .u32 (1))]) (l := ([Value.int .u32 (1)] ++ ([] : List Value))) tn63 H rfl rfl rfl g32.len) ?_; clear H; intro w27 v30 H
  generalize ([Value.int .u32 (1)] ++ ([] : List Value)) = cs5 at H g32
  replace H : HS ⟨S, [], w⟩ S18 w27 [.osl (v30) (([(1 : UInt32)] : List UInt32)).length 1 cs5 [] 107] := H
  obtain ⟨y16, e16, hF1⟩ := bnd hF1
  refine p_call (l := [v27, v30]) is69 rfl ?_
  refine (seneschalref06_Cmp_c (subMem w27) (g29.mono H.sub) (RdS.ofOwn H (k := 0) rfl g32) e16).mono ?_; rintro _ w28 ⟨rfl, hx⟩; replace H := H.ext hx; clear hx
  refine p_val (r_eqlI rfl rfl) ?_
  refine xk hK21 ?_; clear hK21
  refine c_split (t := (y16 == 0)) rfl (fun hc5 => ?_) (fun hc5 => ?_)
  ·replace hF1 := cnd_t hF1 hc5
   refine sr ?_; intro K22 hK22
   refine p_mv (v := v28) q33 ?_
   refine p_as (v := v28) rfl ?_
   refine xk hK22 ?_; clear hK22
   refine wp_ret ?_
   refine x_ret ?_
   obtain rfl := osi hF1
   refine e_1 rfl (q_tmp (v := v28) rfl) ?_
   exact ⟨H.toExt, _, rfl, RdS.mono g30 H.gr⟩
  ·replace hF1 := cnd_f hF1 hc5
   refine wp_skip ?_
   refine xn hK20 ?_; clear hK20
   refine sr ?_; intro K23 hK23
   refine p_mv (v := v29) q34 ?_
   refine p_as (v := v29) rfl ?_
   refine xk hK23 ?_; clear hK23
   refine wp_ret ?_
   obtain rfl := osi hF1
   refine e_1 rfl (q_tmp (v := v29) rfl) ?_
   exact ⟨H.toExt, _, rfl, RdS.mono g31 H.gr⟩
 refine wp_block ?_
 refine nameF fun m2 k2 => ?_
 obtain ⟨out1, hL1, hE2⟩ := bnd hE1
 replace H : HS ⟨S, [], w⟩ S4 w4 [] := H
 refine loopI [6, 7, 8, 9, 18, 19, 20, 21, 22, 23, 24, 25, 26, 27, 28, 29, 30, 31, 32, 33, 34, 35, 36, 37, 38, 39, 40, 41, 42, 43, 44, 45, 46, 47, 48, 49, 50, 51, 52, 53, 54, 55, 56, 57, 58, 59, 60, 61] (fun (s1 : (List UInt32) × (List UInt32) × (List UInt32) × (List UInt32)) (m3 : FM) (w5 : World) => ∃ (S5 : Mem) (v5 : Value) (v6 : Value) (v7 : Value) (v8 : Value), look m3 6 = v5 ∧ look m3 7 = v6 ∧ look m3 8 = v7 ∧ look m3 9 = v8 ∧ Mem.le S4 S5 ∧ HS ⟨S, [], w⟩ S5 w5 [] ∧ RdS S5 v5 s1.1 ∧ RdS S5 v6 s1.2.1 ∧ RdS S5 v7 s1.2.2.1 ∧ RdS S5 v8 s1.2.2.2) hL1 ⟨_, _, _, _, _, (show _ = (v2 : Value) from ((k2 6).trans (k1 6))), (show _ = (v1 : Value) from ((k2 7).trans (k1 7))), (show _ = (v3 : Value) from ((k2 8).trans (k1 8))), (show _ = (v4 : Value) from ((k2 9).trans (k1 9))), (Mem.le_refl _), H, g2, g1, g6, g5⟩ ?_
 clear H; intro k4 s1 m3 w5 k3 hI1 o2 hb1 hh1; obtain ⟨S5, v5, v6, v7, v8, q1, q2, q3, q4, hle5, H, g7, g8, g9, g10⟩ := hI1
 replace h1_ := RdS.mono h1_ hle5
 replace g1 := RdS.mono g1 hle5
 replace g2 := RdS.mono g2 hle5
 replace g5 := RdS.mono g5 hle5
 replace g6 := RdS.mono g6 hle5
 have q5 : look m3 5 = v1 := (k3 5 rfl).trans ((k2 5).trans (k1 5))
 unfold seneschalref06_Inverse_b0 at hb1
 refine wp_seq_k ?_; intro K6 hK6
 refine sr ?_; intro K7 hK7
 refine p_mv (v := v5) q1 ?_
 have g11 : RL S5 ([Value.int .u32 (1)] ++ ([] : List Value)) ([(1 : UInt32)] : List UInt32) := (RL.cons (rpU32c (x := (1 : UInt32)) rfl) RL.nil)
 refine p_of1 (a_bslice (N := 1) (vals := [(0, .int .u32 (1))]) (l := ([Value.int .u32 (1)] ++ ([] : List Value))) tn63 H rfl rfl rfl g11.len) ?_; clear H; intro w6 v9 H
 generalize ([Value.int .u32 (1)] ++ ([] : List Value)) = cs3 at H g11
 replace H : HS ⟨S, [], w⟩ S5 w6 [.osl (v9) (([(1 : UInt32)] : List UInt32)).length 1 cs3 [] 107] := H
 obtain ⟨y3, e3, hb1⟩ := bnd hb1
 refine p_call (l := [v5, v9]) is69 rfl ?_
 refine (seneschalref06_Cmp_c (subMem w6) (g7.mono H.sub) (RdS.ofOwn H (k := 0) rfl g11) e3).mono ?_; rintro _ w7 ⟨rfl, hx⟩; replace H := H.ext hx; clear hx
 refine p_val (r_neqI rfl rfl) ?_
 refine p_mv (v := .bool ((y3 != 0))) rfl ?_
 refine nameL fun m4 k5 => ?_
 refine gs_at 5 fun K8 hK8 R4 hR4 => ?_
 obtain ⟨t2, hE3, hF2⟩ := bnd hb1
 have J3 : ∀ (m5 : FM) (w10 : World), (∀ t, has [23, 24, 25, 26, 27] t = false → look m5 t = look m4 t) → look m5 27 = .bool (t2) → HS ⟨S, [], w⟩ S5 w10 [.osl (v9) (([(1 : UInt32)] : List UInt32)).length 1 cs3 [] 107] → K8 m5 w10 := by
  clear H; intro m5 w10 k6 q6 H
  have q7 : look m5 5 = v1 := (k6 5 rfl).trans ((k5 5).trans q5)
  have q8 : look m5 6 = v5 := (k6 6 rfl).trans ((k5 6).trans q1)
  have q9 : look m5 7 = v6 := (k6 7 rfl).trans ((k5 7).trans q2)
  have q10 : look m5 8 = v7 := (k6 8 rfl).trans ((k5 8).trans q3)
  have q11 : look m5 9 = v8 := (k6 9 rfl).trans ((k5 9).trans q4)
  refine hK8 _ _ ?_
  refine xk hK7 ?_; clear hK7
  refine c_split (t := t2) q6 (fun hc1 => ?_) (fun hc1 => ?_)
  ·replace hF2 := cnd_t hF2 hc1
   refine wp_skip ?_
   refine xn hK6 ?_; clear hK6
   refine wp_block ?_
   refine wp_seq_k ?_; intro K9 hK9
   refine nameF fun m6 k7 => ?_
   obtain ⟨t3, hE4, hF3⟩ := bnd hF2
   have J2 : ∀ (v15 : Value) (v16 : Value) (S9 : Mem) (m9 : FM) (w15 : World), (∀ t, has [6, 8, 28, 29, 30, 31, 32, 33, 34, 35] t = false → look m9 t = look m6 t) → look m9 6 = v15 → look m9 8 = v16 → Mem.le S5 S9 → HS ⟨S, [], w⟩ S9 w15 [.osl (v9) (([(1 : UInt32)] : List UInt32)).length 1 cs3 [] 107] → RdS S9 v15 t3.1 → RdS S9 v16 t3.2 → K9 (fr 68 m9) w15 := by
    clear H; intro v15 v16 S9 m9 w15 k11 q17 q18 hle9 H g17 g18
    replace h1_ := RdS.mono h1_ hle9
    replace g1 := RdS.mono g1 hle9
    replace g2 := RdS.mono g2 hle9
    replace g5 := RdS.mono g5 hle9
    replace g6 := RdS.mono g6 hle9
    replace g7 := RdS.mono g7 hle9
    replace g8 := RdS.mono g8 hle9
    replace g9 := RdS.mono g9 hle9
    replace g10 := RdS.mono g10 hle9
    replace g11 := RL.mono g11 hle9
    have q19 : look m9 5 = v1 := (k11 5 rfl).trans ((k7 5).trans q7)
    have q20 : look m9 7 = v6 := (k11 7 rfl).trans ((k7 7).trans q9)
    have q21 : look m9 9 = v8 := (k11 9 rfl).trans ((k7 9).trans q11)
    refine hK9 _ _ ?_
    refine wp_seq_k ?_; intro K13 hK13
    refine nameF fun m10 k12 => ?_
    obtain ⟨t4, hE6, hF4⟩ := bnd hF3
    have J1 : ∀ (v21 : Value) (v22 : Value) (S13 : Mem) (m13 : FM) (w20 : World), (∀ t, has [7, 9, 36, 37, 38, 39, 40, 41, 42, 43] t = false → look m13 t = look m10 t) → look m13 7 = v21 → look m13 9 = v22 → Mem.le S9 S13 → HS ⟨S, [], w⟩ S13 w20 [.osl (v9) (([(1 : UInt32)] : List UInt32)).length 1 cs3 [] 107] → RdS S13 v21 t4.1 → RdS S13 v22 t4.2 → K13 (fr 68 m13) w20 := by
     clear H; intro v21 v22 S13 m13 w20 k16 q27 q28 hle13 H g23 g24
     replace h1_ := RdS.mono h1_ hle13
     replace g1 := RdS.mono g1 hle13
     replace g2 := RdS.mono g2 hle13
     replace g5 := RdS.mono g5 hle13
     replace g6 := RdS.mono g6 hle13
     replace g7 := RdS.mono g7 hle13
     replace g8 := RdS.mono g8 hle13
     replace g9 := RdS.mono g9 hle13
     replace g10 := RdS.mono g10 hle13
     replace g11 := RL.mono g11 hle13
     replace g17 := RdS.mono g17 hle13
     replace g18 := RdS.mono g18 hle13
     have q29 : look m13 5 = v1 := (k16 5 rfl).trans ((k12 5).trans q19)
     have q30 : look m13 6 = v15 := (k16 6 rfl).trans ((k12 6).trans q17)
     have q31 : look m13 8 = v16 := (k16 8 rfl).trans ((k12 8).trans q18)
     refine hK13 _ _ ?_
     refine sr ?_; intro K17 hK17
     refine p_mv (v := v15) q30 ?_
     refine p_mv (v := v21) q27 ?_
     obtain ⟨y11, e11, hF4⟩ := bnd hF4
     refine p_call (l := [v15, v21]) is69 rfl ?_
     refine (seneschalref06_Cmp_c H.sub g17 g23 e11).mono ?_; rintro _ w21 ⟨rfl, hx⟩; replace H := H.ext hx; clear hx
     refine p_val (r_geqI rfl rfl) ?_
     refine xk hK17 ?_; clear hK17
     refine c_split (t := decide ((0 : Int) ≤ y11)) rfl (fun hc4 => ?_) (fun hc4 => ?_)
     ·replace hF4 := cnd_t hF4 hc4
      refine sr ?_; intro K18 hK18
      refine p_mv (v := v15) q30 ?_
      refine p_mv (v := v21) q27 ?_
      obtain ⟨y12, e12, hF4⟩ := bnd hF4
      refine p_call (l := [v15, v21]) is121 rfl ?_
      refine (seneschalref06_Sub_c H.sub g17 g23 e12).mono ?_; rintro _ w22 ⟨hx, v23, rfl, g25⟩
      have hle14 := gr_le (w' := w22) H.sub; replace H := H.call hx; clear hx; generalize gr S13 w21 w22 = S14 at hle14 H g25
      replace g1 := RdS.mono g1 hle14
      replace g11 := RL.mono g11 hle14
      replace g17 := RdS.mono g17 hle14
      replace g18 := RdS.mono g18 hle14
      replace g23 := RdS.mono g23 hle14
      replace g24 := RdS.mono g24 hle14
      refine p_as (v := v23) rfl ?_
      refine xk hK18 ?_; clear hK18
      refine wp_region_lit ?_
      refine p_mv (v := v16) q31 ?_
      refine p_mv (v := v22) q28 ?_
      refine p_mv (v := v1) q29 ?_
      obtain ⟨y13, e13, hF4⟩ := bnd hF4
      refine p_call (l := [v16, v22, v1]) is122 rfl ?_
      refine (seneschalref06_less_c H.sub g18 g24 g1 e13).mono ?_; rintro _ w23 ⟨hx, v24, rfl, g26⟩
      have hle15 := gr_le (w' := w23) H.sub; replace H := H.call hx; clear hx; generalize gr S14 w22 w23 = S15 at hle15 H g26
      replace g1 := RdS.mono g1 hle15
      replace g11 := RL.mono g11 hle15
      replace g18 := RdS.mono g18 hle15
      replace g23 := RdS.mono g23 hle15
      replace g24 := RdS.mono g24 hle15
      replace g25 := RdS.mono g25 hle15
      refine p_as (v := v24) rfl ?_
      refine wpList_nil ?_
      refine b_norm ?_
      refine x_norm ?_
      replace H := H.sel [] rfl
      replace H : HS ⟨S, [], w⟩ S15 w23 [] := H
      obtain rfl := osi hF4
      exact ⟨(y12, t4.1, y13, t4.2), _, rfl, (by (repeat (refine keep_cons rfl ?_)); refine keep_sub k16 rfl ?_; (repeat (refine keep_cons rfl ?_)); refine keep_name k12 ?_; (repeat (refine keep_cons rfl ?_)); refine keep_sub k11 rfl ?_; (repeat (refine keep_cons rfl ?_)); refine keep_name k7 ?_; (repeat (refine keep_cons rfl ?_)); refine keep_sub k6 rfl ?_; (repeat (refine keep_cons rfl ?_)); refine keep_name k5 ?_; (repeat (refine keep_cons rfl ?_)); refine keep_sub k3 rfl ?_; exact kcx), ⟨_, _, _, _, _, rfl, (show _ = (v21 : Value) from q27), rfl, (show _ = (v22 : Value) from q28), (Mem.le_trans hle5 (Mem.le_trans hle9 (Mem.le_trans hle13 (Mem.le_trans hle14 hle15)))), H, g25, g23, g26, g24⟩, hh1⟩
     ·replace hF4 := cnd_f hF4 hc4
      refine sr ?_; intro K19 hK19
      refine p_mv (v := v21) q27 ?_
      refine p_mv (v := v15) q30 ?_
      obtain ⟨y14, e14, hF4⟩ := bnd hF4
      refine p_call (l := [v21, v15]) is121 rfl ?_
      refine (seneschalref06_Sub_c H.sub g23 g17 e14).mono ?_; rintro _ w24 ⟨hx, v25, rfl, g27⟩
      have hle16 := gr_le (w' := w24) H.sub; replace H := H.call hx; clear hx; generalize gr S13 w21 w24 = S16 at hle16 H g27
      replace g1 := RdS.mono g1 hle16
      replace g11 := RL.mono g11 hle16
      replace g17 := RdS.mono g17 hle16
      replace g18 := RdS.mono g18 hle16
      replace g23 := RdS.mono g23 hle16
      replace g24 := RdS.mono g24 hle16
      refine p_as (v := v25) rfl ?_
      refine xk hK19 ?_; clear hK19
      refine wp_region_lit ?_
      refine p_mv (v := v22) q28 ?_
      refine p_mv (v := v16) q31 ?_
      refine p_mv (v := v1) q29 ?_
      obtain ⟨y15, e15, hF4⟩ := bnd hF4
      refine p_call (l := [v22, v16, v1]) is122 rfl ?_
      refine (seneschalref06_less_c H.sub g24 g18 g1 e15).mono ?_; rintro _ w25 ⟨hx, v26, rfl, g28⟩
      have hle17 := gr_le (w' := w25) H.sub; replace H := H.call hx; clear hx; generalize gr S16 w24 w25 = S17 at hle17 H g28
      replace g1 := RdS.mono g1 hle17
      replace g11 := RL.mono g11 hle17
      replace g17 := RdS.mono g17 hle17
      replace g18 := RdS.mono g18 hle17
      replace g24 := RdS.mono g24 hle17
      replace g27 := RdS.mono g27 hle17
      refine p_as (v := v26) rfl ?_
      refine wpList_nil ?_
      refine b_norm ?_
      refine x_norm ?_
      replace H := H.sel [] rfl
      replace H : HS ⟨S, [], w⟩ S17 w25 [] := H
      obtain rfl := osi hF4
      exact ⟨(t3.1, y14, t3.2, y15), _, rfl, (by (repeat (refine keep_cons rfl ?_)); refine keep_sub k16 rfl ?_; (repeat (refine keep_cons rfl ?_)); refine keep_name k12 ?_; (repeat (refine keep_cons rfl ?_)); refine keep_sub k11 rfl ?_; (repeat (refine keep_cons rfl ?_)); refine keep_name k7 ?_; (repeat (refine keep_cons rfl ?_)); refine keep_sub k6 rfl ?_; (repeat (refine keep_cons rfl ?_)); refine keep_name k5 ?_; (repeat (refine keep_cons rfl ?_)); refine keep_sub k3 rfl ?_; exact kcx), ⟨_, _, _, _, _, (show _ = (v15 : Value) from q30), rfl, (show _ = (v16 : Value) from q31), rfl, (Mem.le_trans hle5 (Mem.le_trans hle9 (Mem.le_trans hle13 (Mem.le_trans hle16 hle17)))), H, g17, g27, g18, g28⟩, hh1⟩
    refine wp_block ?_
    refine nameF fun m11 k13 => ?_
    obtain ⟨out3, hL3, hE7⟩ := bnd hE6
    replace H : HS ⟨S, [], w⟩ S9 w15 [.osl (v9) (([(1 : UInt32)] : List UInt32)).length 1 cs3 [] 107] := H
    refine loopI [7, 9, 36, 37, 38, 39, 40, 41, 42, 43] (fun (s3 : (List UInt32) × (List UInt32)) (m12 : FM) (w16 : World) => ∃ (S10 : Mem) (v17 : Value) (v18 : Value), look m12 7 = v17 ∧ look m12 9 = v18 ∧ Mem.le S9 S10 ∧ HS ⟨S, [], w⟩ S10 w16 [.osl (v9) (([(1 : UInt32)] : List UInt32)).length 1 cs3 [] 107] ∧ RdS S10 v17 s3.1 ∧ RdS S10 v18 s3.2) hL3 ⟨_, _, _, (show _ = (v6 : Value) from ((k13 7).trans ((k12 7).trans q20))), (show _ = (v8 : Value) from ((k13 9).trans ((k12 9).trans q21))), (Mem.le_refl _), H, g8, g10⟩ ?_
    clear H; intro k15 s3 m12 w16 k14 hI3 o7 hb4 hh3; obtain ⟨S10, v17, v18, q22, q23, hle10, H, g19, g20⟩ := hI3
    replace h1_ := RdS.mono h1_ hle10
    replace g1 := RdS.mono g1 hle10
    replace g2 := RdS.mono g2 hle10
    replace g5 := RdS.mono g5 hle10
    replace g6 := RdS.mono g6 hle10
    replace g7 := RdS.mono g7 hle10
    replace g8 := RdS.mono g8 hle10
    replace g9 := RdS.mono g9 hle10
    replace g10 := RdS.mono g10 hle10
    replace g11 := RL.mono g11 hle10
    replace g17 := RdS.mono g17 hle10
    replace g18 := RdS.mono g18 hle10
    have q24 : look m12 5 = v1 := (k14 5 rfl).trans ((k13 5).trans ((k12 5).trans q19))
    have q25 : look m12 6 = v15 := (k14 6 rfl).trans ((k13 6).trans ((k12 6).trans q17))
    have q26 : look m12 8 = v16 := (k14 8 rfl).trans ((k13 8).trans ((k12 8).trans q18))
    unfold seneschalref06_Inverse_b2 at hb4
    refine wp_seq_k ?_; intro K14 hK14
    refine sr ?_; intro K15 hK15
    refine p_mv (v := v17) q22 ?_
    obtain ⟨y8, e8, hb4⟩ := bnd hb4
    refine p_call (l := [v17]) is118 rfl ?_
    refine (seneschalref06_odd_c H.sub g19 e8).mono ?_; rintro _ w17 ⟨rfl, hx⟩; replace H := H.ext hx; clear hx
    refine p_val (r_not (t := (!y8)) rfl rfl) ?_
    refine xk hK15 ?_; clear hK15
    refine c_split (t := (!y8)) rfl (fun hc3 => ?_) (fun hc3 => ?_)
    ·replace hb4 := cnd_t hb4 hc3
     refine wp_skip ?_
     refine xn hK14 ?_; clear hK14
     refine wp_block ?_
     refine sr ?_; intro K16 hK16
     refine p_mv (v := v17) q22 ?_
     obtain ⟨y9, e9, hb4⟩ := bnd hb4
     refine p_call (l := [v17]) is119 rfl ?_
     refine (seneschalref06_half_c H.sub g19 e9).mono ?_; rintro _ w18 ⟨hx, v19, rfl, g21⟩
     have hle11 := gr_le (w' := w18) H.sub; replace H := H.call hx; clear hx; generalize gr S10 w17 w18 = S11 at hle11 H g21
     replace g1 := RdS.mono g1 hle11
     replace g11 := RL.mono g11 hle11
     replace g17 := RdS.mono g17 hle11
     replace g18 := RdS.mono g18 hle11
     replace g19 := RdS.mono g19 hle11
     replace g20 := RdS.mono g20 hle11
     refine p_as (v := v19) rfl ?_
     refine xk hK16 ?_; clear hK16
     refine wp_region_lit ?_
     refine p_mv (v := v18) q23 ?_
     refine p_mv (v := v1) q24 ?_
     obtain ⟨y10, e10, hb4⟩ := bnd hb4
     refine p_call (l := [v18, v1]) is120 rfl ?_
     refine (seneschalref06_halved_c H.sub g20 g1 e10).mono ?_; rintro _ w19 ⟨hx, v20, rfl, g22⟩
     have hle12 := gr_le (w' := w19) H.sub; replace H := H.call hx; clear hx; generalize gr S11 w18 w19 = S12 at hle12 H g22
     replace g1 := RdS.mono g1 hle12
     replace g11 := RL.mono g11 hle12
     replace g17 := RdS.mono g17 hle12
     replace g18 := RdS.mono g18 hle12
     replace g20 := RdS.mono g20 hle12
     replace g21 := RdS.mono g21 hle12
     refine p_as (v := v20) rfl ?_
     refine wpList_nil ?_
     refine b_norm ?_
     refine x_norm ?_
     replace H : HS ⟨S, [], w⟩ S12 w19 [.osl (v9) (([(1 : UInt32)] : List UInt32)).length 1 cs3 [] 107] := H
     obtain rfl := osi hb4
     exact ⟨(y9, y10), _, rfl, (by (repeat (refine keep_cons rfl ?_)); refine keep_sub k14 rfl ?_; exact kcx), ⟨_, _, _, rfl, rfl, (Mem.le_trans hle10 (Mem.le_trans hle11 hle12)), H, g21, g22⟩, hh3⟩
    ·replace hb4 := cnd_f hb4 hc3
     refine wp_exit ?_
     refine x_exit ?_
     refine x_exit ?_
     refine b_hit ?_
     refine x_norm ?_
     replace H : HS ⟨S, [], w⟩ S10 w17 [.osl (v9) (([(1 : UInt32)] : List UInt32)).length 1 cs3 [] 107] := H
     obtain rfl := osi hb4
     obtain rfl := osi hh3
     obtain rfl := osi hE7
     exact J1 _ _ _ _ _ (by (repeat (refine keep_cons rfl ?_)); refine keep_sub k14 rfl ?_; (repeat (refine keep_cons rfl ?_)); refine keep_name k13 ?_; exact kcx) (show _ = (v17 : Value) from q22) (show _ = (v18 : Value) from q23) hle10 H g19 g20
   refine wp_block ?_
   refine nameF fun m7 k8 => ?_
   obtain ⟨out2, hL2, hE5⟩ := bnd hE4
   replace H : HS ⟨S, [], w⟩ S5 w10 [.osl (v9) (([(1 : UInt32)] : List UInt32)).length 1 cs3 [] 107] := H
   refine loopI [6, 8, 28, 29, 30, 31, 32, 33, 34, 35] (fun (s2 : (List UInt32) × (List UInt32)) (m8 : FM) (w11 : World) => ∃ (S6 : Mem) (v11 : Value) (v12 : Value), look m8 6 = v11 ∧ look m8 8 = v12 ∧ Mem.le S5 S6 ∧ HS ⟨S, [], w⟩ S6 w11 [.osl (v9) (([(1 : UInt32)] : List UInt32)).length 1 cs3 [] 107] ∧ RdS S6 v11 s2.1 ∧ RdS S6 v12 s2.2) hL2 ⟨_, _, _, (show _ = (v5 : Value) from ((k8 6).trans ((k7 6).trans q8))), (show _ = (v7 : Value) from ((k8 8).trans ((k7 8).trans q10))), (Mem.le_refl _), H, g7, g9⟩ ?_
   clear H; intro k10 s2 m8 w11 k9 hI2 o5 hb3 hh2; obtain ⟨S6, v11, v12, q12, q13, hle6, H, g13, g14⟩ := hI2
   replace h1_ := RdS.mono h1_ hle6
   replace g1 := RdS.mono g1 hle6
   replace g2 := RdS.mono g2 hle6
   replace g5 := RdS.mono g5 hle6
   replace g6 := RdS.mono g6 hle6
   replace g7 := RdS.mono g7 hle6
   replace g8 := RdS.mono g8 hle6
   replace g9 := RdS.mono g9 hle6
   replace g10 := RdS.mono g10 hle6
   replace g11 := RL.mono g11 hle6
   have q14 : look m8 5 = v1 := (k9 5 rfl).trans ((k8 5).trans ((k7 5).trans q7))
   have q15 : look m8 7 = v6 := (k9 7 rfl).trans ((k8 7).trans ((k7 7).trans q9))
   have q16 : look m8 9 = v8 := (k9 9 rfl).trans ((k8 9).trans ((k7 9).trans q11))
   unfold seneschalref06_Inverse_b1 at hb3
   refine wp_seq_k ?_; intro K10 hK10
   refine sr ?_; intro K11 hK11
   refine p_mv (v := v11) q12 ?_
   obtain ⟨y5, e5, hb3⟩ := bnd hb3
   refine p_call (l := [v11]) is118 rfl ?_
   refine (seneschalref06_odd_c H.sub g13 e5).mono ?_; rintro _ w12 ⟨rfl, hx⟩; replace H := H.ext hx; clear hx
   refine p_val (r_not (t := (!y5)) rfl rfl) ?_
   refine xk hK11 ?_; clear hK11
   refine c_split (t := (!y5)) rfl (fun hc2 => ?_) (fun hc2 => ?_)
   ·replace hb3 := cnd_t hb3 hc2
    refine wp_skip ?_
    refine xn hK10 ?_; clear hK10
    refine wp_block ?_
    refine sr ?_; intro K12 hK12
    refine p_mv (v := v11) q12 ?_
    obtain ⟨y6, e6, hb3⟩ := bnd hb3
    refine p_call (l := [v11]) is119 rfl ?_
    refine (seneschalref06_half_c H.sub g13 e6).mono ?_; rintro _ w13 ⟨hx, v13, rfl, g15⟩
    have hle7 := gr_le (w' := w13) H.sub; replace H := H.call hx; clear hx; generalize gr S6 w12 w13 = S7 at hle7 H g15
    replace g1 := RdS.mono g1 hle7
    replace g8 := RdS.mono g8 hle7
    replace g10 := RdS.mono g10 hle7
    replace g11 := RL.mono g11 hle7
    replace g13 := RdS.mono g13 hle7
    replace g14 := RdS.mono g14 hle7
    refine p_as (v := v13) rfl ?_
    refine xk hK12 ?_; clear hK12
    refine wp_region_lit ?_
    refine p_mv (v := v12) q13 ?_
    refine p_mv (v := v1) q14 ?_
    obtain ⟨y7, e7, hb3⟩ := bnd hb3
    refine p_call (l := [v12, v1]) is120 rfl ?_
    refine (seneschalref06_halved_c H.sub g14 g1 e7).mono ?_; rintro _ w14 ⟨hx, v14, rfl, g16⟩
    have hle8 := gr_le (w' := w14) H.sub; replace H := H.call hx; clear hx; generalize gr S7 w13 w14 = S8 at hle8 H g16
    replace g1 := RdS.mono g1 hle8
    replace g8 := RdS.mono g8 hle8
    replace g10 := RdS.mono g10 hle8
    replace g11 := RL.mono g11 hle8
    replace g14 := RdS.mono g14 hle8
    replace g15 := RdS.mono g15 hle8
    refine p_as (v := v14) rfl ?_
    refine wpList_nil ?_
    refine b_norm ?_
    refine x_norm ?_
    replace H : HS ⟨S, [], w⟩ S8 w14 [.osl (v9) (([(1 : UInt32)] : List UInt32)).length 1 cs3 [] 107] := H
    obtain rfl := osi hb3
    exact ⟨(y6, y7), _, rfl, (by (repeat (refine keep_cons rfl ?_)); refine keep_sub k9 rfl ?_; exact kcx), ⟨_, _, _, rfl, rfl, (Mem.le_trans hle6 (Mem.le_trans hle7 hle8)), H, g15, g16⟩, hh2⟩
   ·replace hb3 := cnd_f hb3 hc2
    refine wp_exit ?_
    refine x_exit ?_
    refine x_exit ?_
    refine b_hit ?_
    refine x_norm ?_
    replace H : HS ⟨S, [], w⟩ S6 w12 [.osl (v9) (([(1 : UInt32)] : List UInt32)).length 1 cs3 [] 107] := H
    obtain rfl := osi hb3
    obtain rfl := osi hh2
    obtain rfl := osi hE5
    exact J2 _ _ _ _ _ (by (repeat (refine keep_cons rfl ?_)); refine keep_sub k9 rfl ?_; (repeat (refine keep_cons rfl ?_)); refine keep_name k8 ?_; exact kcx) (show _ = (v11 : Value) from q12) (show _ = (v12 : Value) from q13) hle6 H g13 g14
  ·replace hF2 := cnd_f hF2 hc1
   refine wp_exit ?_
   refine x_exit ?_
   refine x_exit ?_
   refine b_hit ?_
   refine x_norm ?_
   replace H := H.sel [] rfl
   replace H : HS ⟨S, [], w⟩ S5 w10 [] := H
   obtain rfl := osi hF2
   obtain rfl := osi hh1
   obtain rfl := osi hE2
   exact J4 _ _ _ _ _ _ (by (repeat (refine keep_cons rfl ?_)); refine keep_sub k6 rfl ?_; (repeat (refine keep_cons rfl ?_)); refine keep_name k5 ?_; (repeat (refine keep_cons rfl ?_)); refine keep_sub k3 rfl ?_; (repeat (refine keep_cons rfl ?_)); refine keep_name k2 ?_; exact kcx) (show _ = (v5 : Value) from q8) (show _ = (v7 : Value) from q10) (show _ = (v8 : Value) from q11) hle5 H g7 g9 g10
 refine p_gs (j := 4) (gvl_at rfl rfl (k5 22)) (fun hb2 => ?_) (fun hb2 => ?_)
 ·replace hE3 := cnd_t hE3 hb2
  refine p_want (gvl_at rfl rfl (k5 22)) hb2 ?_
  refine p_mv (v := v6) ((k5 7).trans q2) ?_
  refine p_want (gvl_at rfl rfl (k5 22)) hb2 ?_
  have g12 : RL S5 ([Value.int .u32 (1)] ++ ([] : List Value)) ([(1 : UInt32)] : List UInt32) := (RL.cons (rpU32c (x := (1 : UInt32)) rfl) RL.nil)
  refine p_of1 (a_bslice (N := 1) (vals := [(0, .int .u32 (1))]) (l := ([Value.int .u32 (1)] ++ ([] : List Value))) tn63 H rfl rfl rfl g12.len) ?_; clear H; intro w8 v10 H
  generalize ([Value.int .u32 (1)] ++ ([] : List Value)) = cs4 at H g12
  replace H : HS ⟨S, [], w⟩ S5 w8 [.osl (v10) (([(1 : UInt32)] : List UInt32)).length 1 cs4 [] 107, .osl (v9) (([(1 : UInt32)] : List UInt32)).length 1 cs3 [] 107] := H
  refine p_want (gvl_at rfl rfl (k5 22)) hb2 ?_
  obtain ⟨y4, e4, hE3⟩ := bnd hE3
  refine p_call (l := [v6, v10]) is69 rfl ?_
  refine (seneschalref06_Cmp_c (subMem w8) (g8.mono H.sub) (RdS.ofOwn H (k := 0) rfl g12) e4).mono ?_; rintro _ w9 ⟨rfl, hx⟩; replace H := H.ext hx; clear hx
  refine p_want (gvl_at rfl rfl (k5 22)) hb2 ?_
  refine p_val (r_neqI rfl rfl) ?_
  refine p_val (r_pickt (v := .bool ((y4 != 0))) (k5 22) hb2 rfl) ?_
  refine hR4 _ _ ?_
  replace H := H.sel [1] rfl
  replace H : HS ⟨S, [], w⟩ S5 w9 [.osl (v9) (([(1 : UInt32)] : List UInt32)).length 1 cs3 [] 107] := H
  obtain rfl := osi hE3
  exact J3 _ _ kcx rfl H
 ·replace hE3 := cnd_f hE3 hb2
  refine p_skip (gvl_at rfl rfl (k5 22)) hb2 ?_
  rw [put_fr]
  refine p_skip (gvl_at rfl rfl (k5 22)) hb2 ?_
  rw [put_fr]
  refine p_skip (gvl_at rfl rfl (k5 22)) hb2 ?_
  rw [put_fr]
  refine p_skip (gvl_at rfl rfl (k5 22)) hb2 ?_
  rw [put_fr]
  refine p_val (r_pickf (v := .bool (false)) (k5 22) hb2 rfl) ?_
  refine hR4 _ _ ?_
  replace H : HS ⟨S, [], w⟩ S5 w7 [.osl (v9) (([(1 : UInt32)] : List UInt32)).length 1 cs3 [] 107] := H
  obtain rfl := osi hE3
  exact J3 _ _ kcx rfl H
end Go.Proofs.YtmbcolbbekbccaaGreat
namespace Go.Proofs.YtmbcolbbekbccaaGreat
open Go Go.RowKit
attribute [local irreducible] wpList wpT Code.wp Calls Code.rounds
theorem is38 : IsFn Tryz.prog 38 := isFn Tryz.func38 (by kernel_rfl) (by kernel_rfl)
theorem is65 : IsFn Tryz.prog 65 := isFn Tryz.func65 (by kernel_rfl) (by kernel_rfl)
theorem is106 : IsFn Tryz.prog 106 := isFn Tryz.func106 (by kernel_rfl) (by kernel_rfl)
theorem is114 : IsFn Tryz.prog 114 := isFn Tryz.func114 (by kernel_rfl) (by kernel_rfl)
theorem is115 : IsFn Tryz.prog 115 := isFn Tryz.func115 (by kernel_rfl) (by kernel_rfl)
theorem is116 : IsFn Tryz.prog 116 := isFn Tryz.func116 (by kernel_rfl) (by kernel_rfl)
theorem is152 : IsFn Tryz.prog 152 := isFn Tryz.func152 (by kernel_rfl) (by kernel_rfl)
def seneschalref07_Base_p  : Option (Qp) :=
  some ((((17627433388654248598 : UInt64), (8575836109218198432 : UInt64), (17923454489921339634 : UInt64), (7716867327612699207 : UInt64)), ((14678990851816772085 : UInt64), (3156516839386865358 : UInt64), (10297457778147434006 : UInt64), (5756518291402817435 : UInt64)), false))
theorem seneschalref07_Base_c {S : Mem} {w : World} (hS : Sub S w)  {r : Qp} (hF : seneschalref07_Base_p = some r) :
    Calls Tryz.prog 83 #[] w fun e w' => e = .returned (.agg ((cl26 r)).toArray) ∧ Ext w w' := by
 refine enter (n := 4) Tryz.func83 rfl rfl rfl ?_
 have H := HS.start hS
 unfold seneschalref07_Base_p at hF
 refine sr ?_; intro K1 hK1
 refine p_ofb (a_alloc (l := (cl26 (((0 : UInt64), (0 : UInt64), (0 : UInt64), (0 : UInt64)), ((0 : UInt64), (0 : UInt64), (0 : UInt64), (0 : UInt64)), false))) H tz26 rfl) ?_; clear H; intro w1 b1 H
 refine xk hK1 ?_; clear hK1
 refine sr ?_; intro K2 hK2
 refine p_val (r_build (vals := [(0, .int .u64 (17627433388654248598)), (1, .int .u64 (8575836109218198432)), (2, .int .u64 (17923454489921339634)), (3, .int .u64 (7716867327612699207))]) (l := (cl24 ((17627433388654248598 : UInt64), (8575836109218198432 : UInt64), (17923454489921339634 : UInt64), (7716867327612699207 : UInt64)))) tb24 rfl rfl) ?_
 refine p_val (r_build (vals := [(0, .int .u64 (14678990851816772085)), (1, .int .u64 (3156516839386865358)), (2, .int .u64 (10297457778147434006)), (3, .int .u64 (5756518291402817435))]) (l := (cl24 ((14678990851816772085 : UInt64), (3156516839386865358 : UInt64), (10297457778147434006 : UInt64), (5756518291402817435 : UInt64)))) tb24 rfl rfl) ?_
 refine p_val (r_build (vals := [(0, .agg ((cl24 ((17627433388654248598 : UInt64), (8575836109218198432 : UInt64), (17923454489921339634 : UInt64), (7716867327612699207 : UInt64)))).toArray), (1, .agg ((cl24 ((14678990851816772085 : UInt64), (3156516839386865358 : UInt64), (10297457778147434006 : UInt64), (5756518291402817435 : UInt64)))).toArray)]) (l := (cl26 (((17627433388654248598 : UInt64), (8575836109218198432 : UInt64), (17923454489921339634 : UInt64), (7716867327612699207 : UInt64)), ((14678990851816772085 : UInt64), (3156516839386865358 : UInt64), (10297457778147434006 : UInt64), (5756518291402817435 : UInt64)), false))) tb26 rfl rfl) ?_
 refine p_ofs (a_store (k := 0) (v := .agg ((cl26 (((17627433388654248598 : UInt64), (8575836109218198432 : UInt64), (17923454489921339634 : UInt64), (7716867327612699207 : UInt64)), ((14678990851816772085 : UInt64), (3156516839386865358 : UInt64), (10297457778147434006 : UInt64), (5756518291402817435 : UInt64)), false))).toArray) (l := (cl26 (((17627433388654248598 : UInt64), (8575836109218198432 : UInt64), (17923454489921339634 : UInt64), (7716867327612699207 : UInt64)), ((14678990851816772085 : UInt64), (3156516839386865358 : UInt64), (10297457778147434006 : UInt64), (5756518291402817435 : UInt64)), false))) tsz26 H rfl rfl rfl (cells_agg _) rfl (fun u hu => List.all_eq_true.1 (rfl : ((cl26 (((17627433388654248598 : UInt64), (8575836109218198432 : UInt64), (17923454489921339634 : UInt64), (7716867327612699207 : UInt64)), ((14678990851816772085 : UInt64), (3156516839386865358 : UInt64), (10297457778147434006 : UInt64), (5756518291402817435 : UInt64)), false))).all (·.oneCell') = true) u hu) rfl) ?_; clear H; intro w2 H
 replace H : HS ⟨S, [], w⟩ S w2 [.blk b1 ((cl26 (((17627433388654248598 : UInt64), (8575836109218198432 : UInt64), (17923454489921339634 : UInt64), (7716867327612699207 : UInt64)), ((14678990851816772085 : UInt64), (3156516839386865358 : UInt64), (10297457778147434006 : UInt64), (5756518291402817435 : UInt64)), false))) 26] := H
 refine xk hK2 ?_; clear hK2
 refine wp_ret ?_
 obtain rfl := osi hF
 refine e_1 rfl (qh_cell (l := (cl26 (((17627433388654248598 : UInt64), (8575836109218198432 : UInt64), (17923454489921339634 : UInt64), (7716867327612699207 : UInt64)), ((14678990851816772085 : UInt64), (3156516839386865358 : UInt64), (10297457778147434006 : UInt64), (5756518291402817435 : UInt64)), false))) tg26 H rfl (k := 0) rfl rfl rfl) ?_
 exact ⟨rfl, H.toExt⟩
def seneschalref07_times_p (x0 : List UInt32) (x1 : List UInt32) : Option ((List UInt32)) :=
  Option.bind (seneschalref06_Product_p 0 x0 x1) fun y1 => some (y1)
theorem seneschalref07_times_c {S : Mem} {w : World} (hS : Sub S w) {v0_ : Value} {x0 : List UInt32} (h0_ : RdS S v0_ x0) {v1_ : Value} {x1 : List UInt32} (h1_ : RdS S v1_ x1) {r : (List UInt32)} (hF : seneschalref07_times_p x0 x1 = some r) :
    Calls Tryz.prog 116 #[v0_, v1_] w fun e w' => Ext w w' ∧ ∃ (v0' : Value), e = .returned (v0') ∧ RdS (gr S w w') v0' r := by
 refine enter (n := 8) Tryz.func116 rfl rfl rfl ?_
 have H := HS.start hS
 unfold seneschalref07_times_p at hF
 refine sr ?_; intro K1 hK1
 refine p_as (v := .slice none 0 0) rfl ?_
 refine xk hK1 ?_; clear hK1
 refine sr ?_; intro K2 hK2
 refine p_mv (v := v0_) rfl ?_
 refine p_mv (v := v1_) rfl ?_
 obtain ⟨y1, e1, hF⟩ := bnd hF
 refine p_call (l := [.int .i64 (0), v0_, v1_]) is65 rfl ?_
 refine (seneschalref06_Product_c H.sub h0_ h1_ e1).mono ?_; rintro _ w1 ⟨hx, v1, rfl, g1⟩
 have hle1 := gr_le (w' := w1) H.sub; replace H := H.call hx; clear hx; generalize gr S w w1 = S1 at hle1 H g1
 replace h0_ := RdS.mono h0_ hle1
 replace h1_ := RdS.mono h1_ hle1
 refine p_as (v := v1) rfl ?_
 refine xk hK2 ?_; clear hK2
 refine wp_ret ?_
 obtain rfl := osi hF
 refine e_1 rfl (q_tmp (v := v1) rfl) ?_
 exact ⟨H.toExt, _, rfl, RdS.mono g1 H.gr⟩
def seneschalref07_plus_p (x0 : List UInt32) (x1 : List UInt32) : Option ((List UInt32)) :=
  Option.bind (seneschalref06_Sum_p 0 x0 x1) fun y1 => some (y1)
theorem seneschalref07_plus_c {S : Mem} {w : World} (hS : Sub S w) {v0_ : Value} {x0 : List UInt32} (h0_ : RdS S v0_ x0) {v1_ : Value} {x1 : List UInt32} (h1_ : RdS S v1_ x1) {r : (List UInt32)} (hF : seneschalref07_plus_p x0 x1 = some r) :
    Calls Tryz.prog 114 #[v0_, v1_] w fun e w' => Ext w w' ∧ ∃ (v0' : Value), e = .returned (v0') ∧ RdS (gr S w w') v0' r := by
 refine enter (n := 8) Tryz.func114 rfl rfl rfl ?_
 have H := HS.start hS
 unfold seneschalref07_plus_p at hF
 refine sr ?_; intro K1 hK1
 refine p_as (v := .slice none 0 0) rfl ?_
 refine xk hK1 ?_; clear hK1
 refine sr ?_; intro K2 hK2
 refine p_mv (v := v0_) rfl ?_
 refine p_mv (v := v1_) rfl ?_
 obtain ⟨y1, e1, hF⟩ := bnd hF
 refine p_call (l := [.int .i64 (0), v0_, v1_]) is106 rfl ?_
 refine (seneschalref06_Sum_c H.sub h0_ h1_ e1).mono ?_; rintro _ w1 ⟨hx, v1, rfl, g1⟩
 have hle1 := gr_le (w' := w1) H.sub; replace H := H.call hx; clear hx; generalize gr S w w1 = S1 at hle1 H g1
 replace h0_ := RdS.mono h0_ hle1
 replace h1_ := RdS.mono h1_ hle1
 refine p_as (v := v1) rfl ?_
 refine xk hK2 ?_; clear hK2
 refine wp_ret ?_
 obtain rfl := osi hF
 refine e_1 rfl (q_tmp (v := v1) rfl) ?_
 exact ⟨H.toExt, _, rfl, RdS.mono g1 H.gr⟩
def seneschalref07_minus_p (x0 : List UInt32) (x1 : List UInt32) : Option ((List UInt32)) :=
  Option.bind (seneschalref06_Opposite_p 0 x1) fun y1 => Option.bind (seneschalref06_Sum_p 0 x0 y1) fun y2 => some (y2)
theorem seneschalref07_minus_c {S : Mem} {w : World} (hS : Sub S w) {v0_ : Value} {x0 : List UInt32} (h0_ : RdS S v0_ x0) {v1_ : Value} {x1 : List UInt32} (h1_ : RdS S v1_ x1) {r : (List UInt32)} (hF : seneschalref07_minus_p x0 x1 = some r) :
    Calls Tryz.prog 115 #[v0_, v1_] w fun e w' => Ext w w' ∧ ∃ (v0' : Value), e = .returned (v0') ∧ RdS (gr S w w') v0' r := by
 refine enter (n := 9) Tryz.func115 rfl rfl rfl ?_
 have H := HS.start hS
 unfold seneschalref07_minus_p at hF
 refine sr ?_; intro K1 hK1
 refine p_as (v := .slice none 0 0) rfl ?_
 refine xk hK1 ?_; clear hK1
 refine sr ?_; intro K2 hK2
 refine p_mv (v := v0_) rfl ?_
 refine p_mv (v := v1_) rfl ?_
 obtain ⟨y1, e1, hF⟩ := bnd hF
 refine p_call (l := [.int .i64 (0), v1_]) is152 rfl ?_
 refine (seneschalref06_Opposite_c H.sub h1_ e1).mono ?_; rintro _ w1 ⟨hx, v1, rfl, g1⟩
 have hle1 := gr_le (w' := w1) H.sub; replace H := H.call hx; clear hx; generalize gr S w w1 = S1 at hle1 H g1
 replace h0_ := RdS.mono h0_ hle1
 replace h1_ := RdS.mono h1_ hle1
 obtain ⟨y2, e2, hF⟩ := bnd hF
 refine p_call (l := [.int .i64 (0), v0_, v1]) is106 rfl ?_
 refine (seneschalref06_Sum_c H.sub h0_ g1 e2).mono ?_; rintro _ w2 ⟨hx, v2, rfl, g2⟩
 have hle2 := gr_le (w' := w2) H.sub; replace H := H.call hx; clear hx; generalize gr S1 w1 w2 = S2 at hle2 H g2
 replace h0_ := RdS.mono h0_ hle2
 replace g1 := RdS.mono g1 hle2
 refine p_as (v := v2) rfl ?_
 refine xk hK2 ?_; clear hK2
 refine wp_ret ?_
 obtain rfl := osi hF
 refine e_1 rfl (q_tmp (v := v2) rfl) ?_
 exact ⟨H.toExt, _, rfl, RdS.mono g2 H.gr⟩
end Go.Proofs.YtmbcolbbekbccaaGreat
