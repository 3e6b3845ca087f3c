/- What some functions compute, and that they do. Conditions: as each theorem says. -/
import Derived.Test.YtjmgilhlpohcmaaRfA
namespace Go.Proofs.Ytjmgilhlpohcmaa
open Go Go.RowKit
attribute [local irreducible] wpList wpT Code.wp Calls Code.rounds
theorem is20 : IsFn Try.prog 20 := isFn Try.func20 (by kernel_rfl) (by kernel_rfl)
theorem is29 : IsFn Try.prog 29 := isFn Try.func29 (by kernel_rfl) (by kernel_rfl)
theorem is35 : IsFn Try.prog 35 := isFn Try.func35 (by kernel_rfl) (by kernel_rfl)
theorem is58 : IsFn Try.prog 58 := isFn Try.func58 (by kernel_rfl) (by kernel_rfl)
theorem is59 : IsFn Try.prog 59 := isFn Try.func59 (by kernel_rfl) (by kernel_rfl)
theorem is63 : IsFn Try.prog 63 := isFn Try.func63 (by kernel_rfl) (by kernel_rfl)
def seneschalref06_Left_b1 (s2 : Int × (List UInt32)) : Option ((Int × (List UInt32)) ⊕ ((List UInt32))) :=
  bif decide ((0 : Int) < s2.1) then (Option.bind (idx s2.2 (w64 (s2.1 - 1))) fun y2 => Option.bind (idx s2.2 s2.1) fun y3 => Option.bind (setL s2.2 (s2.1 : Int) y2) fun y4 => some (.inl (((w64 (s2.1 - 1)), y4)))) else (some (.inr (s2.2)))
def seneschalref06_Left_b3 (x1 : List UInt32) (t5 : UInt32) (s4 : UInt64 × Int × (List UInt32)) : Option ((UInt64 × Int × (List UInt32)) ⊕ ((List UInt32))) :=
  bif decide (s4.2.1 ≤ ((x1).length : Int)) then (Option.bind (bif decide (s4.2.1 < ((x1).length : Int)) then (Option.bind (idx x1 s4.2.1) fun y12 => some ((i64 (((s4.1).toNat : Int) + (((i64 ((((i64 ((t5).toNat : Int))).toNat : Int) * (((i64 ((y12).toNat : Int))).toNat : Int)))).toNat : Int))))) else (some (s4.1))) (fun t6 => Option.bind (idx s4.2.2 s4.2.1) fun y13 => Option.bind (idx s4.2.2 s4.2.1) fun y14 => Option.bind (setL s4.2.2 (s4.2.1 : Int) (i32 ((((i64 ((((i64 ((((i64 ((y13).toNat : Int))).toNat : Int) + 1099511627776))).toNat : Int) - ((t6).toNat : Int))) &&& (65535 : UInt64))).toNat : Int))) fun y15 => some (.inl (((i64 ((16777216 : Int) - (((i64 (shrI .u64 (((i64 ((((i64 ((((i64 ((y13).toNat : Int))).toNat : Int) + 1099511627776))).toNat : Int) - ((t6).toNat : Int)))).toNat : Int) 16))).toNat : Int))), (w64 (s4.2.1 + 1)), y15))))) else (some (.inr (s4.2.2)))
def seneschalref06_Left_b2 (x1 : List UInt32) (s3 : (List UInt32)) : Option (((List UInt32)) ⊕ ((List UInt32))) :=
  Option.bind (idx s3 ((x1).length : Int)) fun y8 => Option.bind (bif decide ((0 : Int) < ((y8).toNat : Int)) then (some (true)) else (Option.bind (subH s3 ((x1).length : Int)) fun y9 => Option.bind (seneschalref06_Cmp_p y9 x1) fun y10 => some (decide ((0 : Int) ≤ y10)))) (fun t4 => bif t4 then (Option.bind (idx s3 ((x1).length : Int)) fun y11 => Option.bind (bif (((y11).toNat : Int) == 0) then (some ((1 : UInt32))) else (some (y11))) (fun t5 => Option.bind (iter (seneschalref06_Left_b3 x1 t5) (((0 : UInt64), 0, s3))) (fun e => some (.inl (e))))) else (some (.inr (s3))))
def seneschalref06_Left_b0 (x0 : List UInt32) (x1 : List UInt32) (s1 : Int × (List UInt32)) : Option ((Int × (List UInt32)) ⊕ ((List UInt32))) :=
  bif decide ((0 : Int) ≤ s1.1) then (Option.bind (Option.bind (Option.bind (iter (seneschalref06_Left_b1) ((((x1).length : Int), s1.2))) (fun e => some (e))) (fun t3 => Option.bind (idx x0 s1.1) fun y5 => Option.bind (idx t3 0) fun y6 => Option.bind (setL t3 (0 : Int) y5) fun y7 => Option.bind (iter (seneschalref06_Left_b2 x1) (y7)) (fun e => some (e)))) (fun t2 => some (.inl (((w64 (s1.1 - 1)), t2))))) else (some (.inr (s1.2)))
def seneschalref06_Left_p (x0 : List UInt32) (x1 : List UInt32) : Option ((List UInt32)) :=
  Option.bind (mkL (w64 (((x1).length : Int) + 1)) (0 : UInt32)) fun y1 => Option.bind (Option.bind (iter (seneschalref06_Left_b0 x0 x1) (((w64 (((x0).length : Int) - 1)), y1))) (fun e => some (e))) (fun t1 => Option.bind (seneschalref06_trim_p t1) fun y16 => some (y16))
theorem seneschalref06_Left_c {S : Mem} {w : World} (hS : Sub S w) {v0_ : Value} {x0 : List UInt32} (h0_ : RdS S v0_ x0) {v1_ : Value} {x1 : List UInt32} (h1_ : RdS S v1_ x1) {r : (List UInt32)} (hF : seneschalref06_Left_p x0 x1 = some r) :
    Calls Try.prog 29 #[v0_, v1_] w fun e w' => Ext w w' ∧ ∃ (v0' : Value), e = .returned (v0') ∧ RdS (gr S w w') v0' r := by
 refine enter (n := 102) Try.func29 rfl rfl rfl ?_
 have H := HS.start hS
 unfold seneschalref06_Left_p at hF
 refine sr ?_; intro K1 hK1
 refine p_as (v := .slice none 0 0) rfl ?_
 refine xk hK1 ?_; clear hK1
 refine sr ?_; intro K2 hK2
 refine p_mv (v := v1_) rfl ?_
 refine p_val (r_lenR' u26 rfl h1_ H.sub) ?_
 refine p_as (v := .int .i64 (((x1).length : Int))) rfl ?_
 refine xk hK2 ?_; clear hK2
 refine sr ?_; intro K3 hK3
 refine p_mv (v := .int .i64 (((x1).length : Int))) rfl ?_
 refine p_val (r_add (r := w64 (((x1).length : Int) + 1)) rfl rfl rfl) ?_
 obtain ⟨y1, e1, hF⟩ := bnd hF
 refine p_of1 (a_makeX (zx := (0 : UInt32)) tn26 rfl H rfl rfl (rpU32c (x := (0 : UInt32)) rfl) e1 (Int.le_refl _) (mkL_some e1).2.1) ?_; clear H; rintro w1 v1 ⟨cs1, rs1, H, g1⟩
 replace H : HS ⟨S, [], w⟩ S w1 [.osl (v1) (y1).length 1 cs1 rs1 76] := H
 refine p_as (v := v1) rfl ?_
 refine xk hK3 ?_; clear hK3
 refine wp_seq_k ?_; intro K4 hK4
 refine nameF fun m1 k1 => ?_
 obtain ⟨t1, hE1, hF1⟩ := bnd hF
 have J6 : ∀ (cs17 rs8 : List Value) (m20 : FM) (w15 : World), (∀ t, has [7, 8, 9, 10, 11, 12, 13, 19, 20, 21, 22, 23, 24, 25, 26, 27, 28, 29, 30, 31, 32, 33, 34, 35, 36, 37, 38, 39, 40, 41, 42, 43, 44, 45, 46, 47, 48, 49, 50, 51, 52, 53, 54, 55, 56, 57, 58, 59, 60, 61, 62, 63, 64, 65, 66, 67, 68, 69, 70, 71, 72, 73, 74, 75, 76, 77, 78, 79, 80, 81, 82, 83, 84, 85, 86, 87, 88, 89, 90, 91, 92, 93, 94, 95, 96, 97, 98, 99] t = false → look m20 t = look m1 t) → HS ⟨S, [], w⟩ S w15 [.osl (v1) (t1).length 1 cs17 rs8 76] → RL S cs17 t1 → K4 (fr 102 m20) w15 := by
  clear H; intro cs17 rs8 m20 w15 k24 H g12
  have q55 : look m20 6 = v1 := (k24 6 rfl).trans (k1 6)
  refine hK4 _ _ ?_
  refine sr ?_; intro K31 hK31
  refine p_mv (v := v1) q55 ?_
  obtain ⟨S1, hle1, g13, H1⟩ := H.fixX (k := 0) rfl g12; clear H; have H := H1; clear H1
  replace H : HS ⟨S, [], w⟩ S1 w15 [] := H
  obtain ⟨y16, e16, hF1⟩ := bnd hF1
  refine p_call (l := [v1]) is55 rfl ?_
  refine (seneschalref06_trim_c H.sub g13 e16).mono ?_; rintro _ w16 ⟨hx, v9, rfl, g14⟩
  have hle2 := gr_le (w' := w16) H.sub; replace H := H.call hx; clear hx; generalize gr S1 w15 w16 = S2 at hle2 H g14
  replace g13 := RdS.mono g13 hle2
  refine p_as (v := v9) rfl ?_
  refine xk hK31 ?_; clear hK31
  refine wp_ret ?_
  obtain rfl := Option.some.inj hF1
  refine e_1 rfl (q_tmp (v := v9) rfl) ?_
  exact ⟨H.toExt, _, rfl, RdS.mono g14 H.gr⟩
 refine sr ?_; intro K5 hK5
 refine p_mv (v := v0_) (k1 0) ?_
 refine p_val (r_lenR' u26 rfl h0_ H.sub) ?_
 refine p_val (r_sub (r := w64 (((x0).length : Int) - 1)) rfl rfl rfl) ?_
 refine p_as (v := .int .i64 ((w64 (((x0).length : Int) - 1)))) rfl ?_
 refine xk hK5 ?_; clear hK5
 refine wp_block ?_
 refine nameF fun m2 k2 => ?_
 obtain ⟨out1, hL1, hE2⟩ := bnd hE1
 replace H : HS ⟨S, [], w⟩ S w1 [.osl (v1) (y1).length 1 cs1 rs1 76] := H
 refine loopI [7, 8, 9, 10, 11, 12, 13, 22, 23, 24, 25, 26, 27, 28, 29, 30, 31, 32, 33, 34, 35, 36, 37, 38, 39, 40, 41, 42, 43, 44, 45, 46, 47, 48, 49, 50, 51, 52, 53, 54, 55, 56, 57, 58, 59, 60, 61, 62, 63, 64, 65, 66, 67, 68, 69, 70, 71, 72, 73, 74, 75, 76, 77, 78, 79, 80, 81, 82, 83, 84, 85, 86, 87, 88, 89, 90, 91, 92, 93, 94, 95, 96, 97, 98, 99] (fun (s1 : Int × (List UInt32)) (m3 : FM) (w2 : World) => ∃ (cs2 rs2 : List Value), look m3 7 = .int .i64 (s1.1) ∧ HS ⟨S, [], w⟩ S w2 [.osl (v1) (s1.2).length 1 cs2 rs2 76] ∧ RL S cs2 s1.2) hL1 ⟨_, _, (k2 7), H, g1⟩ ?_
 clear H; intro k4 s1 m3 w2 k3 hI1 o2 hb1 hh1; obtain ⟨cs2, rs2, q1, H, g2⟩ := hI1
 have q2 : look m3 0 = v0_ := (k3 0 rfl).trans ((k2 0).trans (k1 0))
 have q3 : look m3 1 = v1_ := (k3 1 rfl).trans ((k2 1).trans (k1 1))
 have q4 : look m3 5 = .int .i64 (((x1).length : Int)) := (k3 5 rfl).trans ((k2 5).trans (k1 5))
 have q5 : look m3 6 = v1 := (k3 6 rfl).trans ((k2 6).trans (k1 6))
 unfold seneschalref06_Left_b0 at hb1
 refine wp_seq_k ?_; intro K6 hK6
 refine sr ?_; intro K7 hK7
 refine p_mv (v := .int .i64 (s1.1)) q1 ?_
 refine p_val (r_geq (t := decide ((0 : Int) ≤ s1.1)) rfl rfl rfl) ?_
 refine xk hK7 ?_; clear hK7
 refine c_split (t := decide ((0 : Int) ≤ s1.1)) rfl (fun hc1 => ?_) (fun hc1 => ?_)
 ·replace hb1 := cnd_t hb1 hc1
  refine wp_skip ?_
  refine xn hK6 ?_; clear hK6
  refine wp_seq_k ?_; intro K8 hK8
  refine nameF fun m4 k5 => ?_
  obtain ⟨t2, hE3, hF2⟩ := bnd hb1
  have J5 : ∀ (cs16 rs7 : List Value) (m19 : FM) (w14 : World), (∀ t, has [8, 9, 10, 11, 12, 13, 26, 27, 28, 29, 30, 31, 32, 33, 34, 35, 36, 37, 38, 39, 40, 41, 42, 43, 44, 45, 46, 47, 48, 49, 50, 51, 52, 53, 54, 55, 56, 57, 58, 59, 60, 61, 62, 63, 64, 65, 66, 67, 68, 69, 70, 71, 72, 73, 74, 75, 76, 77, 78, 79, 80, 81, 82, 83, 84, 85, 86, 87, 88, 89, 90, 91, 92, 93, 94, 95, 96, 97, 98, 99] t = false → look m19 t = look m4 t) → HS ⟨S, [], w⟩ S w14 [.osl (v1) (t2).length 1 cs16 rs7 76] → RL S cs16 t2 → K8 (fr 102 m19) w14 := by
   clear H; intro cs16 rs7 m19 w14 k23 H g11
   have q50 : look m19 0 = v0_ := (k23 0 rfl).trans ((k5 0).trans q2)
   have q51 : look m19 1 = v1_ := (k23 1 rfl).trans ((k5 1).trans q3)
   have q52 : look m19 5 = .int .i64 (((x1).length : Int)) := (k23 5 rfl).trans ((k5 5).trans q4)
   have q53 : look m19 6 = v1 := (k23 6 rfl).trans ((k5 6).trans q5)
   have q54 : look m19 7 = .int .i64 (s1.1) := (k23 7 rfl).trans ((k5 7).trans q1)
   refine hK8 _ _ ?_
   refine wp_region_lit ?_
   refine p_mv (v := .int .i64 (s1.1)) q54 ?_
   refine p_val (r_sub (r := w64 (s1.1 - 1)) rfl rfl rfl) ?_
   refine p_as (v := .int .i64 ((w64 (s1.1 - 1)))) rfl ?_
   refine wpList_nil ?_
   refine x_norm ?_
   replace H : HS ⟨S, [], w⟩ S w14 [.osl (v1) (t2).length 1 cs16 rs7 76] := H
   obtain rfl := Option.some.inj hF2
   exact ⟨((w64 (s1.1 - 1)), t2), _, rfl, (by (repeat (refine keep_cons rfl ?_)); refine keep_sub k23 rfl ?_; (repeat (refine keep_cons rfl ?_)); refine keep_name k5 ?_; (repeat (refine keep_cons rfl ?_)); refine keep_sub k3 rfl ?_; (repeat (refine keep_cons rfl ?_)); exact fun _ _ => rfl), ⟨_, _, rfl, H, g11⟩, hh1⟩
  refine wp_block ?_
  refine wp_seq_k ?_; intro K9 hK9
  refine nameF fun m5 k6 => ?_
  obtain ⟨t3, hE4, hF3⟩ := bnd hE3
  have J4 : ∀ (cs6 rs4 : List Value) (m8 : FM) (w5 : World), (∀ t, has [8, 26, 27, 28, 29, 30, 31, 32, 33, 34, 35, 36, 37, 38] t = false → look m8 t = look m5 t) → HS ⟨S, [], w⟩ S w5 [.osl (v1) (t3).length 1 cs6 rs4 76] → RL S cs6 t3 → K9 (fr 102 m8) w5 := by
   clear H; intro cs6 rs4 m8 w5 k10 H g5
   have q12 : look m8 0 = v0_ := (k10 0 rfl).trans ((k6 0).trans ((k5 0).trans q2))
   have q13 : look m8 1 = v1_ := (k10 1 rfl).trans ((k6 1).trans ((k5 1).trans q3))
   have q14 : look m8 5 = .int .i64 (((x1).length : Int)) := (k10 5 rfl).trans ((k6 5).trans ((k5 5).trans q4))
   have q15 : look m8 6 = v1 := (k10 6 rfl).trans ((k6 6).trans ((k5 6).trans q5))
   have q16 : look m8 7 = .int .i64 (s1.1) := (k10 7 rfl).trans ((k6 7).trans ((k5 7).trans q1))
   refine hK9 _ _ ?_
   refine sr ?_; intro K14 hK14
   refine p_mv (v := v1) q15 ?_
   refine p_mv (v := v0_) q12 ?_
   refine p_mv (v := .int .i64 (s1.1)) q16 ?_
   obtain ⟨y5, e5, hF3⟩ := bnd hF3
   obtain ⟨b3, o6, N1, c3, cs7, hv3, hi1, hc3, hr2⟩ := h0_.get (idx_some e5).2
   refine p_val (r_addrV (i := (s1.1 : Int).toNat) u26 tsz76 rfl hv3 rfl (idx_some e5).1 hi1) ?_
   obtain rfl := elU32 hr2
   refine p_val (s_load1 (p := (o6 + (s1.1 : Int).toNat * 1)) (o := 0) (v := .int .u32 (((y5).toNat : Int))) to76 H.sub rfl hc3 rfl) ?_
   obtain ⟨y6, e6, hF3⟩ := bnd hF3
   obtain ⟨b4, c4, hv4⟩ := H.ownAt (k := 0) rfl (idx_lt e6)
   refine p_val (r_addrV (i := (0 : Int).toNat) u26 tsz76 rfl hv4 rfl (idx_some e6).1 (idx_lt e6)) ?_
   subst hv4
   obtain ⟨y7, e7, hF3⟩ := bnd hF3
   refine p_ofs (a_storeX (k := 0) (v := .int .u32 (((y5).toNat : Int))) (l := [Value.int .u32 (((y5).toNat : Int))]) tsz76 rfl H rfl g5 rfl rfl (cells_one rfl) rpU32 e7) ?_; clear H; rintro w6 ⟨cs8, H, g6⟩
   replace H : HS ⟨S, [], w⟩ S w6 [.osl (sl b4 0 (t3).length c4) (y7).length 1 cs8 rs4 76] := H
   refine xk hK14 ?_; clear hK14
   refine wp_block ?_
   refine nameF fun m9 k11 => ?_
   obtain ⟨out3, hL3, hE6⟩ := bnd hF3
   replace H : HS ⟨S, [], w⟩ S w6 [.osl (sl b4 0 (t3).length c4) (y7).length 1 cs8 rs4 76] := H
   refine loopI [9, 10, 11, 12, 13, 45, 46, 47, 48, 49, 50, 51, 52, 53, 54, 55, 56, 57, 58, 59, 60, 61, 62, 63, 64, 65, 66, 67, 68, 69, 70, 71, 72, 73, 74, 75, 76, 77, 78, 79, 80, 81, 82, 83, 84, 85, 86, 87, 88, 89, 90, 91, 92, 93, 94, 95, 96, 97, 98, 99] (fun (s3 : (List UInt32)) (m10 : FM) (w7 : World) => ∃ (cs9 rs5 : List Value), HS ⟨S, [], w⟩ S w7 [.osl (sl b4 0 (t3).length c4) (s3).length 1 cs9 rs5 76] ∧ RL S cs9 s3) hL3 ⟨_, _, H, g6⟩ ?_
   clear H; intro k13 s3 m10 w7 k12 hI3 o7 hb3 hh3; obtain ⟨cs9, rs5, H, g7⟩ := hI3
   have q17 : look m10 0 = v0_ := (k12 0 rfl).trans ((k11 0).trans q12)
   have q18 : look m10 1 = v1_ := (k12 1 rfl).trans ((k11 1).trans q13)
   have q19 : look m10 5 = .int .i64 (((x1).length : Int)) := (k12 5 rfl).trans ((k11 5).trans q14)
   have q20 : look m10 6 = sl b4 0 (t3).length c4 := (k12 6 rfl).trans ((k11 6).trans q15)
   have q21 : look m10 7 = .int .i64 (s1.1) := (k12 7 rfl).trans ((k11 7).trans q16)
   unfold seneschalref06_Left_b2 at hb3
   refine wp_seq_k ?_; intro K15 hK15
   refine sr ?_; intro K16 hK16
   refine p_mv (v := sl b4 0 (t3).length c4) q20 ?_
   refine p_mv (v := .int .i64 (((x1).length : Int))) q19 ?_
   obtain ⟨y8, e8, hb3⟩ := bnd hb3
   refine p_val (r_addrV (i := (((x1).length : Int) : Int).toNat) u26 tsz76 rfl (HS.ownV H (k := 0) rfl) rfl (idx_some e8).1 (idx_lt e8)) ?_
   have hr3 := RL.get g7 (idx_some e8).2; generalize hghr3 : piece cs9 _ _ = cs10 at hr3
   obtain rfl := elU32 hr3
   refine p_val (o_load1 (v := .int .u32 (((y8).toNat : Int))) to76 H (k := 0) rfl rfl (idx_lt e8) hghr3) ?_
   refine p_val (r_gtr (t := decide ((0 : Int) < ((y8).toNat : Int))) rfl rfl rfl) ?_
   refine p_mv (v := .bool (decide ((0 : Int) < ((y8).toNat : Int)))) rfl ?_
   refine nameL fun m11 k14 => ?_
   refine gs_at 7 fun K17 hK17 R2 hR2 => ?_
   obtain ⟨t4, hE7, hF4⟩ := bnd hb3
   have J3 : ∀ (m12 : FM) (w9 : World), (∀ t, has [51, 52, 53, 54, 55, 56, 57] t = false → look m12 t = look m11 t) → look m12 57 = .bool (t4) → HS ⟨S, [], w⟩ S w9 [.osl (sl b4 0 (t3).length c4) (s3).length 1 cs9 rs5 76] → K17 m12 w9 := by
    clear H; intro m12 w9 k15 q22 H
    have q23 : look m12 0 = v0_ := (k15 0 rfl).trans ((k14 0).trans q17)
    have q24 : look m12 1 = v1_ := (k15 1 rfl).trans ((k14 1).trans q18)
    have q25 : look m12 5 = .int .i64 (((x1).length : Int)) := (k15 5 rfl).trans ((k14 5).trans q19)
    have q26 : look m12 6 = sl b4 0 (t3).length c4 := (k15 6 rfl).trans ((k14 6).trans q20)
    have q27 : look m12 7 = .int .i64 (s1.1) := (k15 7 rfl).trans ((k14 7).trans q21)
    refine hK17 _ _ ?_
    refine xk hK16 ?_; clear hK16
    refine c_split (t := t4) q22 (fun hc4 => ?_) (fun hc4 => ?_)
    ·replace hF4 := cnd_t hF4 hc4
     refine wp_skip ?_
     refine xn hK15 ?_; clear hK15
     refine wp_block ?_
     refine sr ?_; intro K18 hK18
     refine p_mv (v := sl b4 0 (t3).length c4) q26 ?_
     refine p_mv (v := .int .i64 (((x1).length : Int))) q25 ?_
     obtain ⟨y11, e11, hF4⟩ := bnd hF4
     refine p_val (r_addrV (i := (((x1).length : Int) : Int).toNat) u26 tsz76 rfl (HS.ownV H (k := 0) rfl) rfl (idx_some e11).1 (idx_lt e11)) ?_
     have hr4 := RL.get g7 (idx_some e11).2; generalize hghr4 : piece cs9 _ _ = cs11 at hr4
     obtain rfl := elU32 hr4
     refine p_val (o_load1 (v := .int .u32 (((y11).toNat : Int))) to76 H (k := 0) rfl rfl (idx_lt e11) hghr4) ?_
     refine p_as (v := .int .u32 (((y11).toNat : Int))) rfl ?_
     refine xk hK18 ?_; clear hK18
     refine wp_seq_k ?_; intro K19 hK19
     refine nameF fun m13 k16 => ?_
     obtain ⟨t5, hE8, hF5⟩ := bnd hF4
     have J2 : ∀ (m14 : FM) (w10 : World), (∀ t, has [9, 62, 63] t = false → look m14 t = look m13 t) → look m14 9 = .int .u32 (((t5).toNat : Int)) → HS ⟨S, [], w⟩ S w10 [.osl (sl b4 0 (t3).length c4) (s3).length 1 cs9 rs5 76] → K19 (fr 102 m14) w10 := by
      clear H; intro m14 w10 k17 q28 H
      have q29 : look m14 0 = v0_ := (k17 0 rfl).trans ((k16 0).trans q23)
      have q30 : look m14 1 = v1_ := (k17 1 rfl).trans ((k16 1).trans q24)
      have q31 : look m14 5 = .int .i64 (((x1).length : Int)) := (k17 5 rfl).trans ((k16 5).trans q25)
      have q32 : look m14 6 = sl b4 0 (t3).length c4 := (k17 6 rfl).trans ((k16 6).trans q26)
      have q33 : look m14 7 = .int .i64 (s1.1) := (k17 7 rfl).trans ((k16 7).trans q27)
      refine hK19 _ _ ?_
      refine sr ?_; intro K21 hK21
      refine p_as (v := .int .u64 (0)) rfl ?_
      refine xk hK21 ?_; clear hK21
      refine sr ?_; intro K22 hK22
      refine p_as (v := .int .i64 (0)) rfl ?_
      refine xk hK22 ?_; clear hK22
      refine wp_block ?_
      refine nameF fun m15 k18 => ?_
      obtain ⟨out4, hL4, hE9⟩ := bnd hF5
      replace H : HS ⟨S, [], w⟩ S w10 [.osl (sl b4 0 (t3).length c4) (s3).length 1 cs9 rs5 76] := H
      refine loopI [10, 11, 12, 13, 64, 65, 66, 67, 68, 69, 70, 71, 72, 73, 74, 75, 76, 77, 78, 79, 80, 81, 82, 83, 84, 85, 86, 87, 88, 89, 90, 91, 92, 93, 94, 95, 96, 97, 98, 99] (fun (s4 : UInt64 × Int × (List UInt32)) (m16 : FM) (w11 : World) => ∃ (cs12 rs6 : List Value), look m16 10 = .int .u64 (((s4.1).toNat : Int)) ∧ look m16 11 = .int .i64 (s4.2.1) ∧ HS ⟨S, [], w⟩ S w11 [.osl (sl b4 0 (t3).length c4) (s4.2.2).length 1 cs12 rs6 76] ∧ RL S cs12 s4.2.2) hL4 ⟨_, _, (k18 10), (k18 11), H, g7⟩ ?_
      clear H; intro k20 s4 m16 w11 k19 hI4 o10 hb5 hh4; obtain ⟨cs12, rs6, q34, q35, H, g9⟩ := hI4
      have q36 : look m16 0 = v0_ := (k19 0 rfl).trans ((k18 0).trans q29)
      have q37 : look m16 1 = v1_ := (k19 1 rfl).trans ((k18 1).trans q30)
      have q38 : look m16 5 = .int .i64 (((x1).length : Int)) := (k19 5 rfl).trans ((k18 5).trans q31)
      have q39 : look m16 6 = sl b4 0 (t3).length c4 := (k19 6 rfl).trans ((k18 6).trans q32)
      have q40 : look m16 7 = .int .i64 (s1.1) := (k19 7 rfl).trans ((k18 7).trans q33)
      have q41 : look m16 9 = .int .u32 (((t5).toNat : Int)) := (k19 9 rfl).trans ((k18 9).trans q28)
      unfold seneschalref06_Left_b3 at hb5
      refine wp_seq_k ?_; intro K23 hK23
      refine sr ?_; intro K24 hK24
      refine p_mv (v := .int .i64 (s4.2.1)) q35 ?_
      refine p_mv (v := .int .i64 (((x1).length : Int))) q38 ?_
      refine p_val (r_leq (t := decide (s4.2.1 ≤ ((x1).length : Int))) rfl rfl rfl) ?_
      refine xk hK24 ?_; clear hK24
      refine c_split (t := decide (s4.2.1 ≤ ((x1).length : Int))) rfl (fun hc6 => ?_) (fun hc6 => ?_)
      ·replace hb5 := cnd_t hb5 hc6
       refine wp_skip ?_
       refine xn hK23 ?_; clear hK23
       refine wp_seq_k ?_; intro K25 hK25
       refine wp_block ?_
       refine sr ?_; intro K26 hK26
       refine p_mv (v := .int .u64 (((s4.1).toNat : Int))) q34 ?_
       refine p_as (v := .int .u64 (((s4.1).toNat : Int))) rfl ?_
       refine xk hK26 ?_; clear hK26
       refine wp_seq_k ?_; intro K27 hK27
       refine nameF fun m17 k21 => ?_
       obtain ⟨t6, hE10, hF6⟩ := bnd hb5
       have J1 : ∀ (m18 : FM) (w12 : World), (∀ t, has [12, 70, 71, 72, 73, 74, 75, 76, 77, 78, 79, 80, 81, 82] t = false → look m18 t = look m17 t) → look m18 12 = .int .u64 (((t6).toNat : Int)) → HS ⟨S, [], w⟩ S w12 [.osl (sl b4 0 (t3).length c4) (s4.2.2).length 1 cs12 rs6 76] → K27 (fr 102 m18) w12 := by
        clear H; intro m18 w12 k22 q42 H
        have q43 : look m18 0 = v0_ := (k22 0 rfl).trans ((k21 0).trans q36)
        have q44 : look m18 1 = v1_ := (k22 1 rfl).trans ((k21 1).trans q37)
        have q45 : look m18 5 = .int .i64 (((x1).length : Int)) := (k22 5 rfl).trans ((k21 5).trans q38)
        have q46 : look m18 6 = sl b4 0 (t3).length c4 := (k22 6 rfl).trans ((k21 6).trans q39)
        have q47 : look m18 7 = .int .i64 (s1.1) := (k22 7 rfl).trans ((k21 7).trans q40)
        have q48 : look m18 9 = .int .u32 (((t5).toNat : Int)) := (k22 9 rfl).trans ((k21 9).trans q41)
        have q49 : look m18 11 = .int .i64 (s4.2.1) := (k22 11 rfl).trans ((k21 11).trans q35)
        refine hK27 _ _ ?_
        refine sr ?_; intro K29 hK29
        refine p_mv (v := sl b4 0 (t3).length c4) q46 ?_
        refine p_mv (v := .int .i64 (s4.2.1)) q49 ?_
        obtain ⟨y13, e13, hF6⟩ := bnd hF6
        refine p_val (r_addrV (i := (s4.2.1 : Int).toNat) u26 tsz76 rfl (HS.ownV H (k := 0) rfl) rfl (idx_some e13).1 (idx_lt e13)) ?_
        have hr6 := RL.get g9 (idx_some e13).2; generalize hghr6 : piece cs12 _ _ = cs14 at hr6
        obtain rfl := elU32 hr6
        refine p_val (o_load1 (v := .int .u32 (((y13).toNat : Int))) to76 H (k := 0) rfl rfl (idx_lt e13) hghr6) ?_
        refine p_val (r_conv (r := (((i64 ((y13).toNat : Int))).toNat : Int)) u76 u22 rfl (i64_wrap _)) ?_
        refine p_val (r_add (r := (((i64 ((((i64 ((y13).toNat : Int))).toNat : Int) + 1099511627776))).toNat : Int)) rfl rfl (i64_wrap _)) ?_
        refine p_mv (v := .int .u64 (((t6).toNat : Int))) q42 ?_
        refine p_val (r_sub (r := (((i64 ((((i64 ((((i64 ((y13).toNat : Int))).toNat : Int) + 1099511627776))).toNat : Int) - ((t6).toNat : Int)))).toNat : Int)) rfl rfl (i64_wrap _)) ?_
        refine p_as (v := .int .u64 ((((i64 ((((i64 ((((i64 ((y13).toNat : Int))).toNat : Int) + 1099511627776))).toNat : Int) - ((t6).toNat : Int)))).toNat : Int))) rfl ?_
        refine xk hK29 ?_; clear hK29
        refine sr ?_; intro K30 hK30
        refine p_mv (v := sl b4 0 (t3).length c4) q46 ?_
        refine p_mv (v := .int .i64 (s4.2.1)) q49 ?_
        refine p_mv (v := .int .u64 ((((i64 ((((i64 ((((i64 ((y13).toNat : Int))).toNat : Int) + 1099511627776))).toNat : Int) - ((t6).toNat : Int)))).toNat : Int))) rfl ?_
        refine p_val (r_bits (bo := .and) (by simp) (r := ((((i64 ((((i64 ((((i64 ((y13).toNat : Int))).toNat : Int) + 1099511627776))).toNat : Int) - ((t6).toNat : Int))) &&& (65535 : UInt64))).toNat : Int)) rfl rfl (i64_and (i64 ((((i64 ((((i64 ((y13).toNat : Int))).toNat : Int) + 1099511627776))).toNat : Int) - ((t6).toNat : Int))) (65535 : UInt64))) ?_
        refine p_val (r_conv (r := (((i32 ((((i64 ((((i64 ((((i64 ((y13).toNat : Int))).toNat : Int) + 1099511627776))).toNat : Int) - ((t6).toNat : Int))) &&& (65535 : UInt64))).toNat : Int))).toNat : Int)) u22 u76 rfl (i32_wrap _)) ?_
        obtain ⟨y14, e14, hF6⟩ := bnd hF6
        refine p_val (r_addrV (i := (s4.2.1 : Int).toNat) u26 tsz76 rfl (HS.ownV H (k := 0) rfl) rfl (idx_some e14).1 (idx_lt e14)) ?_
        obtain ⟨y15, e15, hF6⟩ := bnd hF6
        refine p_ofs (a_storeX (k := 0) (v := .int .u32 ((((i32 ((((i64 ((((i64 ((((i64 ((y13).toNat : Int))).toNat : Int) + 1099511627776))).toNat : Int) - ((t6).toNat : Int))) &&& (65535 : UInt64))).toNat : Int))).toNat : Int))) (l := [Value.int .u32 ((((i32 ((((i64 ((((i64 ((((i64 ((y13).toNat : Int))).toNat : Int) + 1099511627776))).toNat : Int) - ((t6).toNat : Int))) &&& (65535 : UInt64))).toNat : Int))).toNat : Int))]) tsz76 rfl H rfl g9 rfl rfl (cells_one rfl) rpU32 e15) ?_; clear H; rintro w13 ⟨cs15, H, g10⟩
        replace H : HS ⟨S, [], w⟩ S w13 [.osl (sl b4 0 (t3).length c4) (y15).length 1 cs15 rs6 76] := H
        refine xk hK30 ?_; clear hK30
        refine wp_region_lit ?_
        refine p_mv (v := .int .u64 ((((i64 ((((i64 ((((i64 ((y13).toNat : Int))).toNat : Int) + 1099511627776))).toNat : Int) - ((t6).toNat : Int)))).toNat : Int))) rfl ?_
        refine p_val (r_shr (r := (((i64 (shrI .u64 (((i64 ((((i64 ((((i64 ((y13).toNat : Int))).toNat : Int) + 1099511627776))).toNat : Int) - ((t6).toNat : Int)))).toNat : Int) 16))).toNat : Int)) rfl rfl (by decide) (i64_shr _ _)) ?_
        refine p_val (r_sub (r := (((i64 ((16777216 : Int) - (((i64 (shrI .u64 (((i64 ((((i64 ((((i64 ((y13).toNat : Int))).toNat : Int) + 1099511627776))).toNat : Int) - ((t6).toNat : Int)))).toNat : Int) 16))).toNat : Int)))).toNat : Int)) rfl rfl (i64_wrap _)) ?_
        refine p_as (v := .int .u64 ((((i64 ((16777216 : Int) - (((i64 (shrI .u64 (((i64 ((((i64 ((((i64 ((y13).toNat : Int))).toNat : Int) + 1099511627776))).toNat : Int) - ((t6).toNat : Int)))).toNat : Int) 16))).toNat : Int)))).toNat : Int))) rfl ?_
        refine wpList_nil ?_
        refine b_norm ?_
        refine xn hK25 ?_; clear hK25
        refine wp_region_lit ?_
        refine p_mv (v := .int .i64 (s4.2.1)) q49 ?_
        refine p_val (r_add (r := w64 (s4.2.1 + 1)) rfl rfl rfl) ?_
        refine p_as (v := .int .i64 ((w64 (s4.2.1 + 1)))) rfl ?_
        refine wpList_nil ?_
        refine x_norm ?_
        replace H : HS ⟨S, [], w⟩ S w13 [.osl (sl b4 0 (t3).length c4) (y15).length 1 cs15 rs6 76] := H
        obtain rfl := Option.some.inj hF6
        exact ⟨((i64 ((16777216 : Int) - (((i64 (shrI .u64 (((i64 ((((i64 ((((i64 ((y13).toNat : Int))).toNat : Int) + 1099511627776))).toNat : Int) - ((t6).toNat : Int)))).toNat : Int) 16))).toNat : Int))), (w64 (s4.2.1 + 1)), y15), _, rfl, (by (repeat (refine keep_cons rfl ?_)); refine keep_sub k22 rfl ?_; (repeat (refine keep_cons rfl ?_)); refine keep_name k21 ?_; (repeat (refine keep_cons rfl ?_)); refine keep_sub k19 rfl ?_; (repeat (refine keep_cons rfl ?_)); exact fun _ _ => rfl), ⟨_, _, rfl, rfl, H, g10⟩, hh4⟩
       refine sr ?_; intro K28 hK28
       refine p_mv (v := .int .i64 (s4.2.1)) ((k21 11).trans q35) ?_
       refine p_mv (v := .int .i64 (((x1).length : Int))) ((k21 5).trans q38) ?_
       refine p_val (r_lss (t := decide (s4.2.1 < ((x1).length : Int))) rfl rfl rfl) ?_
       refine xk hK28 ?_; clear hK28
       refine c_split (t := decide (s4.2.1 < ((x1).length : Int))) rfl (fun hc7 => ?_) (fun hc7 => ?_)
       ·replace hE10 := cnd_t hE10 hc7
        refine wp_region_lit ?_
        refine p_mv (v := .int .u64 (((s4.1).toNat : Int))) (k21 12) ?_
        refine p_mv (v := .int .u32 (((t5).toNat : Int))) ((k21 9).trans q41) ?_
        refine p_val (r_conv (r := (((i64 ((t5).toNat : Int))).toNat : Int)) u76 u22 rfl (i64_wrap _)) ?_
        refine p_mv (v := v1_) ((k21 1).trans q37) ?_
        refine p_mv (v := .int .i64 (s4.2.1)) ((k21 11).trans q35) ?_
        obtain ⟨y12, e12, hE10⟩ := bnd hE10
        obtain ⟨b7, o12, N2, c7, cs13, hv7, hi2, hc8, hr5⟩ := h1_.get (idx_some e12).2
        refine p_val (r_addrV (i := (s4.2.1 : Int).toNat) u26 tsz76 rfl hv7 rfl (idx_some e12).1 hi2) ?_
        obtain rfl := elU32 hr5
        refine p_val (s_load1 (p := (o12 + (s4.2.1 : Int).toNat * 1)) (o := 0) (v := .int .u32 (((y12).toNat : Int))) to76 H.sub rfl hc8 rfl) ?_
        refine p_val (r_conv (r := (((i64 ((y12).toNat : Int))).toNat : Int)) u76 u22 rfl (i64_wrap _)) ?_
        refine p_val (r_mul (r := (((i64 ((((i64 ((t5).toNat : Int))).toNat : Int) * (((i64 ((y12).toNat : Int))).toNat : Int)))).toNat : Int)) rfl rfl (i64_wrap _)) ?_
        refine p_val (r_add (r := (((i64 (((s4.1).toNat : Int) + (((i64 ((((i64 ((t5).toNat : Int))).toNat : Int) * (((i64 ((y12).toNat : Int))).toNat : Int)))).toNat : Int)))).toNat : Int)) rfl rfl (i64_wrap _)) ?_
        refine p_as (v := .int .u64 ((((i64 (((s4.1).toNat : Int) + (((i64 ((((i64 ((t5).toNat : Int))).toNat : Int) * (((i64 ((y12).toNat : Int))).toNat : Int)))).toNat : Int)))).toNat : Int))) rfl ?_
        refine wpList_nil ?_
        refine x_norm ?_
        replace H : HS ⟨S, [], w⟩ S w11 [.osl (sl b4 0 (t3).length c4) (s4.2.2).length 1 cs12 rs6 76] := H
        obtain rfl := Option.some.inj hE10
        exact J1 _ _ (by (repeat (refine keep_cons rfl ?_)); exact fun _ _ => rfl) rfl H
       ·replace hE10 := cnd_f hE10 hc7
        refine wp_skip ?_
        refine x_norm ?_
        replace H : HS ⟨S, [], w⟩ S w11 [.osl (sl b4 0 (t3).length c4) (s4.2.2).length 1 cs12 rs6 76] := H
        obtain rfl := Option.some.inj hE10
        exact J1 _ _ (by (repeat (refine keep_cons rfl ?_)); exact fun _ _ => rfl) (k21 12) H
      ·replace hb5 := cnd_f hb5 hc6
       refine wp_exit ?_
       refine x_exit ?_
       refine x_exit ?_
       refine b_hit ?_
       refine b_norm ?_
       refine x_norm ?_
       replace H : HS ⟨S, [], w⟩ S w11 [.osl (sl b4 0 (t3).length c4) (s4.2.2).length 1 cs12 rs6 76] := H
       obtain rfl := Option.some.inj hb5
       obtain rfl := Option.some.inj hh4
       obtain rfl := Option.some.inj hE9
       exact ⟨s4.2.2, _, rfl, (by (repeat (refine keep_cons rfl ?_)); refine keep_sub k19 rfl ?_; (repeat (refine keep_cons rfl ?_)); refine keep_name k18 ?_; (repeat (refine keep_cons rfl ?_)); refine keep_sub k17 rfl ?_; (repeat (refine keep_cons rfl ?_)); refine keep_name k16 ?_; (repeat (refine keep_cons rfl ?_)); refine keep_sub k15 rfl ?_; (repeat (refine keep_cons rfl ?_)); refine keep_name k14 ?_; (repeat (refine keep_cons rfl ?_)); refine keep_sub k12 rfl ?_; (repeat (refine keep_cons rfl ?_)); exact fun _ _ => rfl), ⟨_, _, H, g9⟩, hh3⟩
     refine sr ?_; intro K20 hK20
     refine p_mv (v := .int .u32 (((y11).toNat : Int))) (k16 9) ?_
     refine p_val (r_eql (t := (((y11).toNat : Int) == 0)) rfl rfl rfl) ?_
     refine xk hK20 ?_; clear hK20
     refine c_split (t := (((y11).toNat : Int) == 0)) rfl (fun hc5 => ?_) (fun hc5 => ?_)
     ·replace hE8 := cnd_t hE8 hc5
      refine wp_region_lit ?_
      refine p_as (v := .int .u32 (1)) rfl ?_
      refine wpList_nil ?_
      refine x_norm ?_
      replace H : HS ⟨S, [], w⟩ S w9 [.osl (sl b4 0 (t3).length c4) (s3).length 1 cs9 rs5 76] := H
      obtain rfl := Option.some.inj hE8
      exact J2 _ _ (by (repeat (refine keep_cons rfl ?_)); exact fun _ _ => rfl) rfl H
     ·replace hE8 := cnd_f hE8 hc5
      refine wp_skip ?_
      refine x_norm ?_
      replace H : HS ⟨S, [], w⟩ S w9 [.osl (sl b4 0 (t3).length c4) (s3).length 1 cs9 rs5 76] := H
      obtain rfl := Option.some.inj hE8
      exact J2 _ _ (by (repeat (refine keep_cons rfl ?_)); exact fun _ _ => rfl) (k16 9) H
    ·replace hF4 := cnd_f hF4 hc4
     refine wp_exit ?_
     refine x_exit ?_
     refine x_exit ?_
     refine b_hit ?_
     refine b_norm ?_
     refine x_norm ?_
     replace H : HS ⟨S, [], w⟩ S w9 [.osl (sl b4 0 (t3).length c4) (s3).length 1 cs9 rs5 76] := H
     obtain rfl := Option.some.inj hF4
     obtain rfl := Option.some.inj hh3
     obtain rfl := Option.some.inj hE6
     exact J5 _ _ _ _ (by (repeat (refine keep_cons rfl ?_)); refine keep_sub k15 rfl ?_; (repeat (refine keep_cons rfl ?_)); refine keep_name k14 ?_; (repeat (refine keep_cons rfl ?_)); refine keep_sub k12 rfl ?_; (repeat (refine keep_cons rfl ?_)); refine keep_name k11 ?_; (repeat (refine keep_cons rfl ?_)); refine keep_sub k10 rfl ?_; (repeat (refine keep_cons rfl ?_)); refine keep_name k6 ?_; (repeat (refine keep_cons rfl ?_)); exact fun _ _ => rfl) H g7
   refine p_gs (j := 5) (gvl_at rfl rfl (k14 50)) (fun hb4 => ?_) (fun hb4 => ?_)
   ·replace hE7 := cnd_t hE7 hb4
    refine p_skip (gvl_at rfl rfl (k14 50)) hb4 ?_
    rw [put_fr]
    refine p_skip (gvl_at rfl rfl (k14 50)) hb4 ?_
    rw [put_fr]
    refine p_skip (gvl_at rfl rfl (k14 50)) hb4 ?_
    rw [put_fr]
    refine p_skip (gvl_at rfl rfl (k14 50)) hb4 ?_
    rw [put_fr]
    refine p_skip (gvl_at rfl rfl (k14 50)) hb4 ?_
    rw [put_fr]
    refine p_skip (gvl_at rfl rfl (k14 50)) hb4 ?_
    rw [put_fr]
    refine p_val (r_pickt (v := .bool (true)) (k14 50) hb4 rfl) ?_
    refine hR2 _ _ ?_
    replace H : HS ⟨S, [], w⟩ S w7 [.osl (sl b4 0 (t3).length c4) (s3).length 1 cs9 rs5 76] := H
    obtain rfl := Option.some.inj hE7
    exact J3 _ _ (by (repeat (refine keep_cons rfl ?_)); exact fun _ _ => rfl) rfl H
   ·replace hE7 := cnd_f hE7 hb4
    refine p_want (gvl_at rfl rfl (k14 50)) hb4 ?_
    refine p_mv (v := sl b4 0 (t3).length c4) ((k14 6).trans q20) ?_
    refine p_want (gvl_at rfl rfl (k14 50)) hb4 ?_
    refine p_mv (v := .int .i64 (((x1).length : Int))) ((k14 5).trans q19) ?_
    refine p_want (gvl_at rfl rfl (k14 50)) hb4 ?_
    obtain ⟨y9, e9, hE7⟩ := bnd hE7
    refine p_val (r_subH (h := (((x1).length : Int) : Int).toNat) u26 tsz76 rfl rfl (subH_some e9).1 (RdS.ofOwn H (k := 0) rfl g7) (subH_some e9).2.1) ?_
    refine p_want (gvl_at rfl rfl (k14 50)) hb4 ?_
    refine p_mv (v := v1_) ((k14 1).trans q18) ?_
    refine p_want (gvl_at rfl rfl (k14 50)) hb4 ?_
    obtain ⟨y10, e10, hE7⟩ := bnd hE7
    refine p_call (l := [(subN (sl b4 0 (t3).length c4) 1 0 (((x1).length : Int) : Int).toNat), v1_]) is35 rfl ?_
    refine (seneschalref06_Cmp_c (subMem w7) (RdS.subH (RdS.ofOwn H (k := 0) rfl g7) e9) (h1_.mono H.sub) e10).mono ?_; rintro _ w8 ⟨rfl, hx⟩; replace H := H.ext hx; clear hx
    refine p_want (gvl_at rfl rfl (k14 50)) hb4 ?_
    refine p_val (r_geq (t := decide ((0 : Int) ≤ y10)) rfl rfl rfl) ?_
    refine p_val (r_pickf (v := .bool (decide ((0 : Int) ≤ y10))) (k14 50) hb4 rfl) ?_
    refine hR2 _ _ ?_
    replace H : HS ⟨S, [], w⟩ S w8 [.osl (sl b4 0 (t3).length c4) (s3).length 1 cs9 rs5 76] := H
    obtain rfl := Option.some.inj hE7
    exact J3 _ _ (by (repeat (refine keep_cons rfl ?_)); exact fun _ _ => rfl) rfl H
  refine sr ?_; intro K10 hK10
  refine p_mv (v := .int .i64 (((x1).length : Int))) ((k6 5).trans ((k5 5).trans q4)) ?_
  refine p_as (v := .int .i64 (((x1).length : Int))) rfl ?_
  refine xk hK10 ?_; clear hK10
  refine wp_block ?_
  refine nameF fun m6 k7 => ?_
  obtain ⟨out2, hL2, hE5⟩ := bnd hE4
  replace H : HS ⟨S, [], w⟩ S w2 [.osl (v1) (s1.2).length 1 cs2 rs2 76] := H
  refine loopI [8, 27, 28, 29, 30, 31, 32, 33, 34, 35, 36, 37, 38] (fun (s2 : Int × (List UInt32)) (m7 : FM) (w3 : World) => ∃ (cs3 rs3 : List Value), look m7 8 = .int .i64 (s2.1) ∧ HS ⟨S, [], w⟩ S w3 [.osl (v1) (s2.2).length 1 cs3 rs3 76] ∧ RL S cs3 s2.2) hL2 ⟨_, _, (k7 8), H, g2⟩ ?_
  clear H; intro k9 s2 m7 w3 k8 hI2 o5 hb2 hh2; obtain ⟨cs3, rs3, q6, H, g3⟩ := hI2
  have q7 : look m7 0 = v0_ := (k8 0 rfl).trans ((k7 0).trans ((k6 0).trans ((k5 0).trans q2)))
  have q8 : look m7 1 = v1_ := (k8 1 rfl).trans ((k7 1).trans ((k6 1).trans ((k5 1).trans q3)))
  have q9 : look m7 5 = .int .i64 (((x1).length : Int)) := (k8 5 rfl).trans ((k7 5).trans ((k6 5).trans ((k5 5).trans q4)))
  have q10 : look m7 6 = v1 := (k8 6 rfl).trans ((k7 6).trans ((k6 6).trans ((k5 6).trans q5)))
  have q11 : look m7 7 = .int .i64 (s1.1) := (k8 7 rfl).trans ((k7 7).trans ((k6 7).trans ((k5 7).trans q1)))
  unfold seneschalref06_Left_b1 at hb2
  refine wp_seq_k ?_; intro K11 hK11
  refine sr ?_; intro K12 hK12
  refine p_mv (v := .int .i64 (s2.1)) q6 ?_
  refine p_val (r_gtr (t := decide ((0 : Int) < s2.1)) rfl rfl rfl) ?_
  refine xk hK12 ?_; clear hK12
  refine c_split (t := decide ((0 : Int) < s2.1)) rfl (fun hc2 => ?_) (fun hc2 => ?_)
  ·replace hb2 := cnd_t hb2 hc2
   refine wp_skip ?_
   refine xn hK11 ?_; clear hK11
   refine wp_seq_k ?_; intro K13 hK13
   refine wp_block ?_
   refine wp_region_lit ?_
   refine p_mv (v := v1) q10 ?_
   refine p_mv (v := .int .i64 (s2.1)) q6 ?_
   refine p_mv (v := v1) q10 ?_
   refine p_mv (v := .int .i64 (s2.1)) q6 ?_
   refine p_val (r_sub (r := w64 (s2.1 - 1)) rfl rfl rfl) ?_
   obtain ⟨y2, e2, hb2⟩ := bnd hb2
   obtain ⟨b1, c1, hv1⟩ := H.ownAt (k := 0) rfl (idx_lt e2)
   refine p_val (r_addrV (i := ((w64 (s2.1 - 1)) : Int).toNat) u26 tsz76 rfl hv1 rfl (idx_some e2).1 (idx_lt e2)) ?_
   subst hv1
   have hr1 := RL.get g3 (idx_some e2).2; generalize hghr1 : piece cs3 _ _ = cs4 at hr1
   obtain rfl := elU32 hr1
   refine p_val (o_load1 (v := .int .u32 (((y2).toNat : Int))) to76 H (k := 0) rfl rfl (idx_lt e2) hghr1) ?_
   obtain ⟨y3, e3, hb2⟩ := bnd hb2
   refine p_val (r_addrV (i := (s2.1 : Int).toNat) u26 tsz76 rfl (HS.ownV H (k := 0) rfl) rfl (idx_some e3).1 (idx_lt e3)) ?_
   obtain ⟨y4, e4, hb2⟩ := bnd hb2
   refine p_ofs (a_storeX (k := 0) (v := .int .u32 (((y2).toNat : Int))) (l := [Value.int .u32 (((y2).toNat : Int))]) tsz76 rfl H rfl g3 rfl rfl (cells_one rfl) rpU32 e4) ?_; clear H; rintro w4 ⟨cs5, H, g4⟩
   replace H : HS ⟨S, [], w⟩ S w4 [.osl (sl b1 0 (s2.2).length c1) (y4).length 1 cs5 rs3 76] := H
   refine wpList_nil ?_
   refine b_norm ?_
   refine xn hK13 ?_; clear hK13
   refine wp_region_lit ?_
   refine p_mv (v := .int .i64 (s2.1)) q6 ?_
   refine p_val (r_sub (r := w64 (s2.1 - 1)) rfl rfl rfl) ?_
   refine p_as (v := .int .i64 ((w64 (s2.1 - 1)))) rfl ?_
   refine wpList_nil ?_
   refine x_norm ?_
   replace H : HS ⟨S, [], w⟩ S w4 [.osl (sl b1 0 (s2.2).length c1) (y4).length 1 cs5 rs3 76] := H
   obtain rfl := Option.some.inj hb2
   exact ⟨((w64 (s2.1 - 1)), y4), _, rfl, (by (repeat (refine keep_cons rfl ?_)); refine keep_sub k8 rfl ?_; (repeat (refine keep_cons rfl ?_)); exact fun _ _ => rfl), ⟨_, _, rfl, H, g4⟩, hh2⟩
  ·replace hb2 := cnd_f hb2 hc2
   refine wp_exit ?_
   refine x_exit ?_
   refine x_exit ?_
   refine b_hit ?_
   refine x_norm ?_
   replace H : HS ⟨S, [], w⟩ S w3 [.osl (v1) (s2.2).length 1 cs3 rs3 76] := H
   obtain rfl := Option.some.inj hb2
   obtain rfl := Option.some.inj hh2
   obtain rfl := Option.some.inj hE5
   exact J4 _ _ _ _ (by (repeat (refine keep_cons rfl ?_)); refine keep_sub k8 rfl ?_; (repeat (refine keep_cons rfl ?_)); refine keep_name k7 ?_; (repeat (refine keep_cons rfl ?_)); exact fun _ _ => rfl) H g3
 ·replace hb1 := cnd_f hb1 hc1
  refine wp_exit ?_
  refine x_exit ?_
  refine x_exit ?_
  refine b_hit ?_
  refine x_norm ?_
  replace H : HS ⟨S, [], w⟩ S w2 [.osl (v1) (s1.2).length 1 cs2 rs2 76] := H
  obtain rfl := Option.some.inj hb1
  obtain rfl := Option.some.inj hh1
  obtain rfl := Option.some.inj hE2
  exact J6 _ _ _ _ (by (repeat (refine keep_cons rfl ?_)); refine keep_sub k3 rfl ?_; (repeat (refine keep_cons rfl ?_)); refine keep_name k2 ?_; (repeat (refine keep_cons rfl ?_)); exact fun _ _ => rfl) H g2
def seneschalref06_Modulus_p (x0 : Int) : Option ((List UInt32)) :=
  bif (x0 == 0) then (some (([(65535 : UInt32), (65535 : UInt32), (65535 : UInt32), (65535 : UInt32), (65535 : UInt32), (65535 : UInt32), (0 : UInt32), (0 : UInt32), (0 : UInt32), (0 : UInt32), (0 : UInt32), (0 : UInt32), (1 : UInt32), (0 : UInt32), (65535 : UInt32), (65535 : UInt32)] : List UInt32))) else (some (([(9553 : UInt32), (64611 : UInt32), (51906 : UInt32), (62393 : UInt32), (40580 : UInt32), (42775 : UInt32), (64173 : UInt32), (48358 : UInt32), (65535 : UInt32), (65535 : UInt32), (65535 : UInt32), (65535 : UInt32), (0 : UInt32), (0 : UInt32), (65535 : UInt32), (65535 : UInt32)] : List UInt32)))
theorem seneschalref06_Modulus_c {S : Mem} {w : World} (hS : Sub S w) {x0 : Int} {r : (List UInt32)} (hF : seneschalref06_Modulus_p x0 = some r) :
    Calls Try.prog 20 #[.int .i64 (x0)] w fun e w' => Ext w w' ∧ ∃ (v0' : Value), e = .returned (v0') ∧ RdS (gr S w w') v0' r := by
 refine enter (n := 7) Try.func20 rfl rfl rfl ?_
 have H := HS.start hS
 unfold seneschalref06_Modulus_p at hF
 refine sr ?_; intro K1 hK1
 refine p_as (v := .slice none 0 0) rfl ?_
 refine xk hK1 ?_; clear hK1
 refine wp_seq_k ?_; intro K2 hK2
 refine sr ?_; intro K3 hK3
 refine p_mv (v := .int .i64 (x0)) rfl ?_
 refine p_val (r_eql (t := (x0 == 0)) rfl rfl rfl) ?_
 refine xk hK3 ?_; clear hK3
 refine c_split (t := (x0 == 0)) rfl (fun hc1 => ?_) (fun hc1 => ?_)
 ·replace hF := cnd_t hF hc1
  refine sr ?_; intro K4 hK4
  have g1 : RL S ([Value.int .u32 (65535)] ++ ([Value.int .u32 (65535)] ++ ([Value.int .u32 (65535)] ++ ([Value.int .u32 (65535)] ++ ([Value.int .u32 (65535)] ++ ([Value.int .u32 (65535)] ++ ([Value.int .u32 (0)] ++ ([Value.int .u32 (0)] ++ ([Value.int .u32 (0)] ++ ([Value.int .u32 (0)] ++ ([Value.int .u32 (0)] ++ ([Value.int .u32 (0)] ++ ([Value.int .u32 (1)] ++ ([Value.int .u32 (0)] ++ ([Value.int .u32 (65535)] ++ ([Value.int .u32 (65535)] ++ ([] : List Value))))))))))))))))) ([(65535 : UInt32), (65535 : UInt32), (65535 : UInt32), (65535 : UInt32), (65535 : UInt32), (65535 : UInt32), (0 : UInt32), (0 : UInt32), (0 : UInt32), (0 : UInt32), (0 : UInt32), (0 : UInt32), (1 : UInt32), (0 : UInt32), (65535 : UInt32), (65535 : UInt32)] : List UInt32) := (RL.cons (rpU32c (x := (65535 : UInt32)) rfl) (RL.cons (rpU32c (x := (65535 : UInt32)) rfl) (RL.cons (rpU32c (x := (65535 : UInt32)) rfl) (RL.cons (rpU32c (x := (65535 : UInt32)) rfl) (RL.cons (rpU32c (x := (65535 : UInt32)) rfl) (RL.cons (rpU32c (x := (65535 : UInt32)) rfl) (RL.cons (rpU32c (x := (0 : UInt32)) rfl) (RL.cons (rpU32c (x := (0 : UInt32)) rfl) (RL.cons (rpU32c (x := (0 : UInt32)) rfl) (RL.cons (rpU32c (x := (0 : UInt32)) rfl) (RL.cons (rpU32c (x := (0 : UInt32)) rfl) (RL.cons (rpU32c (x := (0 : UInt32)) rfl) (RL.cons (rpU32c (x := (1 : UInt32)) rfl) (RL.cons (rpU32c (x := (0 : UInt32)) rfl) (RL.cons (rpU32c (x := (65535 : UInt32)) rfl) (RL.cons (rpU32c (x := (65535 : UInt32)) rfl) RL.nil))))))))))))))))
  refine p_of1 (a_bslice (N := 16) (vals := [(0, .int .u32 (65535)), (1, .int .u32 (65535)), (2, .int .u32 (65535)), (3, .int .u32 (65535)), (4, .int .u32 (65535)), (5, .int .u32 (65535)), (6, .int .u32 (0)), (7, .int .u32 (0)), (8, .int .u32 (0)), (9, .int .u32 (0)), (10, .int .u32 (0)), (11, .int .u32 (0)), (12, .int .u32 (1)), (13, .int .u32 (0)), (14, .int .u32 (65535)), (15, .int .u32 (65535))]) (l := ([Value.int .u32 (65535)] ++ ([Value.int .u32 (65535)] ++ ([Value.int .u32 (65535)] ++ ([Value.int .u32 (65535)] ++ ([Value.int .u32 (65535)] ++ ([Value.int .u32 (65535)] ++ ([Value.int .u32 (0)] ++ ([Value.int .u32 (0)] ++ ([Value.int .u32 (0)] ++ ([Value.int .u32 (0)] ++ ([Value.int .u32 (0)] ++ ([Value.int .u32 (0)] ++ ([Value.int .u32 (1)] ++ ([Value.int .u32 (0)] ++ ([Value.int .u32 (65535)] ++ ([Value.int .u32 (65535)] ++ ([] : List Value)))))))))))))))))) tn26 H rfl rfl rfl g1.len) ?_; clear H; intro w1 v1 H
  generalize ([Value.int .u32 (65535)] ++ ([Value.int .u32 (65535)] ++ ([Value.int .u32 (65535)] ++ ([Value.int .u32 (65535)] ++ ([Value.int .u32 (65535)] ++ ([Value.int .u32 (65535)] ++ ([Value.int .u32 (0)] ++ ([Value.int .u32 (0)] ++ ([Value.int .u32 (0)] ++ ([Value.int .u32 (0)] ++ ([Value.int .u32 (0)] ++ ([Value.int .u32 (0)] ++ ([Value.int .u32 (1)] ++ ([Value.int .u32 (0)] ++ ([Value.int .u32 (65535)] ++ ([Value.int .u32 (65535)] ++ ([] : List Value))))))))))))))))) = cs1 at H g1
  replace H : HS ⟨S, [], w⟩ S w1 [.osl (v1) (([(65535 : UInt32), (65535 : UInt32), (65535 : UInt32), (65535 : UInt32), (65535 : UInt32), (65535 : UInt32), (0 : UInt32), (0 : UInt32), (0 : UInt32), (0 : UInt32), (0 : UInt32), (0 : UInt32), (1 : UInt32), (0 : UInt32), (65535 : UInt32), (65535 : UInt32)] : List UInt32)).length 1 cs1 [] 76] := H
  refine p_as (v := v1) rfl ?_
  refine xk hK4 ?_; clear hK4
  refine wp_ret ?_
  refine x_ret ?_
  obtain ⟨S1, hle1, g3, H1⟩ := H.fixX (k := 0) rfl g1; clear H; have H := H1; clear H1
  replace H : HS ⟨S, [], w⟩ S1 w1 [] := H
  obtain rfl := Option.some.inj hF
  refine e_1 rfl (q_tmp (v := v1) rfl) ?_
  exact ⟨H.toExt, _, rfl, RdS.mono g3 H.gr⟩
 ·replace hF := cnd_f hF hc1
  refine wp_skip ?_
  refine xn hK2 ?_; clear hK2
  refine sr ?_; intro K5 hK5
  have g2 : RL S ([Value.int .u32 (9553)] ++ ([Value.int .u32 (64611)] ++ ([Value.int .u32 (51906)] ++ ([Value.int .u32 (62393)] ++ ([Value.int .u32 (40580)] ++ ([Value.int .u32 (42775)] ++ ([Value.int .u32 (64173)] ++ ([Value.int .u32 (48358)] ++ ([Value.int .u32 (65535)] ++ ([Value.int .u32 (65535)] ++ ([Value.int .u32 (65535)] ++ ([Value.int .u32 (65535)] ++ ([Value.int .u32 (0)] ++ ([Value.int .u32 (0)] ++ ([Value.int .u32 (65535)] ++ ([Value.int .u32 (65535)] ++ ([] : List Value))))))))))))))))) ([(9553 : UInt32), (64611 : UInt32), (51906 : UInt32), (62393 : UInt32), (40580 : UInt32), (42775 : UInt32), (64173 : UInt32), (48358 : UInt32), (65535 : UInt32), (65535 : UInt32), (65535 : UInt32), (65535 : UInt32), (0 : UInt32), (0 : UInt32), (65535 : UInt32), (65535 : UInt32)] : List UInt32) := (RL.cons (rpU32c (x := (9553 : UInt32)) rfl) (RL.cons (rpU32c (x := (64611 : UInt32)) rfl) (RL.cons (rpU32c (x := (51906 : UInt32)) rfl) (RL.cons (rpU32c (x := (62393 : UInt32)) rfl) (RL.cons (rpU32c (x := (40580 : UInt32)) rfl) (RL.cons (rpU32c (x := (42775 : UInt32)) rfl) (RL.cons (rpU32c (x := (64173 : UInt32)) rfl) (RL.cons (rpU32c (x := (48358 : UInt32)) rfl) (RL.cons (rpU32c (x := (65535 : UInt32)) rfl) (RL.cons (rpU32c (x := (65535 : UInt32)) rfl) (RL.cons (rpU32c (x := (65535 : UInt32)) rfl) (RL.cons (rpU32c (x := (65535 : UInt32)) rfl) (RL.cons (rpU32c (x := (0 : UInt32)) rfl) (RL.cons (rpU32c (x := (0 : UInt32)) rfl) (RL.cons (rpU32c (x := (65535 : UInt32)) rfl) (RL.cons (rpU32c (x := (65535 : UInt32)) rfl) RL.nil))))))))))))))))
  refine p_of1 (a_bslice (N := 16) (vals := [(0, .int .u32 (9553)), (1, .int .u32 (64611)), (2, .int .u32 (51906)), (3, .int .u32 (62393)), (4, .int .u32 (40580)), (5, .int .u32 (42775)), (6, .int .u32 (64173)), (7, .int .u32 (48358)), (8, .int .u32 (65535)), (9, .int .u32 (65535)), (10, .int .u32 (65535)), (11, .int .u32 (65535)), (12, .int .u32 (0)), (13, .int .u32 (0)), (14, .int .u32 (65535)), (15, .int .u32 (65535))]) (l := ([Value.int .u32 (9553)] ++ ([Value.int .u32 (64611)] ++ ([Value.int .u32 (51906)] ++ ([Value.int .u32 (62393)] ++ ([Value.int .u32 (40580)] ++ ([Value.int .u32 (42775)] ++ ([Value.int .u32 (64173)] ++ ([Value.int .u32 (48358)] ++ ([Value.int .u32 (65535)] ++ ([Value.int .u32 (65535)] ++ ([Value.int .u32 (65535)] ++ ([Value.int .u32 (65535)] ++ ([Value.int .u32 (0)] ++ ([Value.int .u32 (0)] ++ ([Value.int .u32 (65535)] ++ ([Value.int .u32 (65535)] ++ ([] : List Value)))))))))))))))))) tn26 H rfl rfl rfl g2.len) ?_; clear H; intro w2 v2 H
  generalize ([Value.int .u32 (9553)] ++ ([Value.int .u32 (64611)] ++ ([Value.int .u32 (51906)] ++ ([Value.int .u32 (62393)] ++ ([Value.int .u32 (40580)] ++ ([Value.int .u32 (42775)] ++ ([Value.int .u32 (64173)] ++ ([Value.int .u32 (48358)] ++ ([Value.int .u32 (65535)] ++ ([Value.int .u32 (65535)] ++ ([Value.int .u32 (65535)] ++ ([Value.int .u32 (65535)] ++ ([Value.int .u32 (0)] ++ ([Value.int .u32 (0)] ++ ([Value.int .u32 (65535)] ++ ([Value.int .u32 (65535)] ++ ([] : List Value))))))))))))))))) = cs2 at H g2
  replace H : HS ⟨S, [], w⟩ S w2 [.osl (v2) (([(9553 : UInt32), (64611 : UInt32), (51906 : UInt32), (62393 : UInt32), (40580 : UInt32), (42775 : UInt32), (64173 : UInt32), (48358 : UInt32), (65535 : UInt32), (65535 : UInt32), (65535 : UInt32), (65535 : UInt32), (0 : UInt32), (0 : UInt32), (65535 : UInt32), (65535 : UInt32)] : List UInt32)).length 1 cs2 [] 76] := H
  refine p_as (v := v2) rfl ?_
  refine xk hK5 ?_; clear hK5
  refine wp_ret ?_
  obtain ⟨S2, hle2, g4, H1⟩ := H.fixX (k := 0) rfl g2; clear H; have H := H1; clear H1
  replace H : HS ⟨S, [], w⟩ S2 w2 [] := H
  obtain rfl := Option.some.inj hF
  refine e_1 rfl (q_tmp (v := v2) rfl) ?_
  exact ⟨H.toExt, _, rfl, RdS.mono g4 H.gr⟩
def seneschalref06_Sum_p (x0 : Int) (x1 : List UInt32) (x2 : List UInt32) : Option ((List UInt32)) :=
  Option.bind (seneschalref06_Add_p x1 x2) fun y1 => Option.bind (seneschalref06_Modulus_p x0) fun y2 => Option.bind (seneschalref06_Left_p y1 y2) fun y3 => some (y3)
theorem seneschalref06_Sum_c {S : Mem} {w : World} (hS : Sub S w) {x0 : Int} {v1_ : Value} {x1 : List UInt32} (h1_ : RdS S v1_ x1) {v2_ : Value} {x2 : List UInt32} (h2_ : RdS S v2_ x2) {r : (List UInt32)} (hF : seneschalref06_Sum_p x0 x1 x2 = some r) :
    Calls Try.prog 22 #[.int .i64 (x0), v1_, v2_] w fun e w' => Ext w w' ∧ ∃ (v0' : Value), e = .returned (v0') ∧ RdS (gr S w w') v0' r := by
 refine enter (n := 13) Try.func22 rfl rfl rfl ?_
 have H := HS.start hS
 unfold seneschalref06_Sum_p at hF
 refine sr ?_; intro K1 hK1
 refine p_as (v := .slice none 0 0) rfl ?_
 refine xk hK1 ?_; clear hK1
 refine sr ?_; intro K2 hK2
 refine p_mv (v := v1_) rfl ?_
 refine p_mv (v := v2_) rfl ?_
 obtain ⟨y1, e1, hF⟩ := bnd hF
 refine p_call (l := [v1_, v2_]) is58 rfl ?_
 refine (seneschalref06_Add_c H.sub h1_ h2_ e1).mono ?_; rintro _ w1 ⟨hx, v1, rfl, g1⟩
 have hle1 := gr_le (w' := w1) H.sub; replace H := H.call hx; clear hx; generalize gr S w w1 = S1 at hle1 H g1
 replace h1_ := RdS.mono h1_ hle1
 replace h2_ := RdS.mono h2_ hle1
 refine p_mv (v := .int .i64 (x0)) rfl ?_
 obtain ⟨y2, e2, hF⟩ := bnd hF
 refine p_call (l := [.int .i64 (x0)]) is20 rfl ?_
 refine (seneschalref06_Modulus_c H.sub e2).mono ?_; rintro _ w2 ⟨hx, v2, rfl, g2⟩
 have hle2 := gr_le (w' := w2) H.sub; replace H := H.call hx; clear hx; generalize gr S1 w1 w2 = S2 at hle2 H g2
 replace g1 := RdS.mono g1 hle2
 obtain ⟨y3, e3, hF⟩ := bnd hF
 refine p_call (l := [v1, v2]) is29 rfl ?_
 refine (seneschalref06_Left_c H.sub g1 g2 e3).mono ?_; rintro _ w3 ⟨hx, v3, rfl, g3⟩
 have hle3 := gr_le (w' := w3) H.sub; replace H := H.call hx; clear hx; generalize gr S2 w2 w3 = S3 at hle3 H g3
 replace g1 := RdS.mono g1 hle3
 replace g2 := RdS.mono g2 hle3
 refine p_as (v := v3) rfl ?_
 refine xk hK2 ?_; clear hK2
 refine wp_ret ?_
 obtain rfl := Option.some.inj hF
 refine e_1 rfl (q_tmp (v := v3) rfl) ?_
 exact ⟨H.toExt, _, rfl, RdS.mono g3 H.gr⟩
def seneschalref06_Product_p (x0 : Int) (x1 : List UInt32) (x2 : List UInt32) : Option ((List UInt32)) :=
  Option.bind (seneschalref06_Mul_p x1 x2) fun y1 => Option.bind (seneschalref06_Modulus_p x0) fun y2 => Option.bind (seneschalref06_Left_p y1 y2) fun y3 => some (y3)
theorem seneschalref06_Product_c {S : Mem} {w : World} (hS : Sub S w) {x0 : Int} {v1_ : Value} {x1 : List UInt32} (h1_ : RdS S v1_ x1) {v2_ : Value} {x2 : List UInt32} (h2_ : RdS S v2_ x2) {r : (List UInt32)} (hF : seneschalref06_Product_p x0 x1 x2 = some r) :
    Calls Try.prog 26 #[.int .i64 (x0), v1_, v2_] w fun e w' => Ext w w' ∧ ∃ (v0' : Value), e = .returned (v0') ∧ RdS (gr S w w') v0' r := by
 refine enter (n := 13) Try.func26 rfl rfl rfl ?_
 have H := HS.start hS
 unfold seneschalref06_Product_p at hF
 refine sr ?_; intro K1 hK1
 refine p_as (v := .slice none 0 0) rfl ?_
 refine xk hK1 ?_; clear hK1
 refine sr ?_; intro K2 hK2
 refine p_mv (v := v1_) rfl ?_
 refine p_mv (v := v2_) rfl ?_
 obtain ⟨y1, e1, hF⟩ := bnd hF
 refine p_call (l := [v1_, v2_]) is63 rfl ?_
 refine (seneschalref06_Mul_c H.sub h1_ h2_ e1).mono ?_; rintro _ w1 ⟨hx, v1, rfl, g1⟩
 have hle1 := gr_le (w' := w1) H.sub; replace H := H.call hx; clear hx; generalize gr S w w1 = S1 at hle1 H g1
 replace h1_ := RdS.mono h1_ hle1
 replace h2_ := RdS.mono h2_ hle1
 refine p_mv (v := .int .i64 (x0)) rfl ?_
 obtain ⟨y2, e2, hF⟩ := bnd hF
 refine p_call (l := [.int .i64 (x0)]) is20 rfl ?_
 refine (seneschalref06_Modulus_c H.sub e2).mono ?_; rintro _ w2 ⟨hx, v2, rfl, g2⟩
 have hle2 := gr_le (w' := w2) H.sub; replace H := H.call hx; clear hx; generalize gr S1 w1 w2 = S2 at hle2 H g2
 replace g1 := RdS.mono g1 hle2
 obtain ⟨y3, e3, hF⟩ := bnd hF
 refine p_call (l := [v1, v2]) is29 rfl ?_
 refine (seneschalref06_Left_c H.sub g1 g2 e3).mono ?_; rintro _ w3 ⟨hx, v3, rfl, g3⟩
 have hle3 := gr_le (w' := w3) H.sub; replace H := H.call hx; clear hx; generalize gr S2 w2 w3 = S3 at hle3 H g3
 replace g1 := RdS.mono g1 hle3
 replace g2 := RdS.mono g2 hle3
 refine p_as (v := v3) rfl ?_
 refine xk hK2 ?_; clear hK2
 refine wp_ret ?_
 obtain rfl := Option.some.inj hF
 refine e_1 rfl (q_tmp (v := v3) rfl) ?_
 exact ⟨H.toExt, _, rfl, RdS.mono g3 H.gr⟩
def seneschalref06_Opposite_p (x0 : Int) (x1 : List UInt32) : Option ((List UInt32)) :=
  Option.bind (seneschalref06_Modulus_p x0) fun y1 => Option.bind (seneschalref06_Modulus_p x0) fun y2 => Option.bind (seneschalref06_Left_p x1 y2) fun y3 => Option.bind (seneschalref06_Sub_p y1 y3) fun y4 => Option.bind (seneschalref06_Modulus_p x0) fun y5 => Option.bind (seneschalref06_Left_p y4 y5) fun y6 => some (y6)
theorem seneschalref06_Opposite_c {S : Mem} {w : World} (hS : Sub S w) {x0 : Int} {v1_ : Value} {x1 : List UInt32} (h1_ : RdS S v1_ x1) {r : (List UInt32)} (hF : seneschalref06_Opposite_p x0 x1 = some r) :
    Calls Try.prog 24 #[.int .i64 (x0), v1_] w fun e w' => Ext w w' ∧ ∃ (v0' : Value), e = .returned (v0') ∧ RdS (gr S w w') v0' r := by
 refine enter (n := 15) Try.func24 rfl rfl rfl ?_
 have H := HS.start hS
 unfold seneschalref06_Opposite_p at hF
 refine sr ?_; intro K1 hK1
 refine p_as (v := .slice none 0 0) rfl ?_
 refine xk hK1 ?_; clear hK1
 refine sr ?_; intro K2 hK2
 refine p_mv (v := .int .i64 (x0)) rfl ?_
 obtain ⟨y1, e1, hF⟩ := bnd hF
 refine p_call (l := [.int .i64 (x0)]) is20 rfl ?_
 refine (seneschalref06_Modulus_c H.sub e1).mono ?_; rintro _ w1 ⟨hx, v1, rfl, g1⟩
 have hle1 := gr_le (w' := w1) H.sub; replace H := H.call hx; clear hx; generalize gr S w w1 = S1 at hle1 H g1
 replace h1_ := RdS.mono h1_ hle1
 refine p_mv (v := v1_) rfl ?_
 refine p_mv (v := .int .i64 (x0)) rfl ?_
 obtain ⟨y2, e2, hF⟩ := bnd hF
 refine p_call (l := [.int .i64 (x0)]) is20 rfl ?_
 refine (seneschalref06_Modulus_c H.sub e2).mono ?_; rintro _ w2 ⟨hx, v2, rfl, g2⟩
 have hle2 := gr_le (w' := w2) H.sub; replace H := H.call hx; clear hx; generalize gr S1 w1 w2 = S2 at hle2 H g2
 replace h1_ := RdS.mono h1_ hle2
 replace g1 := RdS.mono g1 hle2
 obtain ⟨y3, e3, hF⟩ := bnd hF
 refine p_call (l := [v1_, v2]) is29 rfl ?_
 refine (seneschalref06_Left_c H.sub h1_ g2 e3).mono ?_; rintro _ w3 ⟨hx, v3, rfl, g3⟩
 have hle3 := gr_le (w' := w3) H.sub; replace H := H.call hx; clear hx; generalize gr S2 w2 w3 = S3 at hle3 H g3
 replace h1_ := RdS.mono h1_ hle3
 replace g1 := RdS.mono g1 hle3
 replace g2 := RdS.mono g2 hle3
 obtain ⟨y4, e4, hF⟩ := bnd hF
 refine p_call (l := [v1, v3]) is59 rfl ?_
 refine (seneschalref06_Sub_c H.sub g1 g3 e4).mono ?_; rintro _ w4 ⟨hx, v4, rfl, g4⟩
 have hle4 := gr_le (w' := w4) H.sub; replace H := H.call hx; clear hx; generalize gr S3 w3 w4 = S4 at hle4 H g4
 replace g1 := RdS.mono g1 hle4
 replace g3 := RdS.mono g3 hle4
 refine p_mv (v := .int .i64 (x0)) rfl ?_
 obtain ⟨y5, e5, hF⟩ := bnd hF
 refine p_call (l := [.int .i64 (x0)]) is20 rfl ?_
 refine (seneschalref06_Modulus_c H.sub e5).mono ?_; rintro _ w5 ⟨hx, v5, rfl, g5⟩
 have hle5 := gr_le (w' := w5) H.sub; replace H := H.call hx; clear hx; generalize gr S4 w4 w5 = S5 at hle5 H g5
 replace g4 := RdS.mono g4 hle5
 obtain ⟨y6, e6, hF⟩ := bnd hF
 refine p_call (l := [v4, v5]) is29 rfl ?_
 refine (seneschalref06_Left_c H.sub g4 g5 e6).mono ?_; rintro _ w6 ⟨hx, v6, rfl, g6⟩
 have hle6 := gr_le (w' := w6) H.sub; replace H := H.call hx; clear hx; generalize gr S5 w5 w6 = S6 at hle6 H g6
 replace g4 := RdS.mono g4 hle6
 replace g5 := RdS.mono g5 hle6
 refine p_as (v := v6) rfl ?_
 refine xk hK2 ?_; clear hK2
 refine wp_ret ?_
 obtain rfl := Option.some.inj hF
 refine e_1 rfl (q_tmp (v := v6) rfl) ?_
 exact ⟨H.toExt, _, rfl, RdS.mono g6 H.gr⟩
end Go.Proofs.Ytjmgilhlpohcmaa
