/- What some functions compute, and that they do. Conditions: as each theorem says. -/
import Derived.Test.YtjmgilhlpohcmaaRfB
namespace Go.Proofs.Ytjmgilhlpohcmaa
open Go Go.RowKit
attribute [local irreducible] wpList wpT Code.wp Calls Code.rounds
theorem is65 : IsFn Try.prog 65 := isFn Try.func65 (by kernel_rfl) (by kernel_rfl)
theorem is66 : IsFn Try.prog 66 := isFn Try.func66 (by kernel_rfl) (by kernel_rfl)
theorem is67 : IsFn Try.prog 67 := isFn Try.func67 (by kernel_rfl) (by kernel_rfl)
theorem is68 : IsFn Try.prog 68 := isFn Try.func68 (by kernel_rfl) (by kernel_rfl)
def seneschalref06_half_b0 (x0 : List UInt32) (s1 : UInt32 × Int × (List UInt32)) : Option ((UInt32 × Int × (List UInt32)) ⊕ ((List UInt32))) :=
  bif decide ((0 : Int) ≤ s1.2.1) then (Option.bind (idx x0 s1.2.1) fun y2 => Option.bind (idx s1.2.2 s1.2.1) fun y3 => Option.bind (setL s1.2.2 (s1.2.1 : Int) (i32 (shrI .u32 ((((i32 (shlI .u32 ((s1.1).toNat : Int) 16)) ||| y2)).toNat : Int) 1))) fun y4 => some (.inl (((((i32 (shlI .u32 ((s1.1).toNat : Int) 16)) ||| y2) &&& (1 : UInt32)), (w64 (s1.2.1 - 1)), y4)))) else (some (.inr (s1.2.2)))
def seneschalref06_half_p (x0 : List UInt32) : Option ((List UInt32)) :=
  Option.bind (mkL ((x0).length : Int) (0 : UInt32)) fun y1 => Option.bind (Option.bind (iter (seneschalref06_half_b0 x0) (((0 : UInt32), (w64 (((x0).length : Int) - 1)), y1))) (fun e => some (e))) (fun t1 => Option.bind (seneschalref06_trim_p t1) fun y5 => some (y5))
theorem seneschalref06_half_c {S : Mem} {w : World} (hS : Sub S w) {v0_ : Value} {x0 : List UInt32} (h0_ : RdS S v0_ x0) {r : (List UInt32)} (hF : seneschalref06_half_p x0 = some r) :
    Calls Try.prog 66 #[v0_] w fun e w' => Ext w w' ∧ ∃ (v0' : Value), e = .returned (v0') ∧ RdS (gr S w w') v0' r := by
 refine enter (n := 33) Try.func66 rfl rfl rfl ?_
 have H := HS.start hS
 unfold seneschalref06_half_p at hF
 refine sr ?_; intro K1 hK1
 refine p_as (v := .slice none 0 0) rfl ?_
 refine xk hK1 ?_; clear hK1
 refine sr ?_; intro K2 hK2
 refine p_mv (v := v0_) rfl ?_
 refine p_val (r_lenR' u26 rfl h0_ H.sub) ?_
 obtain ⟨y1, e1, hF⟩ := bnd hF
 refine p_of1 (a_makeX (zx := (0 : UInt32)) tn26 rfl H rfl rfl (rpU32c (x := (0 : UInt32)) rfl) e1 (Int.le_refl _) (mkL_some e1).2.1) ?_; clear H; rintro w1 v1 ⟨cs1, rs1, H, g1⟩
 replace H : HS ⟨S, [], w⟩ S w1 [.osl (v1) (y1).length 1 cs1 rs1 76] := H
 refine p_as (v := v1) rfl ?_
 refine xk hK2 ?_; clear hK2
 refine sr ?_; intro K3 hK3
 refine p_as (v := .int .u32 (0)) rfl ?_
 refine xk hK3 ?_; clear hK3
 refine wp_seq_k ?_; intro K4 hK4
 refine nameF fun m1 k1 => ?_
 obtain ⟨t1, hE1, hF1⟩ := bnd hF
 have J1 : ∀ (cs5 rs3 : List Value) (m4 : FM) (w4 : World), (∀ t, has [4, 5, 6, 10, 11, 12, 13, 14, 15, 16, 17, 18, 19, 20, 21, 22, 23, 24, 25, 26, 27, 28, 29, 30] t = false → look m4 t = look m1 t) → HS ⟨S, [], w⟩ S w4 [.osl (v1) (t1).length 1 cs5 rs3 76] → RL S cs5 t1 → K4 (fr 33 m4) w4 := by
  clear H; intro cs5 rs3 m4 w4 k5 H g4
  have q5 : look m4 3 = v1 := (k5 3 rfl).trans (k1 3)
  refine hK4 _ _ ?_
  refine sr ?_; intro K11 hK11
  refine p_mv (v := v1) q5 ?_
  obtain ⟨S1, hle1, g5, H1⟩ := H.fixX (k := 0) rfl g4; clear H; have H := H1; clear H1
  replace H : HS ⟨S, [], w⟩ S1 w4 [] := H
  obtain ⟨y5, e5, hF1⟩ := bnd hF1
  refine p_call (l := [v1]) is55 rfl ?_
  refine (seneschalref06_trim_c H.sub g5 e5).mono ?_; rintro _ w5 ⟨hx, v4, rfl, g6⟩
  have hle2 := gr_le (w' := w5) H.sub; replace H := H.call hx; clear hx; generalize gr S1 w4 w5 = S2 at hle2 H g6
  replace g5 := RdS.mono g5 hle2
  refine p_as (v := v4) rfl ?_
  refine xk hK11 ?_; clear hK11
  refine wp_ret ?_
  obtain rfl := Option.some.inj hF1
  refine e_1 rfl (q_tmp (v := v4) rfl) ?_
  exact ⟨H.toExt, _, rfl, RdS.mono g6 H.gr⟩
 refine sr ?_; intro K5 hK5
 refine p_mv (v := v0_) (k1 0) ?_
 refine p_val (r_lenR' u26 rfl h0_ H.sub) ?_
 refine p_val (r_sub (r := w64 (((x0).length : Int) - 1)) rfl rfl rfl) ?_
 refine p_as (v := .int .i64 ((w64 (((x0).length : Int) - 1)))) rfl ?_
 refine xk hK5 ?_; clear hK5
 refine wp_block ?_
 refine nameF fun m2 k2 => ?_
 obtain ⟨out1, hL1, hE2⟩ := bnd hE1
 replace H : HS ⟨S, [], w⟩ S w1 [.osl (v1) (y1).length 1 cs1 rs1 76] := H
 refine loopI [4, 5, 6, 13, 14, 15, 16, 17, 18, 19, 20, 21, 22, 23, 24, 25, 26, 27, 28, 29, 30] (fun (s1 : UInt32 × Int × (List UInt32)) (m3 : FM) (w2 : World) => ∃ (cs2 rs2 : List Value), look m3 4 = .int .u32 (((s1.1).toNat : Int)) ∧ look m3 5 = .int .i64 (s1.2.1) ∧ HS ⟨S, [], w⟩ S w2 [.osl (v1) (s1.2.2).length 1 cs2 rs2 76] ∧ RL S cs2 s1.2.2) hL1 ⟨_, _, ((k2 4).trans (k1 4)), (k2 5), H, g1⟩ ?_
 clear H; intro k4 s1 m3 w2 k3 hI1 o2 hb1 hh1; obtain ⟨cs2, rs2, q1, q2, H, g2⟩ := hI1
 have q3 : look m3 0 = v0_ := (k3 0 rfl).trans ((k2 0).trans (k1 0))
 have q4 : look m3 3 = v1 := (k3 3 rfl).trans ((k2 3).trans (k1 3))
 unfold seneschalref06_half_b0 at hb1
 refine wp_seq_k ?_; intro K6 hK6
 refine sr ?_; intro K7 hK7
 refine p_mv (v := .int .i64 (s1.2.1)) q2 ?_
 refine p_val (r_geq (t := decide ((0 : Int) ≤ s1.2.1)) rfl rfl rfl) ?_
 refine xk hK7 ?_; clear hK7
 refine c_split (t := decide ((0 : Int) ≤ s1.2.1)) rfl (fun hc1 => ?_) (fun hc1 => ?_)
 ·replace hb1 := cnd_t hb1 hc1
  refine wp_skip ?_
  refine xn hK6 ?_; clear hK6
  refine wp_seq_k ?_; intro K8 hK8
  refine wp_block ?_
  refine sr ?_; intro K9 hK9
  refine p_mv (v := .int .u32 (((s1.1).toNat : Int))) q1 ?_
  refine p_val (r_shl (r := (((i32 (shlI .u32 ((s1.1).toNat : Int) 16))).toNat : Int)) rfl rfl (by decide) (i32_shl _ _)) ?_
  refine p_mv (v := v0_) q3 ?_
  refine p_mv (v := .int .i64 (s1.2.1)) q2 ?_
  obtain ⟨y2, e2, hb1⟩ := bnd hb1
  obtain ⟨b1, o3, N1, c1, cs3, hv1, hi1, hc2, hr1⟩ := h0_.get (idx_some e2).2
  refine p_val (r_addrV (i := (s1.2.1 : Int).toNat) u26 tsz76 rfl hv1 rfl (idx_some e2).1 hi1) ?_
  obtain rfl := elU32 hr1
  refine p_val (s_load1 (p := (o3 + (s1.2.1 : Int).toNat * 1)) (o := 0) (v := .int .u32 (((y2).toNat : Int))) to76 H.sub rfl hc2 rfl) ?_
  refine p_val (r_bits (bo := .or) (by simp) (r := ((((i32 (shlI .u32 ((s1.1).toNat : Int) 16)) ||| y2)).toNat : Int)) rfl rfl (i32_or (i32 (shlI .u32 ((s1.1).toNat : Int) 16)) y2)) ?_
  refine p_as (v := .int .u32 (((((i32 (shlI .u32 ((s1.1).toNat : Int) 16)) ||| y2)).toNat : Int))) rfl ?_
  refine xk hK9 ?_; clear hK9
  refine sr ?_; intro K10 hK10
  refine p_mv (v := v1) q4 ?_
  refine p_mv (v := .int .i64 (s1.2.1)) q2 ?_
  refine p_mv (v := .int .u32 (((((i32 (shlI .u32 ((s1.1).toNat : Int) 16)) ||| y2)).toNat : Int))) rfl ?_
  refine p_val (r_shr (r := (((i32 (shrI .u32 ((((i32 (shlI .u32 ((s1.1).toNat : Int) 16)) ||| y2)).toNat : Int) 1))).toNat : Int)) rfl rfl (by decide) (i32_shr _ _)) ?_
  obtain ⟨y3, e3, hb1⟩ := bnd hb1
  obtain ⟨b2, c2, hv2⟩ := H.ownAt (k := 0) rfl (idx_lt e3)
  refine p_val (r_addrV (i := (s1.2.1 : Int).toNat) u26 tsz76 rfl hv2 rfl (idx_some e3).1 (idx_lt e3)) ?_
  subst hv2
  obtain ⟨y4, e4, hb1⟩ := bnd hb1
  refine p_ofs (a_storeX (k := 0) (v := .int .u32 ((((i32 (shrI .u32 ((((i32 (shlI .u32 ((s1.1).toNat : Int) 16)) ||| y2)).toNat : Int) 1))).toNat : Int))) (l := [Value.int .u32 ((((i32 (shrI .u32 ((((i32 (shlI .u32 ((s1.1).toNat : Int) 16)) ||| y2)).toNat : Int) 1))).toNat : Int))]) tsz76 rfl H rfl g2 rfl rfl (cells_one rfl) rpU32 e4) ?_; clear H; rintro w3 ⟨cs4, H, g3⟩
  replace H : HS ⟨S, [], w⟩ S w3 [.osl (sl b2 0 (s1.2.2).length c2) (y4).length 1 cs4 rs2 76] := H
  refine xk hK10 ?_; clear hK10
  refine wp_region_lit ?_
  refine p_mv (v := .int .u32 (((((i32 (shlI .u32 ((s1.1).toNat : Int) 16)) ||| y2)).toNat : Int))) rfl ?_
  refine p_val (r_bits (bo := .and) (by simp) (r := (((((i32 (shlI .u32 ((s1.1).toNat : Int) 16)) ||| y2) &&& (1 : UInt32))).toNat : Int)) rfl rfl (i32_and ((i32 (shlI .u32 ((s1.1).toNat : Int) 16)) ||| y2) (1 : UInt32))) ?_
  refine p_as (v := .int .u32 ((((((i32 (shlI .u32 ((s1.1).toNat : Int) 16)) ||| y2) &&& (1 : UInt32))).toNat : Int))) rfl ?_
  refine wpList_nil ?_
  refine b_norm ?_
  refine xn hK8 ?_; clear hK8
  refine wp_region_lit ?_
  refine p_mv (v := .int .i64 (s1.2.1)) q2 ?_
  refine p_val (r_sub (r := w64 (s1.2.1 - 1)) rfl rfl rfl) ?_
  refine p_as (v := .int .i64 ((w64 (s1.2.1 - 1)))) rfl ?_
  refine wpList_nil ?_
  refine x_norm ?_
  replace H : HS ⟨S, [], w⟩ S w3 [.osl (sl b2 0 (s1.2.2).length c2) (y4).length 1 cs4 rs2 76] := H
  obtain rfl := Option.some.inj hb1
  exact ⟨((((i32 (shlI .u32 ((s1.1).toNat : Int) 16)) ||| y2) &&& (1 : UInt32)), (w64 (s1.2.1 - 1)), y4), _, rfl, (by (repeat (refine keep_cons rfl ?_)); refine keep_sub k3 rfl ?_; (repeat (refine keep_cons rfl ?_)); exact fun _ _ => rfl), ⟨_, _, rfl, rfl, H, g3⟩, hh1⟩
 ·replace hb1 := cnd_f hb1 hc1
  refine wp_exit ?_
  refine x_exit ?_
  refine x_exit ?_
  refine b_hit ?_
  refine x_norm ?_
  replace H : HS ⟨S, [], w⟩ S w2 [.osl (v1) (s1.2.2).length 1 cs2 rs2 76] := H
  obtain rfl := Option.some.inj hb1
  obtain rfl := Option.some.inj hh1
  obtain rfl := Option.some.inj hE2
  exact J1 _ _ _ _ (by (repeat (refine keep_cons rfl ?_)); refine keep_sub k3 rfl ?_; (repeat (refine keep_cons rfl ?_)); refine keep_name k2 ?_; (repeat (refine keep_cons rfl ?_)); exact fun _ _ => rfl) H g2
def seneschalref06_odd_p (x0 : List UInt32) : Option (Bool) :=
  Option.bind (bif decide ((0 : Int) < ((x0).length : Int)) then (Option.bind (idx x0 0) fun y1 => some (((((i32 (Int.tmod ((y1).toNat : Int) 2))).toNat : Int) == 1))) else (some (false))) (fun t1 => some (t1))
theorem seneschalref06_odd_c {S : Mem} {w : World} (hS : Sub S w) {v0_ : Value} {x0 : List UInt32} (h0_ : RdS S v0_ x0) {r : Bool} (hF : seneschalref06_odd_p x0 = some r) :
    Calls Try.prog 65 #[v0_] w fun e w' => e = .returned (.bool (r)) ∧ Ext w w' := by
 refine enter (n := 13) Try.func65 rfl rfl rfl ?_
 have H := HS.start hS
 unfold seneschalref06_odd_p at hF
 refine sr ?_; intro K1 hK1
 refine p_as (v := .bool (false)) rfl ?_
 refine xk hK1 ?_; clear hK1
 refine sr ?_; intro K2 hK2
 refine p_mv (v := v0_) rfl ?_
 refine p_val (r_lenR' u26 rfl h0_ H.sub) ?_
 refine p_val (r_gtr (t := decide ((0 : Int) < ((x0).length : Int))) rfl rfl rfl) ?_
 refine p_mv (v := .bool (decide ((0 : Int) < ((x0).length : Int)))) rfl ?_
 refine nameL fun m1 k1 => ?_
 refine gs_at 6 fun K3 hK3 R1 hR1 => ?_
 obtain ⟨t1, hE1, hF1⟩ := bnd hF
 have J1 : ∀ (m2 : FM) (w1 : World), (∀ t, has [7, 8, 9, 10, 11, 12] t = false → look m2 t = look m1 t) → look m2 12 = .bool (t1) → HS ⟨S, [], w⟩ S w1 [] → K3 m2 w1 := by
  clear H; intro m2 w1 k2 q1 H
  refine hK3 _ _ ?_
  refine p_as (v := .bool (t1)) q1 ?_
  refine xk hK2 ?_; clear hK2
  refine wp_ret ?_
  obtain rfl := Option.some.inj hF1
  refine e_1 rfl (q_tmp (v := .bool (t1)) rfl) ?_
  exact ⟨rfl, H.toExt⟩
 refine p_gs (j := 3) (gvl_at rfl rfl (k1 6)) (fun hb1 => ?_) (fun hb1 => ?_)
 ·replace hE1 := cnd_t hE1 hb1
  refine p_want (gvl_at rfl rfl (k1 6)) hb1 ?_
  refine p_mv (v := v0_) (k1 0) ?_
  refine p_want (gvl_at rfl rfl (k1 6)) hb1 ?_
  obtain ⟨y1, e1, hE1⟩ := bnd hE1
  obtain ⟨b1, o2, N1, c1, cs1, hv1, hi1, hc1, hr1⟩ := h0_.get (idx_some e1).2
  refine p_val (r_addrV (i := (0 : Int).toNat) u26 tsz76 rfl hv1 rfl (idx_some e1).1 hi1) ?_
  obtain rfl := elU32 hr1
  refine p_want (gvl_at rfl rfl (k1 6)) hb1 ?_
  refine p_val (s_load1 (p := (o2 + (0 : Int).toNat * 1)) (o := 0) (v := .int .u32 (((y1).toNat : Int))) to76 H.sub rfl hc1 rfl) ?_
  refine p_want (gvl_at rfl rfl (k1 6)) hb1 ?_
  refine p_val (r_rem (r := (((i32 (Int.tmod ((y1).toNat : Int) 2))).toNat : Int)) rfl rfl (by decide) (i32_rem _ _ (by omega))) ?_
  refine p_want (gvl_at rfl rfl (k1 6)) hb1 ?_
  refine p_val (r_eql (t := ((((i32 (Int.tmod ((y1).toNat : Int) 2))).toNat : Int) == 1)) rfl rfl rfl) ?_
  refine p_val (r_pickt (v := .bool (((((i32 (Int.tmod ((y1).toNat : Int) 2))).toNat : Int) == 1))) (k1 6) hb1 rfl) ?_
  refine hR1 _ _ ?_
  replace H : HS ⟨S, [], w⟩ S w [] := H
  obtain rfl := Option.some.inj hE1
  exact J1 _ _ (by (repeat (refine keep_cons rfl ?_)); exact fun _ _ => rfl) rfl H
 ·replace hE1 := cnd_f hE1 hb1
  refine p_skip (gvl_at rfl rfl (k1 6)) hb1 ?_
  rw [put_fr]
  refine p_skip (gvl_at rfl rfl (k1 6)) hb1 ?_
  rw [put_fr]
  refine p_skip (gvl_at rfl rfl (k1 6)) hb1 ?_
  rw [put_fr]
  refine p_skip (gvl_at rfl rfl (k1 6)) hb1 ?_
  rw [put_fr]
  refine p_skip (gvl_at rfl rfl (k1 6)) hb1 ?_
  rw [put_fr]
  refine p_val (r_pickf (v := .bool (false)) (k1 6) hb1 rfl) ?_
  refine hR1 _ _ ?_
  replace H : HS ⟨S, [], w⟩ S w [] := H
  obtain rfl := Option.some.inj hE1
  exact J1 _ _ (by (repeat (refine keep_cons rfl ?_)); exact fun _ _ => rfl) rfl H
def seneschalref06_halved_p (x0 : List UInt32) (x1 : List UInt32) : Option ((List UInt32)) :=
  Option.bind (Option.bind (seneschalref06_odd_p x0) fun y1 => bif y1 then (Option.bind (seneschalref06_Add_p x0 x1) fun y2 => some (y2)) else (some (x0))) (fun t1 => Option.bind (seneschalref06_half_p t1) fun y3 => some (y3))
theorem seneschalref06_halved_c {S : Mem} {w : World} (hS : Sub S w) {v0_ : Value} {x0 : List UInt32} (h0_ : RdS S v0_ x0) {v1_ : Value} {x1 : List UInt32} (h1_ : RdS S v1_ x1) {r : (List UInt32)} (hF : seneschalref06_halved_p x0 x1 = some r) :
    Calls Try.prog 67 #[v0_, v1_] w fun e w' => Ext w w' ∧ ∃ (v0' : Value), e = .returned (v0') ∧ RdS (gr S w w') v0' r := by
 refine enter (n := 12) Try.func67 rfl rfl rfl ?_
 have H := HS.start hS
 unfold seneschalref06_halved_p at hF
 refine sr ?_; intro K1 hK1
 refine p_as (v := .slice none 0 0) rfl ?_
 refine xk hK1 ?_; clear hK1
 refine wp_seq_k ?_; intro K2 hK2
 refine nameF fun m1 k1 => ?_
 obtain ⟨t1, hE1, hF1⟩ := bnd hF
 have J1 : ∀ (v2 : Value) (S2 : Mem) (m2 : FM) (w3 : World), (∀ t, has [0, 5, 6, 7, 8, 9] t = false → look m2 t = look m1 t) → look m2 0 = v2 → Mem.le S S2 → HS ⟨S, [], w⟩ S2 w3 [] → RdS S2 v2 t1 → K2 (fr 12 m2) w3 := by
  clear H; intro v2 S2 m2 w3 k2 q1 hle2 H g2
  replace h0_ := RdS.mono h0_ hle2
  replace h1_ := RdS.mono h1_ hle2
  refine hK2 _ _ ?_
  refine sr ?_; intro K4 hK4
  refine p_mv (v := v2) q1 ?_
  obtain ⟨y3, e3, hF1⟩ := bnd hF1
  refine p_call (l := [v2]) is66 rfl ?_
  refine (seneschalref06_half_c H.sub g2 e3).mono ?_; rintro _ w4 ⟨hx, v3, rfl, g3⟩
  have hle3 := gr_le (w' := w4) H.sub; replace H := H.call hx; clear hx; generalize gr S2 w3 w4 = S3 at hle3 H g3
  replace g2 := RdS.mono g2 hle3
  refine p_as (v := v3) rfl ?_
  refine xk hK4 ?_; clear hK4
  refine wp_ret ?_
  obtain rfl := Option.some.inj hF1
  refine e_1 rfl (q_tmp (v := v3) rfl) ?_
  exact ⟨H.toExt, _, rfl, RdS.mono g3 H.gr⟩
 refine sr ?_; intro K3 hK3
 refine p_mv (v := v0_) (k1 0) ?_
 obtain ⟨y1, e1, hE1⟩ := bnd hE1
 refine p_call (l := [v0_]) is65 rfl ?_
 refine (seneschalref06_odd_c H.sub h0_ e1).mono ?_; rintro _ w1 ⟨rfl, hx⟩; replace H := H.ext hx; clear hx
 refine xk hK3 ?_; clear hK3
 refine c_split (t := y1) rfl (fun hc1 => ?_) (fun hc1 => ?_)
 ·replace hE1 := cnd_t hE1 hc1
  refine wp_region_lit ?_
  refine p_mv (v := v0_) (k1 0) ?_
  refine p_mv (v := v1_) (k1 1) ?_
  obtain ⟨y2, e2, hE1⟩ := bnd hE1
  refine p_call (l := [v0_, v1_]) is58 rfl ?_
  refine (seneschalref06_Add_c H.sub h0_ h1_ e2).mono ?_; rintro _ w2 ⟨hx, v1, rfl, g1⟩
  have hle1 := gr_le (w' := w2) H.sub; replace H := H.call hx; clear hx; generalize gr S w1 w2 = S1 at hle1 H g1
  replace h0_ := RdS.mono h0_ hle1
  replace h1_ := RdS.mono h1_ hle1
  refine p_as (v := v1) rfl ?_
  refine wpList_nil ?_
  refine x_norm ?_
  replace H : HS ⟨S, [], w⟩ S1 w2 [] := H
  obtain rfl := Option.some.inj hE1
  exact J1 _ _ _ _ (by (repeat (refine keep_cons rfl ?_)); exact fun _ _ => rfl) rfl hle1 H g1
 ·replace hE1 := cnd_f hE1 hc1
  refine wp_skip ?_
  refine x_norm ?_
  replace H : HS ⟨S, [], w⟩ S w1 [] := H
  obtain rfl := Option.some.inj hE1
  exact J1 _ _ _ _ (by (repeat (refine keep_cons rfl ?_)); exact fun _ _ => rfl) (show _ = (v0_ : Value) from (k1 0)) (Mem.le_refl _) H h0_
def seneschalref06_less_p (x0 : List UInt32) (x1 : List UInt32) (x2 : List UInt32) : Option ((List UInt32)) :=
  Option.bind (Option.bind (seneschalref06_Cmp_p x0 x1) fun y1 => bif decide (y1 < 0) then (Option.bind (seneschalref06_Add_p x0 x2) fun y2 => some (y2)) else (some (x0))) (fun t1 => Option.bind (seneschalref06_Sub_p t1 x1) fun y3 => some (y3))
theorem seneschalref06_less_c {S : Mem} {w : World} (hS : Sub S w) {v0_ : Value} {x0 : List UInt32} (h0_ : RdS S v0_ x0) {v1_ : Value} {x1 : List UInt32} (h1_ : RdS S v1_ x1) {v2_ : Value} {x2 : List UInt32} (h2_ : RdS S v2_ x2) {r : (List UInt32)} (hF : seneschalref06_less_p x0 x1 x2 = some r) :
    Calls Try.prog 68 #[v0_, v1_, v2_] w fun e w' => Ext w w' ∧ ∃ (v0' : Value), e = .returned (v0') ∧ RdS (gr S w w') v0' r := by
 refine enter (n := 17) Try.func68 rfl rfl rfl ?_
 have H := HS.start hS
 unfold seneschalref06_less_p at hF
 refine sr ?_; intro K1 hK1
 refine p_as (v := .slice none 0 0) rfl ?_
 refine xk hK1 ?_; clear hK1
 refine wp_seq_k ?_; intro K2 hK2
 refine nameF fun m1 k1 => ?_
 obtain ⟨t1, hE1, hF1⟩ := bnd hF
 have J1 : ∀ (v2 : Value) (S2 : Mem) (m2 : FM) (w3 : World), (∀ t, has [0, 7, 8, 9, 10, 11, 12, 13] t = false → look m2 t = look m1 t) → look m2 0 = v2 → Mem.le S S2 → HS ⟨S, [], w⟩ S2 w3 [] → RdS S2 v2 t1 → K2 (fr 17 m2) w3 := by
  clear H; intro v2 S2 m2 w3 k2 q1 hle2 H g2
  replace h0_ := RdS.mono h0_ hle2
  replace h1_ := RdS.mono h1_ hle2
  replace h2_ := RdS.mono h2_ hle2
  have q2 : look m2 1 = v1_ := (k2 1 rfl).trans (k1 1)
  refine hK2 _ _ ?_
  refine sr ?_; intro K4 hK4
  refine p_mv (v := v2) q1 ?_
  refine p_mv (v := v1_) q2 ?_
  obtain ⟨y3, e3, hF1⟩ := bnd hF1
  refine p_call (l := [v2, v1_]) is59 rfl ?_
  refine (seneschalref06_Sub_c H.sub g2 h1_ e3).mono ?_; rintro _ w4 ⟨hx, v3, rfl, g3⟩
  have hle3 := gr_le (w' := w4) H.sub; replace H := H.call hx; clear hx; generalize gr S2 w3 w4 = S3 at hle3 H g3
  replace h1_ := RdS.mono h1_ hle3
  replace g2 := RdS.mono g2 hle3
  refine p_as (v := v3) rfl ?_
  refine xk hK4 ?_; clear hK4
  refine wp_ret ?_
  obtain rfl := Option.some.inj hF1
  refine e_1 rfl (q_tmp (v := v3) rfl) ?_
  exact ⟨H.toExt, _, rfl, RdS.mono g3 H.gr⟩
 refine sr ?_; intro K3 hK3
 refine p_mv (v := v0_) (k1 0) ?_
 refine p_mv (v := v1_) (k1 1) ?_
 obtain ⟨y1, e1, hE1⟩ := bnd hE1
 refine p_call (l := [v0_, v1_]) is35 rfl ?_
 refine (seneschalref06_Cmp_c H.sub h0_ h1_ e1).mono ?_; rintro _ w1 ⟨rfl, hx⟩; replace H := H.ext hx; clear hx
 refine p_val (r_lss (t := decide (y1 < 0)) rfl rfl rfl) ?_
 refine xk hK3 ?_; clear hK3
 refine c_split (t := decide (y1 < 0)) rfl (fun hc1 => ?_) (fun hc1 => ?_)
 ·replace hE1 := cnd_t hE1 hc1
  refine wp_region_lit ?_
  refine p_mv (v := v0_) (k1 0) ?_
  refine p_mv (v := v2_) (k1 2) ?_
  obtain ⟨y2, e2, hE1⟩ := bnd hE1
  refine p_call (l := [v0_, v2_]) is58 rfl ?_
  refine (seneschalref06_Add_c H.sub h0_ h2_ e2).mono ?_; rintro _ w2 ⟨hx, v1, rfl, g1⟩
  have hle1 := gr_le (w' := w2) H.sub; replace H := H.call hx; clear hx; generalize gr S w1 w2 = S1 at hle1 H g1
  replace h0_ := RdS.mono h0_ hle1
  replace h1_ := RdS.mono h1_ hle1
  replace h2_ := RdS.mono h2_ hle1
  refine p_as (v := v1) rfl ?_
  refine wpList_nil ?_
  refine x_norm ?_
  replace H : HS ⟨S, [], w⟩ S1 w2 [] := H
  obtain rfl := Option.some.inj hE1
  exact J1 _ _ _ _ (by (repeat (refine keep_cons rfl ?_)); exact fun _ _ => rfl) rfl hle1 H g1
 ·replace hE1 := cnd_f hE1 hc1
  refine wp_skip ?_
  refine x_norm ?_
  replace H : HS ⟨S, [], w⟩ S w1 [] := H
  obtain rfl := Option.some.inj hE1
  exact J1 _ _ _ _ (by (repeat (refine keep_cons rfl ?_)); exact fun _ _ => rfl) (show _ = (v0_ : Value) from (k1 0)) (Mem.le_refl _) H h0_
def seneschalref06_Inverse_b1 (y1 : (List UInt32)) (s2 : (List UInt32) × (List UInt32)) : Option (((List UInt32) × (List UInt32)) ⊕ ((List UInt32) × (List UInt32))) :=
  Option.bind (seneschalref06_odd_p s2.1) fun y5 => bif (!y5) then (Option.bind (seneschalref06_half_p s2.1) fun y6 => Option.bind (seneschalref06_halved_p s2.2 y1) fun y7 => some (.inl ((y6, y7)))) else (some (.inr ((s2.1, s2.2))))
def seneschalref06_Inverse_b2 (y1 : (List UInt32)) (s3 : (List UInt32) × (List UInt32)) : Option (((List UInt32) × (List UInt32)) ⊕ ((List UInt32) × (List UInt32))) :=
  Option.bind (seneschalref06_odd_p s3.1) fun y8 => bif (!y8) then (Option.bind (seneschalref06_half_p s3.1) fun y9 => Option.bind (seneschalref06_halved_p s3.2 y1) fun y10 => some (.inl ((y9, y10)))) else (some (.inr ((s3.1, s3.2))))
def seneschalref06_Inverse_b0 (y1 : (List UInt32)) (s1 : (List UInt32) × (List UInt32) × (List UInt32) × (List UInt32)) : Option (((List UInt32) × (List UInt32) × (List UInt32) × (List UInt32)) ⊕ ((List UInt32) × (List UInt32) × (List UInt32))) :=
  Option.bind (seneschalref06_Cmp_p s1.1 ([(1 : UInt32)] : List UInt32)) fun y3 => Option.bind (bif (y3 != 0) then (Option.bind (seneschalref06_Cmp_p s1.2.1 ([(1 : UInt32)] : List UInt32)) fun y4 => some ((y4 != 0))) else (some (false))) (fun t2 => bif t2 then (Option.bind (Option.bind (iter (seneschalref06_Inverse_b1 y1) ((s1.1, s1.2.2.1))) (fun e => some (e))) (fun t3 => Option.bind (Option.bind (iter (seneschalref06_Inverse_b2 y1) ((s1.2.1, s1.2.2.2))) (fun e => some (e))) (fun t4 => Option.bind (seneschalref06_Cmp_p t3.1 t4.1) fun y11 => bif decide ((0 : Int) ≤ y11) then (Option.bind (seneschalref06_Sub_p t3.1 t4.1) fun y12 => Option.bind (seneschalref06_less_p t3.2 t4.2 y1) fun y13 => some (.inl ((y12, t4.1, y13, t4.2)))) else (Option.bind (seneschalref06_Sub_p t4.1 t3.1) fun y14 => Option.bind (seneschalref06_less_p t4.2 t3.2 y1) fun y15 => some (.inl ((t3.1, y14, t3.2, y15))))))) else (some (.inr ((s1.1, s1.2.2.1, s1.2.2.2)))))
def seneschalref06_Inverse_p (x0 : Int) (x1 : List UInt32) : Option ((List UInt32)) :=
  Option.bind (seneschalref06_Modulus_p x0) fun y1 => Option.bind (seneschalref06_Left_p x1 y1) fun y2 => Option.bind (Option.bind (iter (seneschalref06_Inverse_b0 y1) ((y2, y1, ([(1 : UInt32)] : List UInt32), ([] : List UInt32)))) (fun e => some (e))) (fun t1 => Option.bind (seneschalref06_Cmp_p t1.1 ([(1 : UInt32)] : List UInt32)) fun y16 => bif (y16 == 0) then (some (t1.2.1)) else (some (t1.2.2)))
theorem seneschalref06_Inverse_c {S : Mem} {w : World} (hS : Sub S w) {x0 : Int} {v1_ : Value} {x1 : List UInt32} (h1_ : RdS S v1_ x1) {r : (List UInt32)} (hF : seneschalref06_Inverse_p x0 x1 = some r) :
    Calls Try.prog 30 #[.int .i64 (x0), v1_] w fun e w' => Ext w w' ∧ ∃ (v0' : Value), e = .returned (v0') ∧ RdS (gr S w w') v0' r := by
 refine enter (n := 68) Try.func30 rfl rfl rfl ?_
 have H := HS.start hS
 unfold seneschalref06_Inverse_p at hF
 refine sr ?_; intro K1 hK1
 refine p_as (v := .slice none 0 0) rfl ?_
 refine xk hK1 ?_; clear hK1
 refine sr ?_; intro K2 hK2
 refine p_mv (v := .int .i64 (x0)) rfl ?_
 obtain ⟨y1, e1, hF⟩ := bnd hF
 refine p_call (l := [.int .i64 (x0)]) is20 rfl ?_
 refine (seneschalref06_Modulus_c H.sub e1).mono ?_; rintro _ w1 ⟨hx, v1, rfl, g1⟩
 have hle1 := gr_le (w' := w1) H.sub; replace H := H.call hx; clear hx; generalize gr S w w1 = S1 at hle1 H g1
 replace h1_ := RdS.mono h1_ hle1
 refine p_as (v := v1) rfl ?_
 refine xk hK2 ?_; clear hK2
 refine sr ?_; intro K3 hK3
 refine p_mv (v := v1_) rfl ?_
 refine p_mv (v := v1) rfl ?_
 obtain ⟨y2, e2, hF⟩ := bnd hF
 refine p_call (l := [v1_, v1]) is29 rfl ?_
 refine (seneschalref06_Left_c H.sub h1_ g1 e2).mono ?_; rintro _ w2 ⟨hx, v2, rfl, g2⟩
 have hle2 := gr_le (w' := w2) H.sub; replace H := H.call hx; clear hx; generalize gr S1 w1 w2 = S2 at hle2 H g2
 replace h1_ := RdS.mono h1_ hle2
 replace g1 := RdS.mono g1 hle2
 refine p_mv (v := v1) rfl ?_
 refine p_as (v := v2) rfl ?_
 refine p_as (v := v1) rfl ?_
 refine xk hK3 ?_; clear hK3
 refine sr ?_; intro K4 hK4
 have g3 : RL S2 ([Value.int .u32 (1)] ++ ([] : List Value)) ([(1 : UInt32)] : List UInt32) := (RL.cons (rpU32c (x := (1 : UInt32)) rfl) RL.nil)
 refine p_of1 (a_bslice (N := 1) (vals := [(0, .int .u32 (1))]) (l := ([Value.int .u32 (1)] ++ ([] : List Value))) tn26 H rfl rfl rfl g3.len) ?_; clear H; intro w3 v3 H
 generalize ([Value.int .u32 (1)] ++ ([] : List Value)) = cs1 at H g3
 replace H : HS ⟨S, [], w⟩ S2 w3 [.osl (v3) (([(1 : UInt32)] : List UInt32)).length 1 cs1 [] 76] := H
 have g4 : RL S2 ([] : List Value) ([] : List UInt32) := RL.nil
 refine p_of1 (a_bslice (N := 0) (vals := []) (l := ([] : List Value)) tn26 H rfl rfl rfl g4.len) ?_; clear H; intro w4 v4 H
 replace H : HS ⟨S, [], w⟩ S2 w4 [.osl (v4) (([] : List UInt32)).length 1 ([] : List Value) [] 76, .osl (v3) (([(1 : UInt32)] : List UInt32)).length 1 cs1 [] 76] := H
 refine p_as (v := v3) rfl ?_
 refine p_as (v := v4) rfl ?_
 refine xk hK4 ?_; clear hK4
 refine wp_seq_k ?_; intro K5 hK5
 obtain ⟨S3, hle3, g5, H1⟩ := H.fixX (k := 0) rfl g4; clear H; have H := H1; clear H1
 replace h1_ := RdS.mono h1_ hle3
 replace g1 := RdS.mono g1 hle3
 replace g2 := RdS.mono g2 hle3
 replace g3 := RL.mono g3 hle3
 replace H : HS ⟨S, [], w⟩ S3 w4 [.osl (v3) (([(1 : UInt32)] : List UInt32)).length 1 cs1 [] 76] := H
 obtain ⟨S4, hle4, g6, H1⟩ := H.fixX (k := 0) rfl g3; clear H; have H := H1; clear H1
 replace h1_ := RdS.mono h1_ hle4
 replace g1 := RdS.mono g1 hle4
 replace g2 := RdS.mono g2 hle4
 replace g5 := RdS.mono g5 hle4
 replace H : HS ⟨S, [], w⟩ S4 w4 [] := H
 refine nameF fun m1 k1 => ?_
 obtain ⟨t1, hE1, hF1⟩ := bnd hF
 have J4 : ∀ (v27 : Value) (v28 : Value) (v29 : Value) (S18 : Mem) (m14 : FM) (w26 : World), (∀ t, has [6, 7, 8, 9, 18, 19, 20, 21, 22, 23, 24, 25, 26, 27, 28, 29, 30, 31, 32, 33, 34, 35, 36, 37, 38, 39, 40, 41, 42, 43, 44, 45, 46, 47, 48, 49, 50, 51, 52, 53, 54, 55, 56, 57, 58, 59, 60, 61] t = false → look m14 t = look m1 t) → look m14 6 = v27 → look m14 8 = v28 → look m14 9 = v29 → Mem.le S4 S18 → HS ⟨S, [], w⟩ S18 w26 [] → RdS S18 v27 t1.1 → RdS S18 v28 t1.2.1 → RdS S18 v29 t1.2.2 → K5 (fr 68 m14) w26 := by
  clear H; intro v27 v28 v29 S18 m14 w26 k17 q32 q33 q34 hle18 H g29 g30 g31
  replace h1_ := RdS.mono h1_ hle18
  replace g1 := RdS.mono g1 hle18
  replace g2 := RdS.mono g2 hle18
  replace g5 := RdS.mono g5 hle18
  replace g6 := RdS.mono g6 hle18
  refine hK5 _ _ ?_
  refine wp_seq_k ?_; intro K20 hK20
  refine sr ?_; intro K21 hK21
  refine p_mv (v := v27) q32 ?_
  have g32 : RL S18 ([Value.int .u32 (1)] ++ ([] : List Value)) ([(1 : UInt32)] : List UInt32) := (RL.cons (rpU32c (x := (1 : UInt32)) rfl) RL.nil)
  refine p_of1 (a_bslice (N := 1) (vals := [(0, .int .u32 (1))]) (l := ([Value.int .u32 (1)] ++ ([] : List Value))) tn26 H rfl rfl rfl g32.len) ?_; clear H; intro w27 v30 H
  generalize ([Value.int .u32 (1)] ++ ([] : List Value)) = cs5 at H g32
  replace H : HS ⟨S, [], w⟩ S18 w27 [.osl (v30) (([(1 : UInt32)] : List UInt32)).length 1 cs5 [] 76] := H
  obtain ⟨y16, e16, hF1⟩ := bnd hF1
  refine p_call (l := [v27, v30]) is35 rfl ?_
  refine (seneschalref06_Cmp_c (subMem w27) (g29.mono H.sub) (RdS.ofOwn H (k := 0) rfl g32) e16).mono ?_; rintro _ w28 ⟨rfl, hx⟩; replace H := H.ext hx; clear hx
  refine p_val (r_eql (t := (y16 == 0)) rfl rfl rfl) ?_
  refine xk hK21 ?_; clear hK21
  refine c_split (t := (y16 == 0)) rfl (fun hc5 => ?_) (fun hc5 => ?_)
  ·replace hF1 := cnd_t hF1 hc5
   refine sr ?_; intro K22 hK22
   refine p_mv (v := v28) q33 ?_
   refine p_as (v := v28) rfl ?_
   refine xk hK22 ?_; clear hK22
   refine wp_ret ?_
   refine x_ret ?_
   obtain rfl := Option.some.inj hF1
   refine e_1 rfl (q_tmp (v := v28) rfl) ?_
   exact ⟨H.toExt, _, rfl, RdS.mono g30 H.gr⟩
  ·replace hF1 := cnd_f hF1 hc5
   refine wp_skip ?_
   refine xn hK20 ?_; clear hK20
   refine sr ?_; intro K23 hK23
   refine p_mv (v := v29) q34 ?_
   refine p_as (v := v29) rfl ?_
   refine xk hK23 ?_; clear hK23
   refine wp_ret ?_
   obtain rfl := Option.some.inj hF1
   refine e_1 rfl (q_tmp (v := v29) rfl) ?_
   exact ⟨H.toExt, _, rfl, RdS.mono g31 H.gr⟩
 refine wp_block ?_
 refine nameF fun m2 k2 => ?_
 obtain ⟨out1, hL1, hE2⟩ := bnd hE1
 replace H : HS ⟨S, [], w⟩ S4 w4 [] := H
 refine loopI [6, 7, 8, 9, 18, 19, 20, 21, 22, 23, 24, 25, 26, 27, 28, 29, 30, 31, 32, 33, 34, 35, 36, 37, 38, 39, 40, 41, 42, 43, 44, 45, 46, 47, 48, 49, 50, 51, 52, 53, 54, 55, 56, 57, 58, 59, 60, 61] (fun (s1 : (List UInt32) × (List UInt32) × (List UInt32) × (List UInt32)) (m3 : FM) (w5 : World) => ∃ (S5 : Mem) (v5 : Value) (v6 : Value) (v7 : Value) (v8 : Value), look m3 6 = v5 ∧ look m3 7 = v6 ∧ look m3 8 = v7 ∧ look m3 9 = v8 ∧ Mem.le S4 S5 ∧ HS ⟨S, [], w⟩ S5 w5 [] ∧ RdS S5 v5 s1.1 ∧ RdS S5 v6 s1.2.1 ∧ RdS S5 v7 s1.2.2.1 ∧ RdS S5 v8 s1.2.2.2) hL1 ⟨_, _, _, _, _, (show _ = (v2 : Value) from ((k2 6).trans (k1 6))), (show _ = (v1 : Value) from ((k2 7).trans (k1 7))), (show _ = (v3 : Value) from ((k2 8).trans (k1 8))), (show _ = (v4 : Value) from ((k2 9).trans (k1 9))), (Mem.le_refl _), H, g2, g1, g6, g5⟩ ?_
 clear H; intro k4 s1 m3 w5 k3 hI1 o2 hb1 hh1; obtain ⟨S5, v5, v6, v7, v8, q1, q2, q3, q4, hle5, H, g7, g8, g9, g10⟩ := hI1
 replace h1_ := RdS.mono h1_ hle5
 replace g1 := RdS.mono g1 hle5
 replace g2 := RdS.mono g2 hle5
 replace g5 := RdS.mono g5 hle5
 replace g6 := RdS.mono g6 hle5
 have q5 : look m3 5 = v1 := (k3 5 rfl).trans ((k2 5).trans (k1 5))
 unfold seneschalref06_Inverse_b0 at hb1
 refine wp_seq_k ?_; intro K6 hK6
 refine sr ?_; intro K7 hK7
 refine p_mv (v := v5) q1 ?_
 have g11 : RL S5 ([Value.int .u32 (1)] ++ ([] : List Value)) ([(1 : UInt32)] : List UInt32) := (RL.cons (rpU32c (x := (1 : UInt32)) rfl) RL.nil)
 refine p_of1 (a_bslice (N := 1) (vals := [(0, .int .u32 (1))]) (l := ([Value.int .u32 (1)] ++ ([] : List Value))) tn26 H rfl rfl rfl g11.len) ?_; clear H; intro w6 v9 H
 generalize ([Value.int .u32 (1)] ++ ([] : List Value)) = cs3 at H g11
 replace H : HS ⟨S, [], w⟩ S5 w6 [.osl (v9) (([(1 : UInt32)] : List UInt32)).length 1 cs3 [] 76] := H
 obtain ⟨y3, e3, hb1⟩ := bnd hb1
 refine p_call (l := [v5, v9]) is35 rfl ?_
 refine (seneschalref06_Cmp_c (subMem w6) (g7.mono H.sub) (RdS.ofOwn H (k := 0) rfl g11) e3).mono ?_; rintro _ w7 ⟨rfl, hx⟩; replace H := H.ext hx; clear hx
 refine p_val (r_neq (t := (y3 != 0)) rfl rfl rfl) ?_
 refine p_mv (v := .bool ((y3 != 0))) rfl ?_
 refine nameL fun m4 k5 => ?_
 refine gs_at 5 fun K8 hK8 R4 hR4 => ?_
 obtain ⟨t2, hE3, hF2⟩ := bnd hb1
 have J3 : ∀ (m5 : FM) (w10 : World), (∀ t, has [23, 24, 25, 26, 27] t = false → look m5 t = look m4 t) → look m5 27 = .bool (t2) → HS ⟨S, [], w⟩ S5 w10 [.osl (v9) (([(1 : UInt32)] : List UInt32)).length 1 cs3 [] 76] → K8 m5 w10 := by
  clear H; intro m5 w10 k6 q6 H
  have q7 : look m5 5 = v1 := (k6 5 rfl).trans ((k5 5).trans q5)
  have q8 : look m5 6 = v5 := (k6 6 rfl).trans ((k5 6).trans q1)
  have q9 : look m5 7 = v6 := (k6 7 rfl).trans ((k5 7).trans q2)
  have q10 : look m5 8 = v7 := (k6 8 rfl).trans ((k5 8).trans q3)
  have q11 : look m5 9 = v8 := (k6 9 rfl).trans ((k5 9).trans q4)
  refine hK8 _ _ ?_
  refine xk hK7 ?_; clear hK7
  refine c_split (t := t2) q6 (fun hc1 => ?_) (fun hc1 => ?_)
  ·replace hF2 := cnd_t hF2 hc1
   refine wp_skip ?_
   refine xn hK6 ?_; clear hK6
   refine wp_block ?_
   refine wp_seq_k ?_; intro K9 hK9
   refine nameF fun m6 k7 => ?_
   obtain ⟨t3, hE4, hF3⟩ := bnd hF2
   have J2 : ∀ (v15 : Value) (v16 : Value) (S9 : Mem) (m9 : FM) (w15 : World), (∀ t, has [6, 8, 28, 29, 30, 31, 32, 33, 34, 35] t = false → look m9 t = look m6 t) → look m9 6 = v15 → look m9 8 = v16 → Mem.le S5 S9 → HS ⟨S, [], w⟩ S9 w15 [.osl (v9) (([(1 : UInt32)] : List UInt32)).length 1 cs3 [] 76] → RdS S9 v15 t3.1 → RdS S9 v16 t3.2 → K9 (fr 68 m9) w15 := by
    clear H; intro v15 v16 S9 m9 w15 k11 q17 q18 hle9 H g17 g18
    replace h1_ := RdS.mono h1_ hle9
    replace g1 := RdS.mono g1 hle9
    replace g2 := RdS.mono g2 hle9
    replace g5 := RdS.mono g5 hle9
    replace g6 := RdS.mono g6 hle9
    replace g7 := RdS.mono g7 hle9
    replace g8 := RdS.mono g8 hle9
    replace g9 := RdS.mono g9 hle9
    replace g10 := RdS.mono g10 hle9
    replace g11 := RL.mono g11 hle9
    have q19 : look m9 5 = v1 := (k11 5 rfl).trans ((k7 5).trans q7)
    have q20 : look m9 7 = v6 := (k11 7 rfl).trans ((k7 7).trans q9)
    have q21 : look m9 9 = v8 := (k11 9 rfl).trans ((k7 9).trans q11)
    refine hK9 _ _ ?_
    refine wp_seq_k ?_; intro K13 hK13
    refine nameF fun m10 k12 => ?_
    obtain ⟨t4, hE6, hF4⟩ := bnd hF3
    have J1 : ∀ (v21 : Value) (v22 : Value) (S13 : Mem) (m13 : FM) (w20 : World), (∀ t, has [7, 9, 36, 37, 38, 39, 40, 41, 42, 43] t = false → look m13 t = look m10 t) → look m13 7 = v21 → look m13 9 = v22 → Mem.le S9 S13 → HS ⟨S, [], w⟩ S13 w20 [.osl (v9) (([(1 : UInt32)] : List UInt32)).length 1 cs3 [] 76] → RdS S13 v21 t4.1 → RdS S13 v22 t4.2 → K13 (fr 68 m13) w20 := by
     clear H; intro v21 v22 S13 m13 w20 k16 q27 q28 hle13 H g23 g24
     replace h1_ := RdS.mono h1_ hle13
     replace g1 := RdS.mono g1 hle13
     replace g2 := RdS.mono g2 hle13
     replace g5 := RdS.mono g5 hle13
     replace g6 := RdS.mono g6 hle13
     replace g7 := RdS.mono g7 hle13
     replace g8 := RdS.mono g8 hle13
     replace g9 := RdS.mono g9 hle13
     replace g10 := RdS.mono g10 hle13
     replace g11 := RL.mono g11 hle13
     replace g17 := RdS.mono g17 hle13
     replace g18 := RdS.mono g18 hle13
     have q29 : look m13 5 = v1 := (k16 5 rfl).trans ((k12 5).trans q19)
     have q30 : look m13 6 = v15 := (k16 6 rfl).trans ((k12 6).trans q17)
     have q31 : look m13 8 = v16 := (k16 8 rfl).trans ((k12 8).trans q18)
     refine hK13 _ _ ?_
     refine sr ?_; intro K17 hK17
     refine p_mv (v := v15) q30 ?_
     refine p_mv (v := v21) q27 ?_
     obtain ⟨y11, e11, hF4⟩ := bnd hF4
     refine p_call (l := [v15, v21]) is35 rfl ?_
     refine (seneschalref06_Cmp_c H.sub g17 g23 e11).mono ?_; rintro _ w21 ⟨rfl, hx⟩; replace H := H.ext hx; clear hx
     refine p_val (r_geq (t := decide ((0 : Int) ≤ y11)) rfl rfl rfl) ?_
     refine xk hK17 ?_; clear hK17
     refine c_split (t := decide ((0 : Int) ≤ y11)) rfl (fun hc4 => ?_) (fun hc4 => ?_)
     ·replace hF4 := cnd_t hF4 hc4
      refine sr ?_; intro K18 hK18
      refine p_mv (v := v15) q30 ?_
      refine p_mv (v := v21) q27 ?_
      obtain ⟨y12, e12, hF4⟩ := bnd hF4
      refine p_call (l := [v15, v21]) is59 rfl ?_
      refine (seneschalref06_Sub_c H.sub g17 g23 e12).mono ?_; rintro _ w22 ⟨hx, v23, rfl, g25⟩
      have hle14 := gr_le (w' := w22) H.sub; replace H := H.call hx; clear hx; generalize gr S13 w21 w22 = S14 at hle14 H g25
      replace g1 := RdS.mono g1 hle14
      replace g11 := RL.mono g11 hle14
      replace g17 := RdS.mono g17 hle14
      replace g18 := RdS.mono g18 hle14
      replace g23 := RdS.mono g23 hle14
      replace g24 := RdS.mono g24 hle14
      refine p_as (v := v23) rfl ?_
      refine xk hK18 ?_; clear hK18
      refine wp_region_lit ?_
      refine p_mv (v := v16) q31 ?_
      refine p_mv (v := v22) q28 ?_
      refine p_mv (v := v1) q29 ?_
      obtain ⟨y13, e13, hF4⟩ := bnd hF4
      refine p_call (l := [v16, v22, v1]) is68 rfl ?_
      refine (seneschalref06_less_c H.sub g18 g24 g1 e13).mono ?_; rintro _ w23 ⟨hx, v24, rfl, g26⟩
      have hle15 := gr_le (w' := w23) H.sub; replace H := H.call hx; clear hx; generalize gr S14 w22 w23 = S15 at hle15 H g26
      replace g1 := RdS.mono g1 hle15
      replace g11 := RL.mono g11 hle15
      replace g18 := RdS.mono g18 hle15
      replace g23 := RdS.mono g23 hle15
      replace g24 := RdS.mono g24 hle15
      replace g25 := RdS.mono g25 hle15
      refine p_as (v := v24) rfl ?_
      refine wpList_nil ?_
      refine b_norm ?_
      refine x_norm ?_
      replace H := H.sel [] rfl
      replace H : HS ⟨S, [], w⟩ S15 w23 [] := H
      obtain rfl := Option.some.inj hF4
      exact ⟨(y12, t4.1, y13, t4.2), _, rfl, (by (repeat (refine keep_cons rfl ?_)); refine keep_sub k16 rfl ?_; (repeat (refine keep_cons rfl ?_)); refine keep_name k12 ?_; (repeat (refine keep_cons rfl ?_)); refine keep_sub k11 rfl ?_; (repeat (refine keep_cons rfl ?_)); refine keep_name k7 ?_; (repeat (refine keep_cons rfl ?_)); refine keep_sub k6 rfl ?_; (repeat (refine keep_cons rfl ?_)); refine keep_name k5 ?_; (repeat (refine keep_cons rfl ?_)); refine keep_sub k3 rfl ?_; (repeat (refine keep_cons rfl ?_)); exact fun _ _ => rfl), ⟨_, _, _, _, _, rfl, (show _ = (v21 : Value) from q27), rfl, (show _ = (v22 : Value) from q28), (Mem.le_trans hle5 (Mem.le_trans hle9 (Mem.le_trans hle13 (Mem.le_trans hle14 hle15)))), H, g25, g23, g26, g24⟩, hh1⟩
     ·replace hF4 := cnd_f hF4 hc4
      refine sr ?_; intro K19 hK19
      refine p_mv (v := v21) q27 ?_
      refine p_mv (v := v15) q30 ?_
      obtain ⟨y14, e14, hF4⟩ := bnd hF4
      refine p_call (l := [v21, v15]) is59 rfl ?_
      refine (seneschalref06_Sub_c H.sub g23 g17 e14).mono ?_; rintro _ w24 ⟨hx, v25, rfl, g27⟩
      have hle16 := gr_le (w' := w24) H.sub; replace H := H.call hx; clear hx; generalize gr S13 w21 w24 = S16 at hle16 H g27
      replace g1 := RdS.mono g1 hle16
      replace g11 := RL.mono g11 hle16
      replace g17 := RdS.mono g17 hle16
      replace g18 := RdS.mono g18 hle16
      replace g23 := RdS.mono g23 hle16
      replace g24 := RdS.mono g24 hle16
      refine p_as (v := v25) rfl ?_
      refine xk hK19 ?_; clear hK19
      refine wp_region_lit ?_
      refine p_mv (v := v22) q28 ?_
      refine p_mv (v := v16) q31 ?_
      refine p_mv (v := v1) q29 ?_
      obtain ⟨y15, e15, hF4⟩ := bnd hF4
      refine p_call (l := [v22, v16, v1]) is68 rfl ?_
      refine (seneschalref06_less_c H.sub g24 g18 g1 e15).mono ?_; rintro _ w25 ⟨hx, v26, rfl, g28⟩
      have hle17 := gr_le (w' := w25) H.sub; replace H := H.call hx; clear hx; generalize gr S16 w24 w25 = S17 at hle17 H g28
      replace g1 := RdS.mono g1 hle17
      replace g11 := RL.mono g11 hle17
      replace g17 := RdS.mono g17 hle17
      replace g18 := RdS.mono g18 hle17
      replace g24 := RdS.mono g24 hle17
      replace g27 := RdS.mono g27 hle17
      refine p_as (v := v26) rfl ?_
      refine wpList_nil ?_
      refine b_norm ?_
      refine x_norm ?_
      replace H := H.sel [] rfl
      replace H : HS ⟨S, [], w⟩ S17 w25 [] := H
      obtain rfl := Option.some.inj hF4
      exact ⟨(t3.1, y14, t3.2, y15), _, rfl, (by (repeat (refine keep_cons rfl ?_)); refine keep_sub k16 rfl ?_; (repeat (refine keep_cons rfl ?_)); refine keep_name k12 ?_; (repeat (refine keep_cons rfl ?_)); refine keep_sub k11 rfl ?_; (repeat (refine keep_cons rfl ?_)); refine keep_name k7 ?_; (repeat (refine keep_cons rfl ?_)); refine keep_sub k6 rfl ?_; (repeat (refine keep_cons rfl ?_)); refine keep_name k5 ?_; (repeat (refine keep_cons rfl ?_)); refine keep_sub k3 rfl ?_; (repeat (refine keep_cons rfl ?_)); exact fun _ _ => rfl), ⟨_, _, _, _, _, (show _ = (v15 : Value) from q30), rfl, (show _ = (v16 : Value) from q31), rfl, (Mem.le_trans hle5 (Mem.le_trans hle9 (Mem.le_trans hle13 (Mem.le_trans hle16 hle17)))), H, g17, g27, g18, g28⟩, hh1⟩
    refine wp_block ?_
    refine nameF fun m11 k13 => ?_
    obtain ⟨out3, hL3, hE7⟩ := bnd hE6
    replace H : HS ⟨S, [], w⟩ S9 w15 [.osl (v9) (([(1 : UInt32)] : List UInt32)).length 1 cs3 [] 76] := H
    refine loopI [7, 9, 36, 37, 38, 39, 40, 41, 42, 43] (fun (s3 : (List UInt32) × (List UInt32)) (m12 : FM) (w16 : World) => ∃ (S10 : Mem) (v17 : Value) (v18 : Value), look m12 7 = v17 ∧ look m12 9 = v18 ∧ Mem.le S9 S10 ∧ HS ⟨S, [], w⟩ S10 w16 [.osl (v9) (([(1 : UInt32)] : List UInt32)).length 1 cs3 [] 76] ∧ RdS S10 v17 s3.1 ∧ RdS S10 v18 s3.2) hL3 ⟨_, _, _, (show _ = (v6 : Value) from ((k13 7).trans ((k12 7).trans q20))), (show _ = (v8 : Value) from ((k13 9).trans ((k12 9).trans q21))), (Mem.le_refl _), H, g8, g10⟩ ?_
    clear H; intro k15 s3 m12 w16 k14 hI3 o7 hb4 hh3; obtain ⟨S10, v17, v18, q22, q23, hle10, H, g19, g20⟩ := hI3
    replace h1_ := RdS.mono h1_ hle10
    replace g1 := RdS.mono g1 hle10
    replace g2 := RdS.mono g2 hle10
    replace g5 := RdS.mono g5 hle10
    replace g6 := RdS.mono g6 hle10
    replace g7 := RdS.mono g7 hle10
    replace g8 := RdS.mono g8 hle10
    replace g9 := RdS.mono g9 hle10
    replace g10 := RdS.mono g10 hle10
    replace g11 := RL.mono g11 hle10
    replace g17 := RdS.mono g17 hle10
    replace g18 := RdS.mono g18 hle10
    have q24 : look m12 5 = v1 := (k14 5 rfl).trans ((k13 5).trans ((k12 5).trans q19))
    have q25 : look m12 6 = v15 := (k14 6 rfl).trans ((k13 6).trans ((k12 6).trans q17))
    have q26 : look m12 8 = v16 := (k14 8 rfl).trans ((k13 8).trans ((k12 8).trans q18))
    unfold seneschalref06_Inverse_b2 at hb4
    refine wp_seq_k ?_; intro K14 hK14
    refine sr ?_; intro K15 hK15
    refine p_mv (v := v17) q22 ?_
    obtain ⟨y8, e8, hb4⟩ := bnd hb4
    refine p_call (l := [v17]) is65 rfl ?_
    refine (seneschalref06_odd_c H.sub g19 e8).mono ?_; rintro _ w17 ⟨rfl, hx⟩; replace H := H.ext hx; clear hx
    refine p_val (r_not (t := (!y8)) rfl rfl) ?_
    refine xk hK15 ?_; clear hK15
    refine c_split (t := (!y8)) rfl (fun hc3 => ?_) (fun hc3 => ?_)
    ·replace hb4 := cnd_t hb4 hc3
     refine wp_skip ?_
     refine xn hK14 ?_; clear hK14
     refine wp_block ?_
     refine sr ?_; intro K16 hK16
     refine p_mv (v := v17) q22 ?_
     obtain ⟨y9, e9, hb4⟩ := bnd hb4
     refine p_call (l := [v17]) is66 rfl ?_
     refine (seneschalref06_half_c H.sub g19 e9).mono ?_; rintro _ w18 ⟨hx, v19, rfl, g21⟩
     have hle11 := gr_le (w' := w18) H.sub; replace H := H.call hx; clear hx; generalize gr S10 w17 w18 = S11 at hle11 H g21
     replace g1 := RdS.mono g1 hle11
     replace g11 := RL.mono g11 hle11
     replace g17 := RdS.mono g17 hle11
     replace g18 := RdS.mono g18 hle11
     replace g19 := RdS.mono g19 hle11
     replace g20 := RdS.mono g20 hle11
     refine p_as (v := v19) rfl ?_
     refine xk hK16 ?_; clear hK16
     refine wp_region_lit ?_
     refine p_mv (v := v18) q23 ?_
     refine p_mv (v := v1) q24 ?_
     obtain ⟨y10, e10, hb4⟩ := bnd hb4
     refine p_call (l := [v18, v1]) is67 rfl ?_
     refine (seneschalref06_halved_c H.sub g20 g1 e10).mono ?_; rintro _ w19 ⟨hx, v20, rfl, g22⟩
     have hle12 := gr_le (w' := w19) H.sub; replace H := H.call hx; clear hx; generalize gr S11 w18 w19 = S12 at hle12 H g22
     replace g1 := RdS.mono g1 hle12
     replace g11 := RL.mono g11 hle12
     replace g17 := RdS.mono g17 hle12
     replace g18 := RdS.mono g18 hle12
     replace g20 := RdS.mono g20 hle12
     replace g21 := RdS.mono g21 hle12
     refine p_as (v := v20) rfl ?_
     refine wpList_nil ?_
     refine b_norm ?_
     refine x_norm ?_
     replace H : HS ⟨S, [], w⟩ S12 w19 [.osl (v9) (([(1 : UInt32)] : List UInt32)).length 1 cs3 [] 76] := H
     obtain rfl := Option.some.inj hb4
     exact ⟨(y9, y10), _, rfl, (by (repeat (refine keep_cons rfl ?_)); refine keep_sub k14 rfl ?_; (repeat (refine keep_cons rfl ?_)); exact fun _ _ => rfl), ⟨_, _, _, rfl, rfl, (Mem.le_trans hle10 (Mem.le_trans hle11 hle12)), H, g21, g22⟩, hh3⟩
    ·replace hb4 := cnd_f hb4 hc3
     refine wp_exit ?_
     refine x_exit ?_
     refine x_exit ?_
     refine b_hit ?_
     refine x_norm ?_
     replace H : HS ⟨S, [], w⟩ S10 w17 [.osl (v9) (([(1 : UInt32)] : List UInt32)).length 1 cs3 [] 76] := H
     obtain rfl := Option.some.inj hb4
     obtain rfl := Option.some.inj hh3
     obtain rfl := Option.some.inj hE7
     exact J1 _ _ _ _ _ (by (repeat (refine keep_cons rfl ?_)); refine keep_sub k14 rfl ?_; (repeat (refine keep_cons rfl ?_)); refine keep_name k13 ?_; (repeat (refine keep_cons rfl ?_)); exact fun _ _ => rfl) (show _ = (v17 : Value) from q22) (show _ = (v18 : Value) from q23) hle10 H g19 g20
   refine wp_block ?_
   refine nameF fun m7 k8 => ?_
   obtain ⟨out2, hL2, hE5⟩ := bnd hE4
   replace H : HS ⟨S, [], w⟩ S5 w10 [.osl (v9) (([(1 : UInt32)] : List UInt32)).length 1 cs3 [] 76] := H
   refine loopI [6, 8, 28, 29, 30, 31, 32, 33, 34, 35] (fun (s2 : (List UInt32) × (List UInt32)) (m8 : FM) (w11 : World) => ∃ (S6 : Mem) (v11 : Value) (v12 : Value), look m8 6 = v11 ∧ look m8 8 = v12 ∧ Mem.le S5 S6 ∧ HS ⟨S, [], w⟩ S6 w11 [.osl (v9) (([(1 : UInt32)] : List UInt32)).length 1 cs3 [] 76] ∧ RdS S6 v11 s2.1 ∧ RdS S6 v12 s2.2) hL2 ⟨_, _, _, (show _ = (v5 : Value) from ((k8 6).trans ((k7 6).trans q8))), (show _ = (v7 : Value) from ((k8 8).trans ((k7 8).trans q10))), (Mem.le_refl _), H, g7, g9⟩ ?_
   clear H; intro k10 s2 m8 w11 k9 hI2 o5 hb3 hh2; obtain ⟨S6, v11, v12, q12, q13, hle6, H, g13, g14⟩ := hI2
   replace h1_ := RdS.mono h1_ hle6
   replace g1 := RdS.mono g1 hle6
   replace g2 := RdS.mono g2 hle6
   replace g5 := RdS.mono g5 hle6
   replace g6 := RdS.mono g6 hle6
   replace g7 := RdS.mono g7 hle6
   replace g8 := RdS.mono g8 hle6
   replace g9 := RdS.mono g9 hle6
   replace g10 := RdS.mono g10 hle6
   replace g11 := RL.mono g11 hle6
   have q14 : look m8 5 = v1 := (k9 5 rfl).trans ((k8 5).trans ((k7 5).trans q7))
   have q15 : look m8 7 = v6 := (k9 7 rfl).trans ((k8 7).trans ((k7 7).trans q9))
   have q16 : look m8 9 = v8 := (k9 9 rfl).trans ((k8 9).trans ((k7 9).trans q11))
   unfold seneschalref06_Inverse_b1 at hb3
   refine wp_seq_k ?_; intro K10 hK10
   refine sr ?_; intro K11 hK11
   refine p_mv (v := v11) q12 ?_
   obtain ⟨y5, e5, hb3⟩ := bnd hb3
   refine p_call (l := [v11]) is65 rfl ?_
   refine (seneschalref06_odd_c H.sub g13 e5).mono ?_; rintro _ w12 ⟨rfl, hx⟩; replace H := H.ext hx; clear hx
   refine p_val (r_not (t := (!y5)) rfl rfl) ?_
   refine xk hK11 ?_; clear hK11
   refine c_split (t := (!y5)) rfl (fun hc2 => ?_) (fun hc2 => ?_)
   ·replace hb3 := cnd_t hb3 hc2
    refine wp_skip ?_
    refine xn hK10 ?_; clear hK10
    refine wp_block ?_
    refine sr ?_; intro K12 hK12
    refine p_mv (v := v11) q12 ?_
    obtain ⟨y6, e6, hb3⟩ := bnd hb3
    refine p_call (l := [v11]) is66 rfl ?_
    refine (seneschalref06_half_c H.sub g13 e6).mono ?_; rintro _ w13 ⟨hx, v13, rfl, g15⟩
    have hle7 := gr_le (w' := w13) H.sub; replace H := H.call hx; clear hx; generalize gr S6 w12 w13 = S7 at hle7 H g15
    replace g1 := RdS.mono g1 hle7
    replace g8 := RdS.mono g8 hle7
    replace g10 := RdS.mono g10 hle7
    replace g11 := RL.mono g11 hle7
    replace g13 := RdS.mono g13 hle7
    replace g14 := RdS.mono g14 hle7
    refine p_as (v := v13) rfl ?_
    refine xk hK12 ?_; clear hK12
    refine wp_region_lit ?_
    refine p_mv (v := v12) q13 ?_
    refine p_mv (v := v1) q14 ?_
    obtain ⟨y7, e7, hb3⟩ := bnd hb3
    refine p_call (l := [v12, v1]) is67 rfl ?_
    refine (seneschalref06_halved_c H.sub g14 g1 e7).mono ?_; rintro _ w14 ⟨hx, v14, rfl, g16⟩
    have hle8 := gr_le (w' := w14) H.sub; replace H := H.call hx; clear hx; generalize gr S7 w13 w14 = S8 at hle8 H g16
    replace g1 := RdS.mono g1 hle8
    replace g8 := RdS.mono g8 hle8
    replace g10 := RdS.mono g10 hle8
    replace g11 := RL.mono g11 hle8
    replace g14 := RdS.mono g14 hle8
    replace g15 := RdS.mono g15 hle8
    refine p_as (v := v14) rfl ?_
    refine wpList_nil ?_
    refine b_norm ?_
    refine x_norm ?_
    replace H : HS ⟨S, [], w⟩ S8 w14 [.osl (v9) (([(1 : UInt32)] : List UInt32)).length 1 cs3 [] 76] := H
    obtain rfl := Option.some.inj hb3
    exact ⟨(y6, y7), _, rfl, (by (repeat (refine keep_cons rfl ?_)); refine keep_sub k9 rfl ?_; (repeat (refine keep_cons rfl ?_)); exact fun _ _ => rfl), ⟨_, _, _, rfl, rfl, (Mem.le_trans hle6 (Mem.le_trans hle7 hle8)), H, g15, g16⟩, hh2⟩
   ·replace hb3 := cnd_f hb3 hc2
    refine wp_exit ?_
    refine x_exit ?_
    refine x_exit ?_
    refine b_hit ?_
    refine x_norm ?_
    replace H : HS ⟨S, [], w⟩ S6 w12 [.osl (v9) (([(1 : UInt32)] : List UInt32)).length 1 cs3 [] 76] := H
    obtain rfl := Option.some.inj hb3
    obtain rfl := Option.some.inj hh2
    obtain rfl := Option.some.inj hE5
    exact J2 _ _ _ _ _ (by (repeat (refine keep_cons rfl ?_)); refine keep_sub k9 rfl ?_; (repeat (refine keep_cons rfl ?_)); refine keep_name k8 ?_; (repeat (refine keep_cons rfl ?_)); exact fun _ _ => rfl) (show _ = (v11 : Value) from q12) (show _ = (v12 : Value) from q13) hle6 H g13 g14
  ·replace hF2 := cnd_f hF2 hc1
   refine wp_exit ?_
   refine x_exit ?_
   refine x_exit ?_
   refine b_hit ?_
   refine x_norm ?_
   replace H := H.sel [] rfl
   replace H : HS ⟨S, [], w⟩ S5 w10 [] := H
   obtain rfl := Option.some.inj hF2
   obtain rfl := Option.some.inj hh1
   obtain rfl := Option.some.inj hE2
   exact J4 _ _ _ _ _ _ (by (repeat (refine keep_cons rfl ?_)); refine keep_sub k6 rfl ?_; (repeat (refine keep_cons rfl ?_)); refine keep_name k5 ?_; (repeat (refine keep_cons rfl ?_)); refine keep_sub k3 rfl ?_; (repeat (refine keep_cons rfl ?_)); refine keep_name k2 ?_; (repeat (refine keep_cons rfl ?_)); exact fun _ _ => rfl) (show _ = (v5 : Value) from q8) (show _ = (v7 : Value) from q10) (show _ = (v8 : Value) from q11) hle5 H g7 g9 g10
 refine p_gs (j := 4) (gvl_at rfl rfl (k5 22)) (fun hb2 => ?_) (fun hb2 => ?_)
 ·replace hE3 := cnd_t hE3 hb2
  refine p_want (gvl_at rfl rfl (k5 22)) hb2 ?_
  refine p_mv (v := v6) ((k5 7).trans q2) ?_
  refine p_want (gvl_at rfl rfl (k5 22)) hb2 ?_
  have g12 : RL S5 ([Value.int .u32 (1)] ++ ([] : List Value)) ([(1 : UInt32)] : List UInt32) := (RL.cons (rpU32c (x := (1 : UInt32)) rfl) RL.nil)
  refine p_of1 (a_bslice (N := 1) (vals := [(0, .int .u32 (1))]) (l := ([Value.int .u32 (1)] ++ ([] : List Value))) tn26 H rfl rfl rfl g12.len) ?_; clear H; intro w8 v10 H
  generalize ([Value.int .u32 (1)] ++ ([] : List Value)) = cs4 at H g12
  replace H : HS ⟨S, [], w⟩ S5 w8 [.osl (v10) (([(1 : UInt32)] : List UInt32)).length 1 cs4 [] 76, .osl (v9) (([(1 : UInt32)] : List UInt32)).length 1 cs3 [] 76] := H
  refine p_want (gvl_at rfl rfl (k5 22)) hb2 ?_
  obtain ⟨y4, e4, hE3⟩ := bnd hE3
  refine p_call (l := [v6, v10]) is35 rfl ?_
  refine (seneschalref06_Cmp_c (subMem w8) (g8.mono H.sub) (RdS.ofOwn H (k := 0) rfl g12) e4).mono ?_; rintro _ w9 ⟨rfl, hx⟩; replace H := H.ext hx; clear hx
  refine p_want (gvl_at rfl rfl (k5 22)) hb2 ?_
  refine p_val (r_neq (t := (y4 != 0)) rfl rfl rfl) ?_
  refine p_val (r_pickt (v := .bool ((y4 != 0))) (k5 22) hb2 rfl) ?_
  refine hR4 _ _ ?_
  replace H := H.sel [1] rfl
  replace H : HS ⟨S, [], w⟩ S5 w9 [.osl (v9) (([(1 : UInt32)] : List UInt32)).length 1 cs3 [] 76] := H
  obtain rfl := Option.some.inj hE3
  exact J3 _ _ (by (repeat (refine keep_cons rfl ?_)); exact fun _ _ => rfl) rfl H
 ·replace hE3 := cnd_f hE3 hb2
  refine p_skip (gvl_at rfl rfl (k5 22)) hb2 ?_
  rw [put_fr]
  refine p_skip (gvl_at rfl rfl (k5 22)) hb2 ?_
  rw [put_fr]
  refine p_skip (gvl_at rfl rfl (k5 22)) hb2 ?_
  rw [put_fr]
  refine p_skip (gvl_at rfl rfl (k5 22)) hb2 ?_
  rw [put_fr]
  refine p_val (r_pickf (v := .bool (false)) (k5 22) hb2 rfl) ?_
  refine hR4 _ _ ?_
  replace H : HS ⟨S, [], w⟩ S5 w7 [.osl (v9) (([(1 : UInt32)] : List UInt32)).length 1 cs3 [] 76] := H
  obtain rfl := Option.some.inj hE3
  exact J3 _ _ (by (repeat (refine keep_cons rfl ?_)); exact fun _ _ => rfl) rfl H
end Go.Proofs.Ytjmgilhlpohcmaa
