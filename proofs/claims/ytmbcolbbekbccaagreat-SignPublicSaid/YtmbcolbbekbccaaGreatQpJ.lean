/- What some functions compute, and that they do. Conditions: as each theorem says. -/
import Derived.Test.YtmbcolbbekbccaaGreatRows
import Derived.Test.YtmbcolbbekbccaaGreatQpI
namespace Go.Proofs.YtmbcolbbekbccaaGreat
open Go Go.RowKit
attribute [local irreducible] wpList wpT Code.wp Calls Code.rounds
theorem u63 : Tryz.prog.underlying 63 = some (.slice 107) := by kernel_rfl
theorem is84 : IsFn Tryz.prog 84 := isFn Tryz.func84 (by kernel_rfl) (by kernel_rfl)
theorem tn63 : TSn Tryz.prog 63 107 (.int .u32 0) [.int .u32 0] 4 1 := TSn.mk' (by kernel_rfl) (by kernel_rfl) rfl rfl rfl rfl
theorem tsz22 : TSz Tryz.prog 22 1 := fun _ => by kernel_rfl
def seneschalref06_trim_b0 (x0 : List UInt32) (s1 : Int) : Option ((Int) ⊕ (Int)) :=
  Option.bind (bif decide ((0 : Int) < s1) then (Option.bind (idx x0 (w64 (s1 - 1))) fun y1 => some ((((y1).toNat : Int) == 0))) else (some (false))) (fun t2 => bif t2 then (some (.inl ((w64 (s1 - 1))))) else (some (.inr (s1))))
def seneschalref06_trim_p (x0 : List UInt32) : Option ((List UInt32)) :=
  Option.bind (Option.bind (iter (seneschalref06_trim_b0 x0) (((x0).length : Int))) (fun e => some (e))) (fun t1 => Option.bind (subH x0 t1) fun y2 => some (y2))
theorem seneschalref06_trim_c {S : Mem} {w : World} (hS : Sub S w) {v0_ : Value} {x0 : List UInt32} (h0_ : RdS S v0_ x0) {r : (List UInt32)} (hF : seneschalref06_trim_p x0 = some r) :
    Calls Tryz.prog 84 #[v0_] w fun e w' => Ext w w' ∧ ∃ (v0' : Value), e = .returned (v0') ∧ RdS (gr S w w') v0' r := by
 refine enter (n := 21) Tryz.func84 rfl rfl rfl ?_
 have H := HS.start hS
 unfold seneschalref06_trim_p at hF
 refine sr ?_; intro K1 hK1
 refine p_as (v := .slice none 0 0) rfl ?_
 refine xk hK1 ?_; clear hK1
 refine sr ?_; intro K2 hK2
 refine p_mv (v := v0_) rfl ?_
 refine p_val (r_lenR' u63 rfl h0_ H.sub) ?_
 refine p_as (v := .int .i64 (((x0).length : Int))) rfl ?_
 refine xk hK2 ?_; clear hK2
 refine wp_seq_k ?_; intro K3 hK3
 refine nameF fun m1 k1 => ?_
 obtain ⟨t1, hE1, hF1⟩ := bnd hF
 have J2 : ∀ (m6 : FM) (w3 : World), (∀ t, has [3, 6, 7, 8, 9, 10, 11, 12, 13, 14, 15, 16, 17] t = false → look m6 t = look m1 t) → look m6 3 = .int .i64 (t1) → HS ⟨S, [], w⟩ S w3 [] → K3 (fr 21 m6) w3 := by
  clear H; intro m6 w3 k7 q6 H
  have q7 : look m6 0 = v0_ := (k7 0 rfl).trans (k1 0)
  refine hK3 _ _ ?_
  refine sr ?_; intro K7 hK7
  refine p_mv (v := v0_) q7 ?_
  refine p_mv q6 ?_
  obtain ⟨y2, e2, hF1⟩ := bnd hF1
  refine p_val (r_subH (h := (t1 : Int).toNat) u63 tsz107 rfl rfl (subH_some e2).1 h0_ (subH_some e2).2.1) ?_
  have g1 : RdS S (subN v0_ 1 0 (t1 : Int).toNat) y2 := RdS.subH h0_ e2
  refine p_as (v := (subN v0_ 1 0 (t1 : Int).toNat)) rfl ?_
  refine xk hK7 ?_; clear hK7
  refine wp_ret ?_
  obtain rfl := osi hF1
  refine e_1 rfl (q_tmp (v := (subN v0_ 1 0 (t1 : Int).toNat)) rfl) ?_
  exact ⟨H.toExt, _, rfl, RdS.mono g1 H.gr⟩
 refine wp_block ?_
 refine nameF fun m2 k2 => ?_
 obtain ⟨out1, hL1, hE2⟩ := bnd hE1
 replace H : HS ⟨S, [], w⟩ S w [] := H
 refine loopI [3, 6, 7, 8, 9, 10, 11, 12, 13, 14, 15, 16, 17] (fun (s1 : Int) (m3 : FM) (w1 : World) => look m3 3 = .int .i64 (s1) ∧ HS ⟨S, [], w⟩ S w1 []) hL1 ⟨((k2 3).trans (k1 3)), H⟩ ?_
 clear H; intro k4 s1 m3 w1 k3 hI1 o2 hb1 hh1; obtain ⟨q1, H⟩ := hI1
 have q2 : look m3 0 = v0_ := (k3 0 rfl).trans ((k2 0).trans (k1 0))
 unfold seneschalref06_trim_b0 at hb1
 refine wp_seq_k ?_; intro K4 hK4
 refine sr ?_; intro K5 hK5
 refine p_mv q1 ?_
 refine p_val (r_gtrI rfl rfl) ?_
 refine p_mv (v := .bool (decide ((0 : Int) < s1))) rfl ?_
 refine nameL fun m4 k5 => ?_
 refine gs_at 7 fun K6 hK6 R1 hR1 => ?_
 obtain ⟨t2, hE3, hF2⟩ := bnd hb1
 have J1 : ∀ (m5 : FM) (w2 : World), (∀ t, has [9, 10, 11, 12, 13, 14, 15] t = false → look m5 t = look m4 t) → look m5 15 = .bool (t2) → HS ⟨S, [], w⟩ S w2 [] → K6 m5 w2 := by
  clear H; intro m5 w2 k6 q3 H
  have q4 : look m5 0 = v0_ := (k6 0 rfl).trans ((k5 0).trans q2)
  have q5 : look m5 3 = .int .i64 (s1) := (k6 3 rfl).trans ((k5 3).trans q1)
  refine hK6 _ _ ?_
  refine xk hK5 ?_; clear hK5
  refine c_split (t := t2) q3 (fun hc2 => ?_) (fun hc2 => ?_)
  ·replace hF2 := cnd_t hF2 hc2
   refine wp_skip ?_
   refine xn hK4 ?_; clear hK4
   refine wp_block ?_
   refine wp_region_lit ?_
   refine p_mv q5 ?_
   refine p_val (r_subI rfl rfl) ?_
   refine p_as (v := .int .i64 ((w64 (s1 - 1)))) rfl ?_
   refine wpList_nil ?_
   refine b_norm ?_
   refine x_norm ?_
   replace H : HS ⟨S, [], w⟩ S w2 [] := H
   obtain rfl := osi hF2
   exact ⟨(w64 (s1 - 1)), _, rfl, (by (repeat (refine keep_cons rfl ?_)); refine keep_sub k6 rfl ?_; (repeat (refine keep_cons rfl ?_)); refine keep_name k5 ?_; (repeat (refine keep_cons rfl ?_)); refine keep_sub k3 rfl ?_; exact kcx), ⟨rfl, H⟩, hh1⟩
  ·replace hF2 := cnd_f hF2 hc2
   refine wp_exit ?_
   refine x_exit ?_
   refine x_exit ?_
   refine b_hit ?_
   refine x_norm ?_
   replace H : HS ⟨S, [], w⟩ S w2 [] := H
   obtain rfl := osi hF2
   obtain rfl := osi hh1
   obtain rfl := osi hE2
   exact J2 _ _ (by (repeat (refine keep_cons rfl ?_)); refine keep_sub k6 rfl ?_; (repeat (refine keep_cons rfl ?_)); refine keep_name k5 ?_; (repeat (refine keep_cons rfl ?_)); refine keep_sub k3 rfl ?_; (repeat (refine keep_cons rfl ?_)); refine keep_name k2 ?_; exact kcx) q5 H
 refine p_gs (j := 2) (gvl_at rfl rfl (k5 8)) (fun hb2 => ?_) (fun hb2 => ?_)
 ·replace hE3 := cnd_t hE3 hb2
  refine p_want (gvl_at rfl rfl (k5 8)) hb2 ?_
  refine p_mv (v := v0_) ((k5 0).trans q2) ?_
  refine p_want (gvl_at rfl rfl (k5 8)) hb2 ?_
  refine p_mv ((k5 3).trans q1) ?_
  refine p_want (gvl_at rfl rfl (k5 8)) hb2 ?_
  refine p_val (r_subI rfl rfl) ?_
  refine p_want (gvl_at rfl rfl (k5 8)) hb2 ?_
  obtain ⟨y1, e1, hE3⟩ := bnd hE3
  obtain ⟨b1, o4, N1, c1, cs1, hv1, hi1, hc1, hr1⟩ := h0_.get (idx_some e1).2
  refine p_val (r_addrV (i := ((w64 (s1 - 1)) : Int).toNat) u63 tsz107 rfl hv1 rfl (idx_some e1).1 hi1) ?_
  obtain rfl := elU32 hr1
  refine p_want (gvl_at rfl rfl (k5 8)) hb2 ?_
  refine p_val (s_load1 (p := (o4 + ((w64 (s1 - 1)) : Int).toNat * 1)) (o := 0) (v := .int .u32 (((y1).toNat : Int))) to107 H.sub rfl hc1 rfl) ?_
  refine p_want (gvl_at rfl rfl (k5 8)) hb2 ?_
  refine p_val (r_eqlI rfl rfl) ?_
  refine p_val (r_pickt (v := .bool ((((y1).toNat : Int) == 0))) (k5 8) hb2 rfl) ?_
  refine hR1 _ _ ?_
  replace H : HS ⟨S, [], w⟩ S w1 [] := H
  obtain rfl := osi hE3
  exact J1 _ _ kcx rfl H
 ·replace hE3 := cnd_f hE3 hb2
  refine p_skip (gvl_at rfl rfl (k5 8)) hb2 ?_
  rw [put_fr]
  refine p_skip (gvl_at rfl rfl (k5 8)) hb2 ?_
  rw [put_fr]
  refine p_skip (gvl_at rfl rfl (k5 8)) hb2 ?_
  rw [put_fr]
  refine p_skip (gvl_at rfl rfl (k5 8)) hb2 ?_
  rw [put_fr]
  refine p_skip (gvl_at rfl rfl (k5 8)) hb2 ?_
  rw [put_fr]
  refine p_skip (gvl_at rfl rfl (k5 8)) hb2 ?_
  rw [put_fr]
  refine p_val (r_pickf (v := .bool (false)) (k5 8) hb2 rfl) ?_
  refine hR1 _ _ ?_
  replace H : HS ⟨S, [], w⟩ S w1 [] := H
  obtain rfl := osi hE3
  exact J1 _ _ kcx rfl H
def seneschalref06_In_b1 (x0 : Qw) (s1 : Int × (List UInt32)) (s2 : Int × (List UInt32)) : Option ((Int × (List UInt32)) ⊕ ((List UInt32))) :=
  bif decide (s2.1 < 4) then (Option.bind (idx ([x0.1, x0.2.1, x0.2.2.1, x0.2.2.2] : List UInt64) s1.1) fun y1 => Option.bind (chk (decide (0 ≤ (w64 ((16 : Int) * s2.1))))) fun y2 => Option.bind (app s2.2 ([(i32 ((((i64 (shrI .u64 ((y1).toNat : Int) (w64 ((16 : Int) * s2.1)))) &&& (65535 : UInt64))).toNat : Int))] : List UInt32)) fun y3 => some (.inl (((w64 (s2.1 + 1)), y3)))) else (some (.inr (s2.2)))
def seneschalref06_In_b0 (x0 : Qw) (s1 : Int × (List UInt32)) : Option ((Int × (List UInt32)) ⊕ ((List UInt32))) :=
  bif decide (s1.1 < 4) then (Option.bind (Option.bind (iter (seneschalref06_In_b1 x0 s1) ((0, s1.2))) (fun e => some (e))) (fun t2 => some (.inl (((w64 (s1.1 + 1)), t2))))) else (some (.inr (s1.2)))
def seneschalref06_In_p (x0 : Qw) : Option ((List UInt32)) :=
  Option.bind (Option.bind (iter (seneschalref06_In_b0 x0) ((0, ([] : List UInt32)))) (fun e => some (e))) (fun t1 => Option.bind (seneschalref06_trim_p t1) fun y4 => some (y4))
theorem seneschalref06_In_c {S : Mem} {w : World} (hS : Sub S w) {x0 : Qw} {r : (List UInt32)} (hF : seneschalref06_In_p x0 = some r) :
    Calls Tryz.prog 38 #[.agg ((cl24 x0)).toArray] w fun e w' => Ext w w' ∧ ∃ (v0' : Value), e = .returned (v0') ∧ RdS (gr S w w') v0' r := by
 refine enter (n := 28) Tryz.func38 rfl rfl rfl ?_
 have H := HS.start hS
 unfold seneschalref06_In_p at hF
 refine sr ?_; intro K1 hK1
 refine p_ofb (a_box (l := (cl24 x0)) H rfl) ?_; clear H; intro w1 b1 H
 refine p_as (v := .slice none 0 0) rfl ?_
 refine xk hK1 ?_; clear hK1
 refine sr ?_; intro K2 hK2
 have g1 : RL S ([] : List Value) ([] : List UInt32) := RL.nil
 refine p_of1 (a_bslice (N := 0) (vals := []) (l := ([] : List Value)) tn63 H rfl rfl rfl g1.len) ?_; clear H; intro w2 v1 H
 replace H : HS ⟨S, [], w⟩ S w2 [.osl (v1) (([] : List UInt32)).length 1 ([] : List Value) [] 107, .blk b1 ((cl24 x0)) 24] := H
 refine p_as (v := v1) rfl ?_
 refine xk hK2 ?_; clear hK2
 refine wp_seq_k ?_; intro K3 hK3
 refine nameF fun m1 k1 => ?_
 obtain ⟨t1, hE1, hF1⟩ := bnd hF
 have J2 : ∀ (v7 : Value) (cs7 rs5 : List Value) (m8 : FM) (w8 : World), (∀ t, has [3, 4, 5, 7, 8, 9, 10, 11, 12, 13, 14, 15, 16, 17, 18, 19, 20, 21, 22, 23, 24, 25] t = false → look m8 t = look m1 t) → look m8 3 = v7 → HS ⟨S, [], w⟩ S w8 [.osl (v7) (t1).length 1 cs7 rs5 107, .blk b1 ((cl24 x0)) 24] → RL S cs7 t1 → K3 (fr 28 m8) w8 := by
  clear H; intro v7 cs7 rs5 m8 w8 k10 q11 H g7
  refine hK3 _ _ ?_
  refine sr ?_; intro K12 hK12
  refine p_mv (v := v7) q11 ?_
  obtain ⟨S1, hle1, g8, H1⟩ := H.fixX (k := 0) rfl g7; clear H; have H := H1; clear H1
  replace H : HS ⟨S, [], w⟩ S1 w8 [.blk b1 ((cl24 x0)) 24] := H
  obtain ⟨y4, e4, hF1⟩ := bnd hF1
  refine p_call (l := [v7]) is84 rfl ?_
  refine (seneschalref06_trim_c H.sub g8 e4).mono ?_; rintro _ w9 ⟨hx, v8, rfl, g9⟩
  have hle2 := gr_le (w' := w9) H.sub; replace H := H.call hx; clear hx; generalize gr S1 w8 w9 = S2 at hle2 H g9
  replace g8 := RdS.mono g8 hle2
  refine p_as (v := v8) rfl ?_
  refine xk hK12 ?_; clear hK12
  refine wp_ret ?_
  obtain rfl := osi hF1
  refine e_1 rfl (q_tmp (v := v8) rfl) ?_
  exact ⟨H.toExt, _, rfl, RdS.mono g9 H.gr⟩
 refine sr ?_; intro K4 hK4
 refine p_as (v := .int .i64 (0)) rfl ?_
 refine xk hK4 ?_; clear hK4
 refine wp_block ?_
 refine nameF fun m2 k2 => ?_
 obtain ⟨out1, hL1, hE2⟩ := bnd hE1
 replace H : HS ⟨S, [], w⟩ S w2 [.osl (v1) (([] : List UInt32)).length 1 ([] : List Value) [] 107, .blk b1 ((cl24 x0)) 24] := H
 refine loopI [3, 4, 5, 7, 8, 9, 10, 11, 12, 13, 14, 15, 16, 17, 18, 19, 20, 21, 22, 23, 24, 25] (fun (s1 : Int × (List UInt32)) (m3 : FM) (w3 : World) => ∃ (v2 : Value) (cs2 rs1 : List Value), look m3 3 = v2 ∧ look m3 4 = .int .i64 (s1.1) ∧ HS ⟨S, [], w⟩ S w3 [.osl (v2) (s1.2).length 1 cs2 rs1 107, .blk b1 ((cl24 x0)) 24] ∧ RL S cs2 s1.2) hL1 ⟨_, _, _, (show _ = (v1 : Value) from ((k2 3).trans (k1 3))), (k2 4), H, g1⟩ ?_
 clear H; intro k4 s1 m3 w3 k3 hI1 o2 hb1 hh1; obtain ⟨v2, cs2, rs1, q1, q2, H, g2⟩ := hI1
 have q3 : look m3 1 = .pointer (some ⟨b1, 0, none⟩) := (k3 1 rfl).trans ((k2 1).trans (k1 1))
 unfold seneschalref06_In_b0 at hb1
 refine wp_seq_k ?_; intro K5 hK5
 refine sr ?_; intro K6 hK6
 refine p_mv q2 ?_
 refine p_val (r_lssI rfl rfl) ?_
 refine xk hK6 ?_; clear hK6
 refine c_split (t := decide (s1.1 < 4)) rfl (fun hc1 => ?_) (fun hc1 => ?_)
 ·replace hb1 := cnd_t hb1 hc1
  refine wp_skip ?_
  refine xn hK5 ?_; clear hK5
  refine wp_seq_k ?_; intro K7 hK7
  refine nameF fun m4 k5 => ?_
  obtain ⟨t2, hE3, hF2⟩ := bnd hb1
  have J1 : ∀ (v6 : Value) (cs6 rs4 : List Value) (m7 : FM) (w7 : World), (∀ t, has [3, 5, 11, 12, 13, 14, 15, 16, 17, 18, 19, 20, 21, 22, 23, 24, 25] t = false → look m7 t = look m4 t) → look m7 3 = v6 → HS ⟨S, [], w⟩ S w7 [.osl (v6) (t2).length 1 cs6 rs4 107, .blk b1 ((cl24 x0)) 24] → RL S cs6 t2 → K7 (fr 28 m7) w7 := by
   clear H; intro v6 cs6 rs4 m7 w7 k9 q8 H g6
   have q9 : look m7 1 = .pointer (some ⟨b1, 0, none⟩) := (k9 1 rfl).trans ((k5 1).trans q3)
   have q10 : look m7 4 = .int .i64 (s1.1) := (k9 4 rfl).trans ((k5 4).trans q2)
   refine hK7 _ _ ?_
   refine wp_region_lit ?_
   refine p_mv q10 ?_
   refine p_val (r_addI rfl rfl) ?_
   refine p_as (v := .int .i64 ((w64 (s1.1 + 1)))) rfl ?_
   refine wpList_nil ?_
   refine x_norm ?_
   replace H : HS ⟨S, [], w⟩ S w7 [.osl (v6) (t2).length 1 cs6 rs4 107, .blk b1 ((cl24 x0)) 24] := H
   obtain rfl := osi hF2
   exact ⟨((w64 (s1.1 + 1)), t2), _, rfl, (by (repeat (refine keep_cons rfl ?_)); refine keep_sub k9 rfl ?_; (repeat (refine keep_cons rfl ?_)); refine keep_name k5 ?_; (repeat (refine keep_cons rfl ?_)); refine keep_sub k3 rfl ?_; exact kcx), ⟨_, _, _, (show _ = (v6 : Value) from q8), rfl, H, g6⟩, hh1⟩
  refine wp_block ?_
  refine sr ?_; intro K8 hK8
  refine p_as (v := .int .i64 (0)) rfl ?_
  refine xk hK8 ?_; clear hK8
  refine wp_block ?_
  refine nameF fun m5 k6 => ?_
  obtain ⟨out2, hL2, hE4⟩ := bnd hE3
  replace H : HS ⟨S, [], w⟩ S w3 [.osl (v2) (s1.2).length 1 cs2 rs1 107, .blk b1 ((cl24 x0)) 24] := H
  refine loopI [3, 5, 11, 12, 13, 14, 15, 16, 17, 18, 19, 20, 21, 22, 23, 24, 25] (fun (s2 : Int × (List UInt32)) (m6 : FM) (w4 : World) => ∃ (v3 : Value) (cs3 rs2 : List Value), look m6 3 = v3 ∧ look m6 5 = .int .i64 (s2.1) ∧ HS ⟨S, [], w⟩ S w4 [.osl (v3) (s2.2).length 1 cs3 rs2 107, .blk b1 ((cl24 x0)) 24] ∧ RL S cs3 s2.2) hL2 ⟨_, _, _, (show _ = (v2 : Value) from ((k6 3).trans ((k5 3).trans q1))), (k6 5), H, g2⟩ ?_
  clear H; intro k8 s2 m6 w4 k7 hI2 o4 hb2 hh2; obtain ⟨v3, cs3, rs2, q4, q5, H, g3⟩ := hI2
  have q6 : look m6 1 = .pointer (some ⟨b1, 0, none⟩) := (k7 1 rfl).trans ((k6 1).trans ((k5 1).trans q3))
  have q7 : look m6 4 = .int .i64 (s1.1) := (k7 4 rfl).trans ((k6 4).trans ((k5 4).trans q2))
  unfold seneschalref06_In_b1 at hb2
  refine wp_seq_k ?_; intro K9 hK9
  refine sr ?_; intro K10 hK10
  refine p_mv q5 ?_
  refine p_val (r_lssI rfl rfl) ?_
  refine xk hK10 ?_; clear hK10
  refine c_split (t := decide (s2.1 < 4)) rfl (fun hc2 => ?_) (fun hc2 => ?_)
  ·replace hb2 := cnd_t hb2 hc2
   refine wp_skip ?_
   refine xn hK9 ?_; clear hK9
   refine wp_seq_k ?_; intro K11 hK11
   refine wp_block ?_
   refine wp_region_lit ?_
   refine p_mv (v := v3) q4 ?_
   refine p_mv q7 ?_
   obtain ⟨y1, e1, hb2⟩ := bnd hb2
   refine p_val (r_addrA (i := (s1.1 : Int).toNat) u24 sz22 q6 rfl rfl (by have h1_ := (idx_some e1).1; omega) (by have h1_ := (idx_some e1).1; have h2_ := idx_lt e1; simp only [List.length_cons, List.length_nil] at h2_; omega)) ?_
   refine p_val (h_loadA (cf := fun a_ : UInt64 => Value.int .u64 (((a_).toNat : Int))) (o := 0) to22 H rfl (k := 1) rfl e1 rfl) ?_
   refine p_mv q5 ?_
   refine p_val (r_mulI rfl rfl) ?_
   obtain ⟨y2, e2, hb2⟩ := bnd hb2
   refine p_val (r_shr rfl rfl (Int.not_lt.2 (of_decide_eq_true (chk_some e2))) (i64_shr _ _)) ?_
   refine p_val (r_bits (bo := .and) (by simp) rfl rfl (i64_and _ (65535 : UInt64))) ?_
   refine p_val (r_conv u22 u107 rfl (i32_wrap _)) ?_
   have g4 : RL S ([Value.int .u32 ((((i32 ((((i64 (shrI .u64 ((y1).toNat : Int) (w64 ((16 : Int) * s2.1)))) &&& (65535 : UInt64))).toNat : Int))).toNat : Int))] ++ ([] : List Value)) ([(i32 ((((i64 (shrI .u64 ((y1).toNat : Int) (w64 ((16 : Int) * s2.1)))) &&& (65535 : UInt64))).toNat : Int))] : List UInt32) := (RL.cons rpU32 RL.nil)
   refine p_of1 (a_bslice (N := 1) (vals := [(0, .int .u32 ((((i32 ((((i64 (shrI .u64 ((y1).toNat : Int) (w64 ((16 : Int) * s2.1)))) &&& (65535 : UInt64))).toNat : Int))).toNat : Int)))]) (l := ([Value.int .u32 ((((i32 ((((i64 (shrI .u64 ((y1).toNat : Int) (w64 ((16 : Int) * s2.1)))) &&& (65535 : UInt64))).toNat : Int))).toNat : Int))] ++ ([] : List Value))) tn63 H rfl rfl rfl g4.len) ?_; clear H; intro w5 v4 H
   generalize ([Value.int .u32 ((((i32 ((((i64 (shrI .u64 ((y1).toNat : Int) (w64 ((16 : Int) * s2.1)))) &&& (65535 : UInt64))).toNat : Int))).toNat : Int))] ++ ([] : List Value)) = cs4 at H g4
   replace H : HS ⟨S, [], w⟩ S w5 [.osl (v4) (([(i32 ((((i64 (shrI .u64 ((y1).toNat : Int) (w64 ((16 : Int) * s2.1)))) &&& (65535 : UInt64))).toNat : Int))] : List UInt32)).length 1 cs4 [] 107, .osl (v3) (s2.2).length 1 cs3 rs2 107, .blk b1 ((cl24 x0)) 24] := H
   obtain ⟨y3, e3, hb2⟩ := bnd hb2
   refine p_of1 (a_appendX (k := 1) (v2 := v4) tn63 rfl H rfl rfl g3 rfl (H.slW (k := 0) rfl) g4 e3) ?_; clear H; rintro w6 v5 ⟨cs5, rs3, H, g5⟩
   replace H : HS ⟨S, [], w⟩ S w6 [.osl (v4) (([(i32 ((((i64 (shrI .u64 ((y1).toNat : Int) (w64 ((16 : Int) * s2.1)))) &&& (65535 : UInt64))).toNat : Int))] : List UInt32)).length 1 cs4 [] 107, .osl (v5) (y3).length 1 cs5 rs3 107, .blk b1 ((cl24 x0)) 24] := H
   replace H := H.sel [1, 2] rfl
   replace H : HS ⟨S, [], w⟩ S w6 [.osl (v5) (y3).length 1 cs5 rs3 107, .blk b1 ((cl24 x0)) 24] := H
   refine p_as (v := v5) rfl ?_
   refine wpList_nil ?_
   refine b_norm ?_
   refine xn hK11 ?_; clear hK11
   refine wp_region_lit ?_
   refine p_mv q5 ?_
   refine p_val (r_addI rfl rfl) ?_
   refine p_as (v := .int .i64 ((w64 (s2.1 + 1)))) rfl ?_
   refine wpList_nil ?_
   refine x_norm ?_
   replace H : HS ⟨S, [], w⟩ S w6 [.osl (v5) (y3).length 1 cs5 rs3 107, .blk b1 ((cl24 x0)) 24] := H
   obtain rfl := osi hb2
   exact ⟨((w64 (s2.1 + 1)), y3), _, rfl, (by (repeat (refine keep_cons rfl ?_)); refine keep_sub k7 rfl ?_; exact kcx), ⟨_, _, _, rfl, rfl, H, g5⟩, hh2⟩
  ·replace hb2 := cnd_f hb2 hc2
   refine wp_exit ?_
   refine x_exit ?_
   refine x_exit ?_
   refine b_hit ?_
   refine b_norm ?_
   refine x_norm ?_
   replace H : HS ⟨S, [], w⟩ S w4 [.osl (v3) (s2.2).length 1 cs3 rs2 107, .blk b1 ((cl24 x0)) 24] := H
   obtain rfl := osi hb2
   obtain rfl := osi hh2
   obtain rfl := osi hE4
   exact J1 _ _ _ _ _ (by (repeat (refine keep_cons rfl ?_)); refine keep_sub k7 rfl ?_; (repeat (refine keep_cons rfl ?_)); refine keep_name k6 ?_; exact kcx) (show _ = (v3 : Value) from q4) H g3
 ·replace hb1 := cnd_f hb1 hc1
  refine wp_exit ?_
  refine x_exit ?_
  refine x_exit ?_
  refine b_hit ?_
  refine x_norm ?_
  replace H : HS ⟨S, [], w⟩ S w3 [.osl (v2) (s1.2).length 1 cs2 rs1 107, .blk b1 ((cl24 x0)) 24] := H
  obtain rfl := osi hb1
  obtain rfl := osi hh1
  obtain rfl := osi hE2
  exact J2 _ _ _ _ _ (by (repeat (refine keep_cons rfl ?_)); refine keep_sub k3 rfl ?_; (repeat (refine keep_cons rfl ?_)); refine keep_name k2 ?_; exact kcx) (show _ = (v2 : Value) from q1) H g2
def seneschalref06_Out_b0 (x0 : List UInt32) (s1 : Int × Qw) : Option ((Int × Qw) ⊕ Qw) :=
  bif decide (s1.1 < ((x0).length : Int)) then (Option.bind (idx ([s1.2.1, s1.2.2.1, s1.2.2.2.1, s1.2.2.2.2] : List UInt64) (w64 (Int.tdiv s1.1 4))) fun y1 => Option.bind (idx x0 s1.1) fun y2 => Option.bind (chk (decide (0 ≤ (w64 ((16 : Int) * (Int.tmod s1.1 4)))))) fun y3 => Option.bind (idx ([s1.2.1, s1.2.2.1, s1.2.2.2.1, s1.2.2.2.2] : List UInt64) (w64 (Int.tdiv s1.1 4))) fun y4 => Option.bind (setL ([s1.2.1, s1.2.2.1, s1.2.2.2.1, s1.2.2.2.2] : List UInt64) ((w64 (Int.tdiv s1.1 4)) : Int) (y1 ||| (i64 (shlI .u64 (((i64 ((y2).toNat : Int))).toNat : Int) (w64 ((16 : Int) * (Int.tmod s1.1 4))))))) fun y5 => some (.inl (((w64 (s1.1 + 1)), (y5.getD 0 (0 : UInt64)), (y5.getD 1 (0 : UInt64)), (y5.getD 2 (0 : UInt64)), (y5.getD 3 (0 : UInt64)))))) else (some (.inr ((s1.2.1, s1.2.2.1, s1.2.2.2.1, s1.2.2.2.2))))
def seneschalref06_Out_p (x0 : List UInt32) : Option (Qw) :=
  Option.bind (Option.bind (iter (seneschalref06_Out_b0 x0) ((0, (0 : UInt64), (0 : UInt64), (0 : UInt64), (0 : UInt64)))) (fun e => some (e))) (fun t1 => some (t1))
theorem seneschalref06_Out_c {S : Mem} {w : World} (hS : Sub S w) {v0_ : Value} {x0 : List UInt32} (h0_ : RdS S v0_ x0) {r : Qw} (hF : seneschalref06_Out_p x0 = some r) :
    Calls Tryz.prog 85 #[v0_] w fun e w' => e = .returned (.agg ((cl24 r)).toArray) ∧ Ext w w' := by
 refine enter (n := 28) Tryz.func85 rfl rfl rfl ?_
 have H := HS.start hS
 unfold seneschalref06_Out_p at hF
 refine sr ?_; intro K1 hK1
 refine p_ofb (a_alloc (l := (cl24 ((0 : UInt64), (0 : UInt64), (0 : UInt64), (0 : UInt64)))) H tz24 rfl) ?_; clear H; intro w1 b1 H
 refine xk hK1 ?_; clear hK1
 refine sr ?_; intro K2 hK2
 refine p_val (r_build (vals := []) (l := (cl24 ((0 : UInt64), (0 : UInt64), (0 : UInt64), (0 : UInt64)))) tb24 rfl rfl) ?_
 refine p_ofb (a_alloc (l := (cl24 ((0 : UInt64), (0 : UInt64), (0 : UInt64), (0 : UInt64)))) H tz24 rfl) ?_; clear H; intro w2 b2 H
 refine p_ofs (a_store (k := 0) (v := .agg ((cl24 ((0 : UInt64), (0 : UInt64), (0 : UInt64), (0 : UInt64)))).toArray) (l := (cl24 ((0 : UInt64), (0 : UInt64), (0 : UInt64), (0 : UInt64)))) tsz24 H rfl rfl rfl (cells_agg _) rfl (fun u hu => List.all_eq_true.1 (rfl : ((cl24 ((0 : UInt64), (0 : UInt64), (0 : UInt64), (0 : UInt64)))).all (·.oneCell') = true) u hu) rfl) ?_; clear H; intro w3 H
 replace H : HS ⟨S, [], w⟩ S w3 [.blk b2 ((cl24 ((0 : UInt64), (0 : UInt64), (0 : UInt64), (0 : UInt64)))) 24, .blk b1 ((cl24 ((0 : UInt64), (0 : UInt64), (0 : UInt64), (0 : UInt64)))) 24] := H
 refine xk hK2 ?_; clear hK2
 refine wp_seq_k ?_; intro K3 hK3
 refine nameF fun m1 k1 => ?_
 obtain ⟨t1, hE1, hF1⟩ := bnd hF
 have J1 : ∀ (m4 : FM) (w7 : World), (∀ t, has [4, 6, 7, 8, 9, 10, 11, 12, 13, 14, 15, 16, 17, 18, 19, 20, 21, 22, 23, 24, 25, 26] t = false → look m4 t = look m1 t) → HS ⟨S, [], w⟩ S w7 [.blk b2 ((cl24 t1)) 24, .blk b1 ((cl24 ((0 : UInt64), (0 : UInt64), (0 : UInt64), (0 : UInt64)))) 24] → K3 (fr 28 m4) w7 := by
  clear H; intro m4 w7 k5 H
  have q5 : look m4 2 = .pointer (some ⟨b1, 0, none⟩) := (k5 2 rfl).trans (k1 2)
  have q6 : look m4 3 = .pointer (some ⟨b2, 0, none⟩) := (k5 3 rfl).trans (k1 3)
  refine hK3 _ _ ?_
  refine sr ?_; intro K8 hK8
  refine p_val (h_load (l := (cl24 t1)) tg24 H q6 (k := 0) rfl rfl rfl) ?_
  refine p_ofs (a_store (k := 1) (v := .agg ((cl24 t1)).toArray) (l := (cl24 t1)) tsz24 H q5 rfl rfl (cells_agg _) rfl (fun u hu => List.all_eq_true.1 (rfl : ((cl24 t1)).all (·.oneCell') = true) u hu) rfl) ?_; clear H; intro w8 H
  replace H : HS ⟨S, [], w⟩ S w8 [.blk b2 ((cl24 t1)) 24, .blk b1 ((cl24 t1)) 24] := H
  refine xk hK8 ?_; clear hK8
  refine wp_ret ?_
  obtain rfl := osi hF1
  refine e_1 rfl (qh_cell (l := (cl24 t1)) tg24 H q5 (k := 1) rfl rfl rfl) ?_
  exact ⟨rfl, H.toExt⟩
 refine sr ?_; intro K4 hK4
 refine p_as (v := .int .i64 (0)) rfl ?_
 refine xk hK4 ?_; clear hK4
 refine wp_block ?_
 refine nameF fun m2 k2 => ?_
 obtain ⟨out1, hL1, hE2⟩ := bnd hE1
 replace H : HS ⟨S, [], w⟩ S w3 [.blk b2 ((cl24 ((0 : UInt64), (0 : UInt64), (0 : UInt64), (0 : UInt64)))) 24, .blk b1 ((cl24 ((0 : UInt64), (0 : UInt64), (0 : UInt64), (0 : UInt64)))) 24] := H
 refine loopI [4, 6, 7, 8, 9, 10, 11, 12, 13, 14, 15, 16, 17, 18, 19, 20, 21, 22, 23, 24, 25, 26] (fun (s1 : Int × Qw) (m3 : FM) (w4 : World) => look m3 4 = .int .i64 (s1.1) ∧ HS ⟨S, [], w⟩ S w4 [.blk b2 ((cl24 s1.2)) 24, .blk b1 ((cl24 ((0 : UInt64), (0 : UInt64), (0 : UInt64), (0 : UInt64)))) 24]) hL1 ⟨(k2 4), H⟩ ?_
 clear H; intro k4 s1 m3 w4 k3 hI1 o2 hb1 hh1; obtain ⟨q1, H⟩ := hI1
 have q2 : look m3 0 = v0_ := (k3 0 rfl).trans ((k2 0).trans (k1 0))
 have q3 : look m3 2 = .pointer (some ⟨b1, 0, none⟩) := (k3 2 rfl).trans ((k2 2).trans (k1 2))
 have q4 : look m3 3 = .pointer (some ⟨b2, 0, none⟩) := (k3 3 rfl).trans ((k2 3).trans (k1 3))
 unfold seneschalref06_Out_b0 at hb1
 refine wp_seq_k ?_; intro K5 hK5
 refine sr ?_; intro K6 hK6
 refine p_mv q1 ?_
 refine p_mv (v := v0_) q2 ?_
 refine p_val (r_lenR' u63 rfl h0_ H.sub) ?_
 refine p_val (r_lssI rfl rfl) ?_
 refine xk hK6 ?_; clear hK6
 refine c_split (t := decide (s1.1 < ((x0).length : Int))) rfl (fun hc1 => ?_) (fun hc1 => ?_)
 ·replace hb1 := cnd_t hb1 hc1
  refine wp_skip ?_
  refine xn hK5 ?_; clear hK5
  refine wp_seq_k ?_; intro K7 hK7
  refine wp_block ?_
  obtain ⟨y1, e1, hb1⟩ := bnd hb1
  obtain ⟨y2, e2, hb1⟩ := bnd hb1
  obtain ⟨b3, o3, N1, c1, cs1, hv1, hi1, hc2, hr1⟩ := h0_.get (idx_some e2).2
  obtain rfl := elU32 hr1
  obtain ⟨y3, e3, hb1⟩ := bnd hb1
  obtain ⟨y4, e4, hb1⟩ := bnd hb1
  apply wp_region_ext 15 (kindsF []) rfl rfl (by kernel_rfl); intro vs1
  simp only [tkS, tkZ, drS, drZ]
  replace H := H.drew
  refine t_v (fun w hx => r_move q1) ?_
  refine t_v (fun w hx => r_quo (r := w64 (Int.tdiv s1.1 4)) rfl rfl (by decide) rfl) ?_
  refine t_v (fun w hx => r_addrA (i := ((w64 (Int.tdiv s1.1 4)) : Int).toNat) u24 sz22 q4 rfl rfl (by have h1_ := (idx_some e1).1; omega) (by have h1_ := (idx_some e1).1; have h2_ := idx_lt e1; simp only [List.length_cons, List.length_nil] at h2_; omega)) ?_
  refine t_v (fun w hx => h_loadA (cf := fun a_ : UInt64 => Value.int .u64 (((a_).toNat : Int))) (o := 0) to22 (H.ext hx) rfl (k := 0) rfl e1 rfl) ?_
  refine t_v (fun w hx => r_move (v := v0_) q2) ?_
  refine t_v (fun w hx => r_move q1) ?_
  refine t_v (fun w hx => r_addrV (i := (s1.1 : Int).toNat) u63 tsz107 rfl hv1 rfl (idx_some e2).1 hi1) ?_
  refine t_v (fun w hx => s_load1 (p := (o3 + (s1.1 : Int).toNat * 1)) (o := 0) (v := .int .u32 (((y2).toNat : Int))) to107 (H.ext hx).sub rfl hc2 rfl) ?_
  refine t_v (fun w hx => r_conv u107 u22 rfl (i64_wrap _)) ?_
  refine t_v (fun w hx => r_move q1) ?_
  refine t_v (fun w hx => r_rem (r := Int.tmod s1.1 4) rfl rfl (by decide) rfl) ?_
  refine t_v (fun w hx => r_mulI rfl rfl) ?_
  refine t_v (fun w hx => r_shl rfl rfl (Int.not_lt.2 (of_decide_eq_true (chk_some e3))) (i64_shl _ _)) ?_
  refine t_v (fun w hx => r_bits (bo := .or) (by simp) rfl rfl (i64_or _ _)) ?_
  refine t_v (fun w hx => r_addrA (i := ((w64 (Int.tdiv s1.1 4)) : Int).toNat) u24 sz22 q4 rfl rfl (by have h1_ := (idx_some e4).1; omega) (by have h1_ := (idx_some e4).1; have h2_ := idx_lt e4; simp only [List.length_cons, List.length_nil] at h2_; omega)) ?_
  refine t_nil (fun w5 hx hF hA => ?_)
  replace H := H.ext hx; clear hx hF hA
  obtain ⟨y5, e5, hb1⟩ := bnd hb1
  refine p_ofs (a_storeA (0 : UInt64) (cf := fun a_ : UInt64 => Value.int .u64 (((a_).toNat : Int))) (u := (y1 ||| (i64 (shlI .u64 (((i64 ((y2).toNat : Int))).toNat : Int) (w64 ((16 : Int) * (Int.tmod s1.1 4))))))) (o := 0) (n := 4) (k := 0) tsz22 H rfl rfl rfl (rfl) e5 rfl rfl (Nat.le_of_ble_eq_true rfl)) ?_; clear H; intro w6 H
  replace H : HS ⟨S, [], w⟩ S w6 [.blk b2 ((cl24 ((y5.getD 0 (0 : UInt64)), (y5.getD 1 (0 : UInt64)), (y5.getD 2 (0 : UInt64)), (y5.getD 3 (0 : UInt64))))) 24, .blk b1 ((cl24 ((0 : UInt64), (0 : UInt64), (0 : UInt64), (0 : UInt64)))) 24] := H
  refine wpList_nil ?_; refine on_norm ?_
  refine b_norm ?_
  refine xn hK7 ?_; clear hK7
  refine wp_region_lit ?_
  refine p_mv q1 ?_
  refine p_val (r_addI rfl rfl) ?_
  refine p_as (v := .int .i64 ((w64 (s1.1 + 1)))) rfl ?_
  refine wpList_nil ?_
  refine x_norm ?_
  replace H : HS ⟨S, [], w⟩ S w6 [.blk b2 ((cl24 ((y5.getD 0 (0 : UInt64)), (y5.getD 1 (0 : UInt64)), (y5.getD 2 (0 : UInt64)), (y5.getD 3 (0 : UInt64))))) 24, .blk b1 ((cl24 ((0 : UInt64), (0 : UInt64), (0 : UInt64), (0 : UInt64)))) 24] := H
  obtain rfl := osi hb1
  exact ⟨((w64 (s1.1 + 1)), (y5.getD 0 (0 : UInt64)), (y5.getD 1 (0 : UInt64)), (y5.getD 2 (0 : UInt64)), (y5.getD 3 (0 : UInt64))), _, rfl, (by (repeat (refine keep_cons rfl ?_)); refine keep_sub k3 rfl ?_; exact kcx), ⟨rfl, H⟩, hh1⟩
 ·replace hb1 := cnd_f hb1 hc1
  refine wp_exit ?_
  refine x_exit ?_
  refine x_exit ?_
  refine b_hit ?_
  refine x_norm ?_
  replace H : HS ⟨S, [], w⟩ S w4 [.blk b2 ((cl24 s1.2)) 24, .blk b1 ((cl24 ((0 : UInt64), (0 : UInt64), (0 : UInt64), (0 : UInt64)))) 24] := H
  obtain rfl := osi hb1
  obtain rfl := osi hh1
  obtain rfl := osi hE2
  exact J1 _ _ (by (repeat (refine keep_cons rfl ?_)); refine keep_sub k3 rfl ?_; (repeat (refine keep_cons rfl ?_)); refine keep_name k2 ?_; exact kcx) H
def seneschalref06_Cmp_b0 (y1 : (List UInt32)) (y2 : (List UInt32)) (s1 : Int) : Option ((Int) ⊕ ((Int) ⊕ (Unit))) :=
  bif decide ((0 : Int) ≤ s1) then (Option.bind (idx y1 s1) fun y3 => Option.bind (idx y2 s1) fun y4 => bif decide (((y3).toNat : Int) < ((y4).toNat : Int)) then (some (.inr (.inl ((-1))))) else (Option.bind (idx y1 s1) fun y5 => Option.bind (idx y2 s1) fun y6 => bif decide (((y6).toNat : Int) < ((y5).toNat : Int)) then (some (.inr (.inl (1)))) else (some (.inl ((w64 (s1 - 1))))))) else (some (.inr (.inr (()))))
def seneschalref06_Cmp_p (x0 : List UInt32) (x1 : List UInt32) : Option (Int) :=
  Option.bind (seneschalref06_trim_p x0) fun y1 => Option.bind (seneschalref06_trim_p x1) fun y2 => bif (((y1).length : Int) != ((y2).length : Int)) then (bif decide (((y1).length : Int) < ((y2).length : Int)) then (some ((-1))) else (some (1))) else (jn (Option.bind (iter (seneschalref06_Cmp_b0 y1 y2) ((w64 (((y1).length : Int) - 1)))) (fun e => jnO e (fun e1 => some (.inr (e1))) (fun e2 => some (.inl (e2))))) (fun t1 => some (0)) (fun e => some (e)))
theorem seneschalref06_Cmp_c {S : Mem} {w : World} (hS : Sub S w) {v0_ : Value} {x0 : List UInt32} (h0_ : RdS S v0_ x0) {v1_ : Value} {x1 : List UInt32} (h1_ : RdS S v1_ x1) {r : Int} (hF : seneschalref06_Cmp_p x0 x1 = some r) :
    Calls Tryz.prog 69 #[v0_, v1_] w fun e w' => e = .returned (.int .i64 (r)) ∧ Ext w w' := by
 refine enter (n := 45) Tryz.func69 rfl rfl rfl ?_
 have H := HS.start hS
 unfold seneschalref06_Cmp_p at hF
 refine sr ?_; intro K1 hK1
 refine p_as (v := .int .i64 (0)) rfl ?_
 refine xk hK1 ?_; clear hK1
 refine sr ?_; intro K2 hK2
 refine p_mv (v := v0_) rfl ?_
 obtain ⟨y1, e1, hF⟩ := bnd hF
 refine p_call (l := [v0_]) is84 rfl ?_
 refine (seneschalref06_trim_c H.sub h0_ e1).mono ?_; rintro _ w1 ⟨hx, v1, rfl, g1⟩
 have hle1 := gr_le (w' := w1) H.sub; replace H := H.call hx; clear hx; generalize gr S w w1 = S1 at hle1 H g1
 replace h0_ := RdS.mono h0_ hle1
 replace h1_ := RdS.mono h1_ hle1
 refine p_mv (v := v1_) rfl ?_
 obtain ⟨y2, e2, hF⟩ := bnd hF
 refine p_call (l := [v1_]) is84 rfl ?_
 refine (seneschalref06_trim_c H.sub h1_ e2).mono ?_; rintro _ w2 ⟨hx, v2, rfl, g2⟩
 have hle2 := gr_le (w' := w2) H.sub; replace H := H.call hx; clear hx; generalize gr S1 w1 w2 = S2 at hle2 H g2
 replace h0_ := RdS.mono h0_ hle2
 replace h1_ := RdS.mono h1_ hle2
 replace g1 := RdS.mono g1 hle2
 refine p_as (v := v1) rfl ?_
 refine p_as (v := v2) rfl ?_
 refine xk hK2 ?_; clear hK2
 refine wp_seq_k ?_; intro K3 hK3
 refine sr ?_; intro K4 hK4
 refine p_mv (v := v1) rfl ?_
 refine p_val (r_lenR' u63 rfl g1 H.sub) ?_
 refine p_mv (v := v2) rfl ?_
 refine p_val (r_lenR' u63 rfl g2 H.sub) ?_
 refine p_val (r_neqI rfl rfl) ?_
 refine xk hK4 ?_; clear hK4
 refine c_split (t := (((y1).length : Int) != ((y2).length : Int))) rfl (fun hc1 => ?_) (fun hc1 => ?_)
 ·replace hF := cnd_t hF hc1
  refine wp_seq_k ?_; intro K5 hK5
  refine sr ?_; intro K6 hK6
  refine p_mv (v := v1) rfl ?_
  refine p_val (r_lenR' u63 rfl g1 H.sub) ?_
  refine p_mv (v := v2) rfl ?_
  refine p_val (r_lenR' u63 rfl g2 H.sub) ?_
  refine p_val (r_lssI rfl rfl) ?_
  refine xk hK6 ?_; clear hK6
  refine c_split (t := decide (((y1).length : Int) < ((y2).length : Int))) rfl (fun hc2 => ?_) (fun hc2 => ?_)
  ·replace hF := cnd_t hF hc2
   refine sr ?_; intro K7 hK7
   refine p_as (v := .int .i64 ((-1))) rfl ?_
   refine xk hK7 ?_; clear hK7
   refine wp_ret ?_
   refine x_ret ?_
   refine x_ret ?_
   obtain rfl := osi hF
   refine e_1 rfl (q_tmp (v := .int .i64 ((-1))) rfl) ?_
   exact ⟨rfl, H.toExt⟩
  ·replace hF := cnd_f hF hc2
   refine wp_skip ?_
   refine xn hK5 ?_; clear hK5
   refine sr ?_; intro K8 hK8
   refine p_as (v := .int .i64 (1)) rfl ?_
   refine xk hK8 ?_; clear hK8
   refine wp_ret ?_
   refine x_ret ?_
   obtain rfl := osi hF
   refine e_1 rfl (q_tmp (v := .int .i64 (1)) rfl) ?_
   exact ⟨rfl, H.toExt⟩
 ·replace hF := cnd_f hF hc1
  refine wp_skip ?_
  refine xn hK3 ?_; clear hK3
  refine wp_seq_k ?_; intro K9 hK9
  refine nameF fun m1 k1 => ?_
  obtain ⟨o1, hE1, hF1⟩ := jn_some hF
  have J1 : ∀ (t1 : Unit) (m4 : FM) (w6 : World), o1 = .inl t1 → (∀ t, has [4, 5, 20, 21, 22, 23, 24, 25, 26, 27, 28, 29, 30, 31, 32, 33, 34, 35, 36, 37, 38, 39, 40, 41, 42, 43, 44] t = false → look m4 t = look m1 t) → HS ⟨S, [], w⟩ S2 w6 [] → K9 (fr 45 m4) w6 := by
   clear H; intro t1 m4 w6 ho k5 H
   replace hF1 := jnO_l hF1 ho
   refine hK9 _ _ ?_
   refine sr ?_; intro K19 hK19
   refine p_as (v := .int .i64 (0)) rfl ?_
   refine xk hK19 ?_; clear hK19
   refine wp_ret ?_
   obtain rfl := osi hF1
   refine e_1 rfl (q_tmp (v := .int .i64 (0)) rfl) ?_
   exact ⟨rfl, H.toExt⟩
  refine sr ?_; intro K10 hK10
  refine p_mv (v := v1) (k1 0) ?_
  refine p_val (r_lenR' u63 rfl g1 H.sub) ?_
  refine p_val (r_subI rfl rfl) ?_
  refine p_as (v := .int .i64 ((w64 (((y1).length : Int) - 1)))) rfl ?_
  refine xk hK10 ?_; clear hK10
  refine wp_block ?_
  refine nameF fun m2 k2 => ?_
  obtain ⟨out1, hL1, hE2⟩ := bnd hE1
  replace H : HS ⟨S, [], w⟩ S2 w2 [] := H
  refine loopI [4, 5, 23, 24, 25, 26, 27, 28, 29, 30, 31, 32, 33, 34, 35, 36, 37, 38, 39, 40, 41, 42, 43, 44] (fun (s1 : Int) (m3 : FM) (w3 : World) => look m3 5 = .int .i64 (s1) ∧ HS ⟨S, [], w⟩ S2 w3 []) hL1 ⟨(k2 5), H⟩ ?_
  clear H; intro k4 s1 m3 w3 k3 hI1 o2 hb1 hh1; obtain ⟨q1, H⟩ := hI1
  have q2 : look m3 0 = v1 := (k3 0 rfl).trans ((k2 0).trans (k1 0))
  have q3 : look m3 1 = v2 := (k3 1 rfl).trans ((k2 1).trans (k1 1))
  unfold seneschalref06_Cmp_b0 at hb1
  refine wp_seq_k ?_; intro K11 hK11
  refine sr ?_; intro K12 hK12
  refine p_mv q1 ?_
  refine p_val (r_geqI rfl rfl) ?_
  refine xk hK12 ?_; clear hK12
  refine c_split (t := decide ((0 : Int) ≤ s1)) rfl (fun hc3 => ?_) (fun hc3 => ?_)
  ·replace hb1 := cnd_t hb1 hc3
   refine wp_skip ?_
   refine xn hK11 ?_; clear hK11
   refine wp_seq_k ?_; intro K13 hK13
   refine wp_block ?_
   refine wp_seq_k ?_; intro K14 hK14
   refine wp_seq_k ?_; intro K15 hK15
   obtain ⟨y3, e3, hb1⟩ := bnd hb1
   obtain ⟨b1, o3, N1, c1, cs1, hv1, hi1, hc4, hr1⟩ := g1.get (idx_some e3).2
   obtain rfl := elU32 hr1
   obtain ⟨y4, e4, hb1⟩ := bnd hb1
   obtain ⟨b2, o4, N2, c2, cs2, hv2, hi2, hc5, hr2⟩ := g2.get (idx_some e4).2
   obtain rfl := elU32 hr2
   apply wp_region_ext 9 (kindsF []) rfl rfl (by kernel_rfl); intro vs1
   simp only [tkS, tkZ, drS, drZ]
   replace H := H.drew
   refine t_v (fun w hx => r_move (v := v1) q2) ?_
   refine t_v (fun w hx => r_move q1) ?_
   refine t_v (fun w hx => r_addrV (i := (s1 : Int).toNat) u63 tsz107 rfl hv1 rfl (idx_some e3).1 hi1) ?_
   refine t_v (fun w hx => s_load1 (p := (o3 + (s1 : Int).toNat * 1)) (o := 0) (v := .int .u32 (((y3).toNat : Int))) to107 (H.ext hx).sub rfl hc4 rfl) ?_
   refine t_v (fun w hx => r_move (v := v2) q3) ?_
   refine t_v (fun w hx => r_move q1) ?_
   refine t_v (fun w hx => r_addrV (i := (s1 : Int).toNat) u63 tsz107 rfl hv2 rfl (idx_some e4).1 hi2) ?_
   refine t_v (fun w hx => s_load1 (p := (o4 + (s1 : Int).toNat * 1)) (o := 0) (v := .int .u32 (((y4).toNat : Int))) to107 (H.ext hx).sub rfl hc5 rfl) ?_
   refine t_v (fun w hx => r_lssI rfl rfl) ?_
   refine t_nil (fun w4 hx hF hA => ?_)
   replace H := H.ext hx; clear hx hF hA
   refine wpList_nil ?_; refine on_norm ?_
   refine xn hK15 ?_; clear hK15
   refine c_split (t := decide (((y3).toNat : Int) < ((y4).toNat : Int))) rfl (fun hc6 => ?_) (fun hc6 => ?_)
   ·replace hb1 := cnd_t hb1 hc6
    refine sr ?_; intro K16 hK16
    refine p_as (v := .int .i64 ((-1))) rfl ?_
    refine xk hK16 ?_; clear hK16
    refine wp_ret ?_
    refine x_ret ?_
    refine b_ret ?_
    refine x_ret ?_
    refine x_ret ?_
    refine b_ret ?_
    refine x_ret ?_
    obtain rfl := osi hb1
    obtain rfl := osi hh1
    obtain rfl := osi hE2
    obtain rfl := osi hF1
    refine e_1 rfl (q_tmp (v := .int .i64 ((-1))) rfl) ?_
    exact ⟨rfl, H.toExt⟩
   ·replace hb1 := cnd_f hb1 hc6
    refine wp_skip ?_
    refine xn hK14 ?_; clear hK14
    refine wp_seq_k ?_; intro K17 hK17
    obtain ⟨y5, e5, hb1⟩ := bnd hb1
    obtain ⟨b3, o5, N3, c3, cs3, hv3, hi3, hc7, hr3⟩ := g1.get (idx_some e5).2
    obtain rfl := elU32 hr3
    obtain ⟨y6, e6, hb1⟩ := bnd hb1
    obtain ⟨b4, o6, N4, c4, cs4, hv4, hi4, hc8, hr4⟩ := g2.get (idx_some e6).2
    obtain rfl := elU32 hr4
    apply wp_region_ext 9 (kindsF []) rfl rfl (by kernel_rfl); intro vs2
    simp only [tkS, tkZ, drS, drZ]
    replace H := H.drew
    refine t_v (fun w hx => r_move (v := v1) q2) ?_
    refine t_v (fun w hx => r_move q1) ?_
    refine t_v (fun w hx => r_addrV (i := (s1 : Int).toNat) u63 tsz107 rfl hv3 rfl (idx_some e5).1 hi3) ?_
    refine t_v (fun w hx => s_load1 (p := (o5 + (s1 : Int).toNat * 1)) (o := 0) (v := .int .u32 (((y5).toNat : Int))) to107 (H.ext hx).sub rfl hc7 rfl) ?_
    refine t_v (fun w hx => r_move (v := v2) q3) ?_
    refine t_v (fun w hx => r_move q1) ?_
    refine t_v (fun w hx => r_addrV (i := (s1 : Int).toNat) u63 tsz107 rfl hv4 rfl (idx_some e6).1 hi4) ?_
    refine t_v (fun w hx => s_load1 (p := (o6 + (s1 : Int).toNat * 1)) (o := 0) (v := .int .u32 (((y6).toNat : Int))) to107 (H.ext hx).sub rfl hc8 rfl) ?_
    refine t_v (fun w hx => r_gtrI rfl rfl) ?_
    refine t_nil (fun w5 hx hF hA => ?_)
    replace H := H.ext hx; clear hx hF hA
    refine wpList_nil ?_; refine on_norm ?_
    refine xn hK17 ?_; clear hK17
    refine c_split (t := decide (((y6).toNat : Int) < ((y5).toNat : Int))) rfl (fun hc9 => ?_) (fun hc9 => ?_)
    ·replace hb1 := cnd_t hb1 hc9
     refine sr ?_; intro K18 hK18
     refine p_as (v := .int .i64 (1)) rfl ?_
     refine xk hK18 ?_; clear hK18
     refine wp_ret ?_
     refine b_ret ?_
     refine x_ret ?_
     refine x_ret ?_
     refine b_ret ?_
     refine x_ret ?_
     obtain rfl := osi hb1
     obtain rfl := osi hh1
     obtain rfl := osi hE2
     obtain rfl := osi hF1
     refine e_1 rfl (q_tmp (v := .int .i64 (1)) rfl) ?_
     exact ⟨rfl, H.toExt⟩
    ·replace hb1 := cnd_f hb1 hc9
     refine wp_skip ?_
     refine b_norm ?_
     refine xn hK13 ?_; clear hK13
     refine wp_region_lit ?_
     refine p_mv q1 ?_
     refine p_val (r_subI rfl rfl) ?_
     refine p_as (v := .int .i64 ((w64 (s1 - 1)))) rfl ?_
     refine wpList_nil ?_
     refine x_norm ?_
     replace H : HS ⟨S, [], w⟩ S2 w5 [] := H
     obtain rfl := osi hb1
     exact ⟨(w64 (s1 - 1)), _, rfl, (by (repeat (refine keep_cons rfl ?_)); refine keep_sub k3 rfl ?_; exact kcx), ⟨rfl, H⟩, hh1⟩
  ·replace hb1 := cnd_f hb1 hc3
   refine wp_exit ?_
   refine x_exit ?_
   refine x_exit ?_
   refine b_hit ?_
   refine x_norm ?_
   replace H : HS ⟨S, [], w⟩ S2 w3 [] := H
   obtain rfl := osi hb1
   obtain rfl := osi hh1
   obtain rfl := osi hE2
   exact J1 _ _ _ rfl (by (repeat (refine keep_cons rfl ?_)); refine keep_sub k3 rfl ?_; (repeat (refine keep_cons rfl ?_)); refine keep_name k2 ?_; exact kcx) H
def seneschalref06_Add_b0 (x0 : List UInt32) (x1 : List UInt32) (s1 : UInt32 × Int × (List UInt32)) : Option ((UInt32 × Int × (List UInt32)) ⊕ (UInt32 × (List UInt32))) :=
  bif (bif decide (s1.2.1 < ((x0).length : Int)) then true else decide (s1.2.1 < ((x1).length : Int))) then (Option.bind (bif decide (s1.2.1 < ((x0).length : Int)) then (Option.bind (idx x0 s1.2.1) fun y1 => some ((i32 (((s1.1).toNat : Int) + ((y1).toNat : Int))))) else (some (s1.1))) (fun t2 => Option.bind (bif decide (s1.2.1 < ((x1).length : Int)) then (Option.bind (idx x1 s1.2.1) fun y2 => some ((i32 (((t2).toNat : Int) + ((y2).toNat : Int))))) else (some (t2))) (fun t3 => Option.bind (app s1.2.2 ([(t3 &&& (65535 : UInt32))] : List UInt32)) fun y3 => some (.inl (((i32 (shrI .u32 ((t3).toNat : Int) 16)), (w64 (s1.2.1 + 1)), y3)))))) else (some (.inr ((s1.1, s1.2.2))))
def seneschalref06_Add_p (x0 : List UInt32) (x1 : List UInt32) : Option ((List UInt32)) :=
  Option.bind (Option.bind (iter (seneschalref06_Add_b0 x0 x1) (((0 : UInt32), 0, ([] : List UInt32)))) (fun e => some (e))) (fun t1 => Option.bind (app t1.2 ([t1.1] : List UInt32)) fun y4 => Option.bind (seneschalref06_trim_p y4) fun y5 => some (y5))
theorem seneschalref06_Add_c {S : Mem} {w : World} (hS : Sub S w) {v0_ : Value} {x0 : List UInt32} (h0_ : RdS S v0_ x0) {v1_ : Value} {x1 : List UInt32} (h1_ : RdS S v1_ x1) {r : (List UInt32)} (hF : seneschalref06_Add_p x0 x1 = some r) :
    Calls Tryz.prog 150 #[v0_, v1_] w fun e w' => Ext w w' ∧ ∃ (v0' : Value), e = .returned (v0') ∧ RdS (gr S w w') v0' r := by
 refine enter (n := 53) Tryz.func150 rfl rfl rfl ?_
 have H := HS.start hS
 unfold seneschalref06_Add_p at hF
 refine sr ?_; intro K1 hK1
 refine p_as (v := .slice none 0 0) rfl ?_
 refine xk hK1 ?_; clear hK1
 refine sr ?_; intro K2 hK2
 have g1 : RL S ([] : List Value) ([] : List UInt32) := RL.nil
 refine p_of1 (a_bslice (N := 0) (vals := []) (l := ([] : List Value)) tn63 H rfl rfl rfl g1.len) ?_; clear H; intro w1 v1 H
 replace H : HS ⟨S, [], w⟩ S w1 [.osl (v1) (([] : List UInt32)).length 1 ([] : List Value) [] 107] := H
 refine p_as (v := v1) rfl ?_
 refine xk hK2 ?_; clear hK2
 refine sr ?_; intro K3 hK3
 refine p_as (v := .int .u32 (0)) rfl ?_
 refine xk hK3 ?_; clear hK3
 refine wp_seq_k ?_; intro K4 hK4
 refine nameF fun m1 k1 => ?_
 obtain ⟨t1, hE1, hF1⟩ := bnd hF
 have J4 : ∀ (v5 : Value) (cs7 rs3 : List Value) (m10 : FM) (w7 : World), (∀ t, has [5, 6, 7, 9, 10, 11, 12, 13, 14, 15, 16, 17, 18, 19, 20, 21, 22, 23, 24, 25, 26, 27, 28, 29, 30, 31, 32, 33, 34, 35, 36, 37, 38, 39, 40, 41, 42, 43, 44, 45, 46, 47] t = false → look m10 t = look m1 t) → look m10 5 = v5 → look m10 6 = .int .u32 (((t1.1).toNat : Int)) → HS ⟨S, [], w⟩ S w7 [.osl (v5) (t1.2).length 1 cs7 rs3 107] → RL S cs7 t1.2 → K4 (fr 53 m10) w7 := by
  clear H; intro v5 cs7 rs3 m10 w7 k11 q22 q23 H g5
  refine hK4 _ _ ?_
  refine sr ?_; intro K15 hK15
  refine p_mv (v := v5) q22 ?_
  refine p_mv q23 ?_
  have g6 : RL S ([Value.int .u32 (((t1.1).toNat : Int))] ++ ([] : List Value)) ([t1.1] : List UInt32) := (RL.cons rpU32 RL.nil)
  refine p_of1 (a_bslice (N := 1) (vals := [(0, .int .u32 (((t1.1).toNat : Int)))]) (l := ([Value.int .u32 (((t1.1).toNat : Int))] ++ ([] : List Value))) tn63 H rfl rfl rfl g6.len) ?_; clear H; intro w8 v6 H
  generalize ([Value.int .u32 (((t1.1).toNat : Int))] ++ ([] : List Value)) = cs8 at H g6
  replace H : HS ⟨S, [], w⟩ S w8 [.osl (v6) (([t1.1] : List UInt32)).length 1 cs8 [] 107, .osl (v5) (t1.2).length 1 cs7 rs3 107] := H
  obtain ⟨y4, e4, hF1⟩ := bnd hF1
  refine p_of1 (a_appendX (k := 1) (v2 := v6) tn63 rfl H rfl rfl g5 rfl (H.slW (k := 0) rfl) g6 e4) ?_; clear H; rintro w9 v7 ⟨cs9, rs4, H, g7⟩
  replace H : HS ⟨S, [], w⟩ S w9 [.osl (v6) (([t1.1] : List UInt32)).length 1 cs8 [] 107, .osl (v7) (y4).length 1 cs9 rs4 107] := H
  replace H := H.sel [1] rfl
  replace H : HS ⟨S, [], w⟩ S w9 [.osl (v7) (y4).length 1 cs9 rs4 107] := H
  obtain ⟨S1, hle1, g8, H1⟩ := H.fixX (k := 0) rfl g7; clear H; have H := H1; clear H1
  replace H : HS ⟨S, [], w⟩ S1 w9 [] := H
  obtain ⟨y5, e5, hF1⟩ := bnd hF1
  refine p_call (l := [v7]) is84 rfl ?_
  refine (seneschalref06_trim_c H.sub g8 e5).mono ?_; rintro _ w10 ⟨hx, v8, rfl, g9⟩
  have hle2 := gr_le (w' := w10) H.sub; replace H := H.call hx; clear hx; generalize gr S1 w9 w10 = S2 at hle2 H g9
  replace g8 := RdS.mono g8 hle2
  refine p_as (v := v8) rfl ?_
  refine xk hK15 ?_; clear hK15
  refine wp_ret ?_
  obtain rfl := osi hF1
  refine e_1 rfl (q_tmp (v := v8) rfl) ?_
  exact ⟨H.toExt, _, rfl, RdS.mono g9 H.gr⟩
 refine sr ?_; intro K5 hK5
 refine p_as (v := .int .i64 (0)) rfl ?_
 refine xk hK5 ?_; clear hK5
 refine wp_block ?_
 refine nameF fun m2 k2 => ?_
 obtain ⟨out1, hL1, hE2⟩ := bnd hE1
 replace H : HS ⟨S, [], w⟩ S w1 [.osl (v1) (([] : List UInt32)).length 1 ([] : List Value) [] 107] := H
 refine loopI [5, 6, 7, 9, 10, 11, 12, 13, 14, 15, 16, 17, 18, 19, 20, 21, 22, 23, 24, 25, 26, 27, 28, 29, 30, 31, 32, 33, 34, 35, 36, 37, 38, 39, 40, 41, 42, 43, 44, 45, 46, 47] (fun (s1 : UInt32 × Int × (List UInt32)) (m3 : FM) (w2 : World) => ∃ (v2 : Value) (cs2 rs1 : List Value), look m3 5 = v2 ∧ look m3 6 = .int .u32 (((s1.1).toNat : Int)) ∧ look m3 7 = .int .i64 (s1.2.1) ∧ HS ⟨S, [], w⟩ S w2 [.osl (v2) (s1.2.2).length 1 cs2 rs1 107] ∧ RL S cs2 s1.2.2) hL1 ⟨_, _, _, (show _ = (v1 : Value) from ((k2 5).trans (k1 5))), ((k2 6).trans (k1 6)), (k2 7), H, g1⟩ ?_
 clear H; intro k4 s1 m3 w2 k3 hI1 o2 hb1 hh1; obtain ⟨v2, cs2, rs1, q1, q2, q3, H, g2⟩ := hI1
 have q4 : look m3 0 = v0_ := (k3 0 rfl).trans ((k2 0).trans (k1 0))
 have q5 : look m3 1 = v1_ := (k3 1 rfl).trans ((k2 1).trans (k1 1))
 unfold seneschalref06_Add_b0 at hb1
 refine wp_seq_k ?_; intro K6 hK6
 refine sr ?_; intro K7 hK7
 refine p_mv q3 ?_
 refine p_mv (v := v0_) q4 ?_
 refine p_val (r_lenR' u63 rfl h0_ H.sub) ?_
 refine p_val (r_lssI rfl rfl) ?_
 refine p_mv (v := .bool (decide (s1.2.1 < ((x0).length : Int)))) rfl ?_
 refine nameL fun m4 k5 => ?_
 refine gs_at 5 fun K8 hK8 R2 hR2 => ?_
 have J1 : ∀ (m5 : FM), (∀ t, has [14, 15, 16, 17, 18] t = false → look m5 t = look m4 t) → look m5 18 = .bool ((bif decide (s1.2.1 < ((x0).length : Int)) then true else decide (s1.2.1 < ((x1).length : Int)))) → K8 m5 w2 := by
  intro m5 k6 q6
  have q7 : look m5 0 = v0_ := (k6 0 rfl).trans ((k5 0).trans q4)
  have q8 : look m5 1 = v1_ := (k6 1 rfl).trans ((k5 1).trans q5)
  have q9 : look m5 5 = v2 := (k6 5 rfl).trans ((k5 5).trans q1)
  have q10 : look m5 6 = .int .u32 (((s1.1).toNat : Int)) := (k6 6 rfl).trans ((k5 6).trans q2)
  have q11 : look m5 7 = .int .i64 (s1.2.1) := (k6 7 rfl).trans ((k5 7).trans q3)
  refine hK8 _ _ ?_; clear hK8 hR2
  refine xk hK7 ?_; clear hK7
  refine c_split (t := (bif decide (s1.2.1 < ((x0).length : Int)) then true else decide (s1.2.1 < ((x1).length : Int)))) q6 (fun hc1 => ?_) (fun hc1 => ?_)
  ·replace hb1 := cnd_t hb1 hc1
   refine wp_skip ?_
   refine xn hK6 ?_; clear hK6
   refine wp_seq_k ?_; intro K9 hK9
   refine wp_block ?_
   refine wp_seq_k ?_; intro K10 hK10
   refine nameF fun m6 k7 => ?_
   obtain ⟨t2, hE3, hF2⟩ := bnd hb1
   have J3 : ∀ (m7 : FM) (w3 : World), (∀ t, has [6, 21, 22, 23, 24, 25, 26, 27, 28, 29, 30] t = false → look m7 t = look m6 t) → look m7 6 = .int .u32 (((t2).toNat : Int)) → HS ⟨S, [], w⟩ S w3 [.osl (v2) (s1.2.2).length 1 cs2 rs1 107] → K10 (fr 53 m7) w3 := by
    clear H; intro m7 w3 k8 q12 H
    have q13 : look m7 0 = v0_ := (k8 0 rfl).trans ((k7 0).trans q7)
    have q14 : look m7 1 = v1_ := (k8 1 rfl).trans ((k7 1).trans q8)
    have q15 : look m7 5 = v2 := (k8 5 rfl).trans ((k7 5).trans q9)
    have q16 : look m7 7 = .int .i64 (s1.2.1) := (k8 7 rfl).trans ((k7 7).trans q11)
    refine hK10 _ _ ?_
    refine wp_seq_k ?_; intro K12 hK12
    refine nameF fun m8 k9 => ?_
    obtain ⟨t3, hE4, hF3⟩ := bnd hF2
    have J2 : ∀ (m9 : FM) (w4 : World), (∀ t, has [6, 31, 32, 33, 34, 35, 36, 37, 38, 39, 40] t = false → look m9 t = look m8 t) → look m9 6 = .int .u32 (((t3).toNat : Int)) → HS ⟨S, [], w⟩ S w4 [.osl (v2) (s1.2.2).length 1 cs2 rs1 107] → K12 (fr 53 m9) w4 := by
     clear H; intro m9 w4 k10 q17 H
     have q18 : look m9 0 = v0_ := (k10 0 rfl).trans ((k9 0).trans q13)
     have q19 : look m9 1 = v1_ := (k10 1 rfl).trans ((k9 1).trans q14)
     have q20 : look m9 5 = v2 := (k10 5 rfl).trans ((k9 5).trans q15)
     have q21 : look m9 7 = .int .i64 (s1.2.1) := (k10 7 rfl).trans ((k9 7).trans q16)
     refine hK12 _ _ ?_
     refine sr ?_; intro K14 hK14
     refine p_mv (v := v2) q20 ?_
     refine p_mv q17 ?_
     refine p_val (r_bits (bo := .and) (by simp) rfl rfl (i32_and _ (65535 : UInt32))) ?_
     have g3 : RL S ([Value.int .u32 ((((t3 &&& (65535 : UInt32))).toNat : Int))] ++ ([] : List Value)) ([(t3 &&& (65535 : UInt32))] : List UInt32) := (RL.cons rpU32 RL.nil)
     refine p_of1 (a_bslice (N := 1) (vals := [(0, .int .u32 ((((t3 &&& (65535 : UInt32))).toNat : Int)))]) (l := ([Value.int .u32 ((((t3 &&& (65535 : UInt32))).toNat : Int))] ++ ([] : List Value))) tn63 H rfl rfl rfl g3.len) ?_; clear H; intro w5 v3 H
     generalize ([Value.int .u32 ((((t3 &&& (65535 : UInt32))).toNat : Int))] ++ ([] : List Value)) = cs5 at H g3
     replace H : HS ⟨S, [], w⟩ S w5 [.osl (v3) (([(t3 &&& (65535 : UInt32))] : List UInt32)).length 1 cs5 [] 107, .osl (v2) (s1.2.2).length 1 cs2 rs1 107] := H
     obtain ⟨y3, e3, hF3⟩ := bnd hF3
     refine p_of1 (a_appendX (k := 1) (v2 := v3) tn63 rfl H rfl rfl g2 rfl (H.slW (k := 0) rfl) g3 e3) ?_; clear H; rintro w6 v4 ⟨cs6, rs2, H, g4⟩
     replace H : HS ⟨S, [], w⟩ S w6 [.osl (v3) (([(t3 &&& (65535 : UInt32))] : List UInt32)).length 1 cs5 [] 107, .osl (v4) (y3).length 1 cs6 rs2 107] := H
     replace H := H.sel [1] rfl
     replace H : HS ⟨S, [], w⟩ S w6 [.osl (v4) (y3).length 1 cs6 rs2 107] := H
     refine p_as (v := v4) rfl ?_
     refine xk hK14 ?_; clear hK14
     refine wp_region_lit ?_
     refine p_mv q17 ?_
     refine p_val (r_shr rfl rfl (by decide) (i32_shr _ _)) ?_
     refine p_as (v := .int .u32 ((((i32 (shrI .u32 ((t3).toNat : Int) 16))).toNat : Int))) rfl ?_
     refine wpList_nil ?_
     refine b_norm ?_
     refine xn hK9 ?_; clear hK9
     refine wp_region_lit ?_
     refine p_mv q21 ?_
     refine p_val (r_addI rfl rfl) ?_
     refine p_as (v := .int .i64 ((w64 (s1.2.1 + 1)))) rfl ?_
     refine wpList_nil ?_
     refine x_norm ?_
     replace H : HS ⟨S, [], w⟩ S w6 [.osl (v4) (y3).length 1 cs6 rs2 107] := H
     obtain rfl := osi hF3
     exact ⟨((i32 (shrI .u32 ((t3).toNat : Int) 16)), (w64 (s1.2.1 + 1)), y3), _, rfl, (by (repeat (refine keep_cons rfl ?_)); refine keep_sub k10 rfl ?_; (repeat (refine keep_cons rfl ?_)); refine keep_name k9 ?_; (repeat (refine keep_cons rfl ?_)); refine keep_sub k8 rfl ?_; (repeat (refine keep_cons rfl ?_)); refine keep_name k7 ?_; (repeat (refine keep_cons rfl ?_)); refine keep_sub k6 rfl ?_; (repeat (refine keep_cons rfl ?_)); refine keep_name k5 ?_; (repeat (refine keep_cons rfl ?_)); refine keep_sub k3 rfl ?_; exact kcx), ⟨_, _, _, rfl, rfl, rfl, H, g4⟩, hh1⟩
    refine sr ?_; intro K13 hK13
    refine p_mv ((k9 7).trans q16) ?_
    refine p_mv (v := v1_) ((k9 1).trans q14) ?_
    refine p_val (r_lenR' u63 rfl h1_ H.sub) ?_
    refine p_val (r_lssI rfl rfl) ?_
    refine xk hK13 ?_; clear hK13
    refine c_split (t := decide (s1.2.1 < ((x1).length : Int))) rfl (fun hc4 => ?_) (fun hc4 => ?_)
    ·replace hE4 := cnd_t hE4 hc4
     refine wp_region_lit ?_
     refine p_mv ((k9 6).trans q12) ?_
     refine p_mv (v := v1_) ((k9 1).trans q14) ?_
     refine p_mv ((k9 7).trans q16) ?_
     obtain ⟨y2, e2, hE4⟩ := bnd hE4
     obtain ⟨b2, o6, N2, c2, cs4, hv2, hi2, hc5, hr2⟩ := h1_.get (idx_some e2).2
     refine p_val (r_addrV (i := (s1.2.1 : Int).toNat) u63 tsz107 rfl hv2 rfl (idx_some e2).1 hi2) ?_
     obtain rfl := elU32 hr2
     refine p_val (s_load1 (p := (o6 + (s1.2.1 : Int).toNat * 1)) (o := 0) (v := .int .u32 (((y2).toNat : Int))) to107 H.sub rfl hc5 rfl) ?_
     refine p_val (r_add rfl rfl (i32_wrap _)) ?_
     refine p_as (v := .int .u32 ((((i32 (((t2).toNat : Int) + ((y2).toNat : Int)))).toNat : Int))) rfl ?_
     refine wpList_nil ?_
     refine x_norm ?_
     replace H : HS ⟨S, [], w⟩ S w3 [.osl (v2) (s1.2.2).length 1 cs2 rs1 107] := H
     obtain rfl := osi hE4
     exact J2 _ _ kcx rfl H
    ·replace hE4 := cnd_f hE4 hc4
     refine wp_skip ?_
     refine x_norm ?_
     replace H : HS ⟨S, [], w⟩ S w3 [.osl (v2) (s1.2.2).length 1 cs2 rs1 107] := H
     obtain rfl := osi hE4
     exact J2 _ _ kcx ((k9 6).trans q12) H
   refine sr ?_; intro K11 hK11
   refine p_mv ((k7 7).trans q11) ?_
   refine p_mv (v := v0_) ((k7 0).trans q7) ?_
   refine p_val (r_lenR' u63 rfl h0_ H.sub) ?_
   refine p_val (r_lssI rfl rfl) ?_
   refine xk hK11 ?_; clear hK11
   refine c_split (t := decide (s1.2.1 < ((x0).length : Int))) rfl (fun hc2 => ?_) (fun hc2 => ?_)
   ·replace hE3 := cnd_t hE3 hc2
    refine wp_region_lit ?_
    refine p_mv ((k7 6).trans q10) ?_
    refine p_mv (v := v0_) ((k7 0).trans q7) ?_
    refine p_mv ((k7 7).trans q11) ?_
    obtain ⟨y1, e1, hE3⟩ := bnd hE3
    obtain ⟨b1, o4, N1, c1, cs3, hv1, hi1, hc3, hr1⟩ := h0_.get (idx_some e1).2
    refine p_val (r_addrV (i := (s1.2.1 : Int).toNat) u63 tsz107 rfl hv1 rfl (idx_some e1).1 hi1) ?_
    obtain rfl := elU32 hr1
    refine p_val (s_load1 (p := (o4 + (s1.2.1 : Int).toNat * 1)) (o := 0) (v := .int .u32 (((y1).toNat : Int))) to107 H.sub rfl hc3 rfl) ?_
    refine p_val (r_add rfl rfl (i32_wrap _)) ?_
    refine p_as (v := .int .u32 ((((i32 (((s1.1).toNat : Int) + ((y1).toNat : Int)))).toNat : Int))) rfl ?_
    refine wpList_nil ?_
    refine x_norm ?_
    replace H : HS ⟨S, [], w⟩ S w2 [.osl (v2) (s1.2.2).length 1 cs2 rs1 107] := H
    obtain rfl := osi hE3
    exact J3 _ _ kcx rfl H
   ·replace hE3 := cnd_f hE3 hc2
    refine wp_skip ?_
    refine x_norm ?_
    replace H : HS ⟨S, [], w⟩ S w2 [.osl (v2) (s1.2.2).length 1 cs2 rs1 107] := H
    obtain rfl := osi hE3
    exact J3 _ _ kcx ((k7 6).trans q10) H
  ·replace hb1 := cnd_f hb1 hc1
   refine wp_exit ?_
   refine x_exit ?_
   refine x_exit ?_
   refine b_hit ?_
   refine x_norm ?_
   replace H : HS ⟨S, [], w⟩ S w2 [.osl (v2) (s1.2.2).length 1 cs2 rs1 107] := H
   obtain rfl := osi hb1
   obtain rfl := osi hh1
   obtain rfl := osi hE2
   exact J4 _ _ _ _ _ (by (repeat (refine keep_cons rfl ?_)); refine keep_sub k6 rfl ?_; (repeat (refine keep_cons rfl ?_)); refine keep_name k5 ?_; (repeat (refine keep_cons rfl ?_)); refine keep_sub k3 rfl ?_; (repeat (refine keep_cons rfl ?_)); refine keep_name k2 ?_; exact kcx) (show _ = (v2 : Value) from q9) q10 H g2
 refine p_gs (j := 4) (gvl_at rfl rfl (k5 13)) (fun hb2 => ?_) (fun hb2 => ?_)
 ·skip
  refine p_skip (gvl_at rfl rfl (k5 13)) hb2 ?_
  rw [put_fr]
  refine p_skip (gvl_at rfl rfl (k5 13)) hb2 ?_
  rw [put_fr]
  refine p_skip (gvl_at rfl rfl (k5 13)) hb2 ?_
  rw [put_fr]
  refine p_skip (gvl_at rfl rfl (k5 13)) hb2 ?_
  rw [put_fr]
  refine p_val (r_pickt (v := .bool (true)) (k5 13) hb2 rfl) ?_
  refine hR2 _ _ ?_
  exact J1 _ kcx (show (.bool (true) : Value) = .bool ((bif decide (s1.2.1 < ((x0).length : Int)) then true else decide (s1.2.1 < ((x1).length : Int)))) from congrArg Value.bool (by simp only [hb2, cond_true, cond_false]))
 ·skip
  refine p_want (gvl_at rfl rfl (k5 13)) hb2 ?_
  refine p_mv ((k5 7).trans q3) ?_
  refine p_want (gvl_at rfl rfl (k5 13)) hb2 ?_
  refine p_mv (v := v1_) ((k5 1).trans q5) ?_
  refine p_want (gvl_at rfl rfl (k5 13)) hb2 ?_
  refine p_val (r_lenR' u63 rfl h1_ H.sub) ?_
  refine p_want (gvl_at rfl rfl (k5 13)) hb2 ?_
  refine p_val (r_lssI rfl rfl) ?_
  refine p_val (r_pickf (v := .bool (decide (s1.2.1 < ((x1).length : Int)))) (k5 13) hb2 rfl) ?_
  refine hR2 _ _ ?_
  exact J1 _ kcx (show (.bool (decide (s1.2.1 < ((x1).length : Int))) : Value) = .bool ((bif decide (s1.2.1 < ((x0).length : Int)) then true else decide (s1.2.1 < ((x1).length : Int)))) from congrArg Value.bool (by simp only [hb2, cond_true, cond_false]))
def seneschalref06_Sub_b0 (x0 : List UInt32) (x1 : List UInt32) (s1 : UInt32 × Int × (List UInt32)) : Option ((UInt32 × Int × (List UInt32)) ⊕ ((List UInt32))) :=
  bif decide (s1.2.1 < ((x0).length : Int)) then (Option.bind (idx x0 s1.2.1) fun y1 => Option.bind (bif decide (s1.2.1 < ((x1).length : Int)) then (Option.bind (idx x1 s1.2.1) fun y2 => some ((i32 ((((i32 ((((i32 ((65536 : Int) + ((y1).toNat : Int)))).toNat : Int) - ((s1.1).toNat : Int)))).toNat : Int) - ((y2).toNat : Int))))) else (some ((i32 ((((i32 ((65536 : Int) + ((y1).toNat : Int)))).toNat : Int) - ((s1.1).toNat : Int)))))) (fun t2 => Option.bind (app s1.2.2 ([(t2 &&& (65535 : UInt32))] : List UInt32)) fun y3 => some (.inl (((i32 ((1 : Int) - (((i32 (shrI .u32 ((t2).toNat : Int) 16))).toNat : Int))), (w64 (s1.2.1 + 1)), y3))))) else (some (.inr (s1.2.2)))
def seneschalref06_Sub_p (x0 : List UInt32) (x1 : List UInt32) : Option ((List UInt32)) :=
  Option.bind (Option.bind (iter (seneschalref06_Sub_b0 x0 x1) (((0 : UInt32), 0, ([] : List UInt32)))) (fun e => some (e))) (fun t1 => Option.bind (seneschalref06_trim_p t1) fun y4 => some (y4))
theorem seneschalref06_Sub_c {S : Mem} {w : World} (hS : Sub S w) {v0_ : Value} {x0 : List UInt32} (h0_ : RdS S v0_ x0) {v1_ : Value} {x1 : List UInt32} (h1_ : RdS S v1_ x1) {r : (List UInt32)} (hF : seneschalref06_Sub_p x0 x1 = some r) :
    Calls Tryz.prog 121 #[v0_, v1_] w fun e w' => Ext w w' ∧ ∃ (v0' : Value), e = .returned (v0') ∧ RdS (gr S w w') v0' r := by
 refine enter (n := 43) Tryz.func121 rfl rfl rfl ?_
 have H := HS.start hS
 unfold seneschalref06_Sub_p at hF
 refine sr ?_; intro K1 hK1
 refine p_as (v := .slice none 0 0) rfl ?_
 refine xk hK1 ?_; clear hK1
 refine sr ?_; intro K2 hK2
 have g1 : RL S ([] : List Value) ([] : List UInt32) := RL.nil
 refine p_of1 (a_bslice (N := 0) (vals := []) (l := ([] : List Value)) tn63 H rfl rfl rfl g1.len) ?_; clear H; intro w1 v1 H
 replace H : HS ⟨S, [], w⟩ S w1 [.osl (v1) (([] : List UInt32)).length 1 ([] : List Value) [] 107] := H
 refine p_as (v := v1) rfl ?_
 refine xk hK2 ?_; clear hK2
 refine sr ?_; intro K3 hK3
 refine p_as (v := .int .u32 (0)) rfl ?_
 refine xk hK3 ?_; clear hK3
 refine wp_seq_k ?_; intro K4 hK4
 refine nameF fun m1 k1 => ?_
 obtain ⟨t1, hE1, hF1⟩ := bnd hF
 have J2 : ∀ (v5 : Value) (cs7 rs3 : List Value) (m6 : FM) (w6 : World), (∀ t, has [5, 6, 7, 8, 10, 11, 12, 13, 14, 15, 16, 17, 18, 19, 20, 21, 22, 23, 24, 25, 26, 27, 28, 29, 30, 31, 32, 33, 34, 35, 36, 37, 38, 39, 40] t = false → look m6 t = look m1 t) → look m6 5 = v5 → HS ⟨S, [], w⟩ S w6 [.osl (v5) (t1).length 1 cs7 rs3 107] → RL S cs7 t1 → K4 (fr 43 m6) w6 := by
  clear H; intro v5 cs7 rs3 m6 w6 k7 q11 H g5
  refine hK4 _ _ ?_
  refine sr ?_; intro K13 hK13
  refine p_mv (v := v5) q11 ?_
  obtain ⟨S1, hle1, g6, H1⟩ := H.fixX (k := 0) rfl g5; clear H; have H := H1; clear H1
  replace H : HS ⟨S, [], w⟩ S1 w6 [] := H
  obtain ⟨y4, e4, hF1⟩ := bnd hF1
  refine p_call (l := [v5]) is84 rfl ?_
  refine (seneschalref06_trim_c H.sub g6 e4).mono ?_; rintro _ w7 ⟨hx, v6, rfl, g7⟩
  have hle2 := gr_le (w' := w7) H.sub; replace H := H.call hx; clear hx; generalize gr S1 w6 w7 = S2 at hle2 H g7
  replace g6 := RdS.mono g6 hle2
  refine p_as (v := v6) rfl ?_
  refine xk hK13 ?_; clear hK13
  refine wp_ret ?_
  obtain rfl := osi hF1
  refine e_1 rfl (q_tmp (v := v6) rfl) ?_
  exact ⟨H.toExt, _, rfl, RdS.mono g7 H.gr⟩
 refine sr ?_; intro K5 hK5
 refine p_as (v := .int .i64 (0)) rfl ?_
 refine xk hK5 ?_; clear hK5
 refine wp_block ?_
 refine nameF fun m2 k2 => ?_
 obtain ⟨out1, hL1, hE2⟩ := bnd hE1
 replace H : HS ⟨S, [], w⟩ S w1 [.osl (v1) (([] : List UInt32)).length 1 ([] : List Value) [] 107] := H
 refine loopI [5, 6, 7, 8, 10, 11, 12, 13, 14, 15, 16, 17, 18, 19, 20, 21, 22, 23, 24, 25, 26, 27, 28, 29, 30, 31, 32, 33, 34, 35, 36, 37, 38, 39, 40] (fun (s1 : UInt32 × Int × (List UInt32)) (m3 : FM) (w2 : World) => ∃ (v2 : Value) (cs2 rs1 : List Value), look m3 5 = v2 ∧ look m3 6 = .int .u32 (((s1.1).toNat : Int)) ∧ look m3 7 = .int .i64 (s1.2.1) ∧ HS ⟨S, [], w⟩ S w2 [.osl (v2) (s1.2.2).length 1 cs2 rs1 107] ∧ RL S cs2 s1.2.2) hL1 ⟨_, _, _, (show _ = (v1 : Value) from ((k2 5).trans (k1 5))), ((k2 6).trans (k1 6)), (k2 7), H, g1⟩ ?_
 clear H; intro k4 s1 m3 w2 k3 hI1 o2 hb1 hh1; obtain ⟨v2, cs2, rs1, q1, q2, q3, H, g2⟩ := hI1
 have q4 : look m3 0 = v0_ := (k3 0 rfl).trans ((k2 0).trans (k1 0))
 have q5 : look m3 1 = v1_ := (k3 1 rfl).trans ((k2 1).trans (k1 1))
 unfold seneschalref06_Sub_b0 at hb1
 refine wp_seq_k ?_; intro K6 hK6
 refine sr ?_; intro K7 hK7
 refine p_mv q3 ?_
 refine p_mv (v := v0_) q4 ?_
 refine p_val (r_lenR' u63 rfl h0_ H.sub) ?_
 refine p_val (r_lssI rfl rfl) ?_
 refine xk hK7 ?_; clear hK7
 refine c_split (t := decide (s1.2.1 < ((x0).length : Int))) rfl (fun hc1 => ?_) (fun hc1 => ?_)
 ·replace hb1 := cnd_t hb1 hc1
  refine wp_skip ?_
  refine xn hK6 ?_; clear hK6
  refine wp_seq_k ?_; intro K8 hK8
  refine wp_block ?_
  refine sr ?_; intro K9 hK9
  refine p_mv (v := v0_) q4 ?_
  refine p_mv q3 ?_
  obtain ⟨y1, e1, hb1⟩ := bnd hb1
  obtain ⟨b1, o3, N1, c1, cs3, hv1, hi1, hc2, hr1⟩ := h0_.get (idx_some e1).2
  refine p_val (r_addrV (i := (s1.2.1 : Int).toNat) u63 tsz107 rfl hv1 rfl (idx_some e1).1 hi1) ?_
  obtain rfl := elU32 hr1
  refine p_val (s_load1 (p := (o3 + (s1.2.1 : Int).toNat * 1)) (o := 0) (v := .int .u32 (((y1).toNat : Int))) to107 H.sub rfl hc2 rfl) ?_
  refine p_val (r_add rfl rfl (i32_wrap _)) ?_
  refine p_mv q2 ?_
  refine p_val (r_sub rfl rfl (i32_wrap _)) ?_
  refine p_as (v := .int .u32 ((((i32 ((((i32 ((65536 : Int) + ((y1).toNat : Int)))).toNat : Int) - ((s1.1).toNat : Int)))).toNat : Int))) rfl ?_
  refine xk hK9 ?_; clear hK9
  refine wp_seq_k ?_; intro K10 hK10
  refine nameF fun m4 k5 => ?_
  obtain ⟨t2, hE3, hF2⟩ := bnd hb1
  have J1 : ∀ (m5 : FM) (w3 : World), (∀ t, has [8, 23, 24, 25, 26, 27, 28, 29, 30, 31, 32] t = false → look m5 t = look m4 t) → look m5 8 = .int .u32 (((t2).toNat : Int)) → HS ⟨S, [], w⟩ S w3 [.osl (v2) (s1.2.2).length 1 cs2 rs1 107] → K10 (fr 43 m5) w3 := by
   clear H; intro m5 w3 k6 q6 H
   have q7 : look m5 0 = v0_ := (k6 0 rfl).trans ((k5 0).trans q4)
   have q8 : look m5 1 = v1_ := (k6 1 rfl).trans ((k5 1).trans q5)
   have q9 : look m5 5 = v2 := (k6 5 rfl).trans ((k5 5).trans q1)
   have q10 : look m5 7 = .int .i64 (s1.2.1) := (k6 7 rfl).trans ((k5 7).trans q3)
   refine hK10 _ _ ?_
   refine sr ?_; intro K12 hK12
   refine p_mv (v := v2) q9 ?_
   refine p_mv q6 ?_
   refine p_val (r_bits (bo := .and) (by simp) rfl rfl (i32_and _ (65535 : UInt32))) ?_
   have g3 : RL S ([Value.int .u32 ((((t2 &&& (65535 : UInt32))).toNat : Int))] ++ ([] : List Value)) ([(t2 &&& (65535 : UInt32))] : List UInt32) := (RL.cons rpU32 RL.nil)
   refine p_of1 (a_bslice (N := 1) (vals := [(0, .int .u32 ((((t2 &&& (65535 : UInt32))).toNat : Int)))]) (l := ([Value.int .u32 ((((t2 &&& (65535 : UInt32))).toNat : Int))] ++ ([] : List Value))) tn63 H rfl rfl rfl g3.len) ?_; clear H; intro w4 v3 H
   generalize ([Value.int .u32 ((((t2 &&& (65535 : UInt32))).toNat : Int))] ++ ([] : List Value)) = cs5 at H g3
   replace H : HS ⟨S, [], w⟩ S w4 [.osl (v3) (([(t2 &&& (65535 : UInt32))] : List UInt32)).length 1 cs5 [] 107, .osl (v2) (s1.2.2).length 1 cs2 rs1 107] := H
   obtain ⟨y3, e3, hF2⟩ := bnd hF2
   refine p_of1 (a_appendX (k := 1) (v2 := v3) tn63 rfl H rfl rfl g2 rfl (H.slW (k := 0) rfl) g3 e3) ?_; clear H; rintro w5 v4 ⟨cs6, rs2, H, g4⟩
   replace H : HS ⟨S, [], w⟩ S w5 [.osl (v3) (([(t2 &&& (65535 : UInt32))] : List UInt32)).length 1 cs5 [] 107, .osl (v4) (y3).length 1 cs6 rs2 107] := H
   replace H := H.sel [1] rfl
   replace H : HS ⟨S, [], w⟩ S w5 [.osl (v4) (y3).length 1 cs6 rs2 107] := H
   refine p_as (v := v4) rfl ?_
   refine xk hK12 ?_; clear hK12
   refine wp_region_lit ?_
   refine p_mv q6 ?_
   refine p_val (r_shr rfl rfl (by decide) (i32_shr _ _)) ?_
   refine p_val (r_sub rfl rfl (i32_wrap _)) ?_
   refine p_as (v := .int .u32 ((((i32 ((1 : Int) - (((i32 (shrI .u32 ((t2).toNat : Int) 16))).toNat : Int)))).toNat : Int))) rfl ?_
   refine wpList_nil ?_
   refine b_norm ?_
   refine xn hK8 ?_; clear hK8
   refine wp_region_lit ?_
   refine p_mv q10 ?_
   refine p_val (r_addI rfl rfl) ?_
   refine p_as (v := .int .i64 ((w64 (s1.2.1 + 1)))) rfl ?_
   refine wpList_nil ?_
   refine x_norm ?_
   replace H : HS ⟨S, [], w⟩ S w5 [.osl (v4) (y3).length 1 cs6 rs2 107] := H
   obtain rfl := osi hF2
   exact ⟨((i32 ((1 : Int) - (((i32 (shrI .u32 ((t2).toNat : Int) 16))).toNat : Int))), (w64 (s1.2.1 + 1)), y3), _, rfl, (by (repeat (refine keep_cons rfl ?_)); refine keep_sub k6 rfl ?_; (repeat (refine keep_cons rfl ?_)); refine keep_name k5 ?_; (repeat (refine keep_cons rfl ?_)); refine keep_sub k3 rfl ?_; exact kcx), ⟨_, _, _, rfl, rfl, rfl, H, g4⟩, hh1⟩
  refine sr ?_; intro K11 hK11
  refine p_mv ((k5 7).trans q3) ?_
  refine p_mv (v := v1_) ((k5 1).trans q5) ?_
  refine p_val (r_lenR' u63 rfl h1_ H.sub) ?_
  refine p_val (r_lssI rfl rfl) ?_
  refine xk hK11 ?_; clear hK11
  refine c_split (t := decide (s1.2.1 < ((x1).length : Int))) rfl (fun hc3 => ?_) (fun hc3 => ?_)
  ·replace hE3 := cnd_t hE3 hc3
   refine wp_region_lit ?_
   refine p_mv (k5 8) ?_
   refine p_mv (v := v1_) ((k5 1).trans q5) ?_
   refine p_mv ((k5 7).trans q3) ?_
   obtain ⟨y2, e2, hE3⟩ := bnd hE3
   obtain ⟨b2, o5, N2, c2, cs4, hv2, hi2, hc4, hr2⟩ := h1_.get (idx_some e2).2
   refine p_val (r_addrV (i := (s1.2.1 : Int).toNat) u63 tsz107 rfl hv2 rfl (idx_some e2).1 hi2) ?_
   obtain rfl := elU32 hr2
   refine p_val (s_load1 (p := (o5 + (s1.2.1 : Int).toNat * 1)) (o := 0) (v := .int .u32 (((y2).toNat : Int))) to107 H.sub rfl hc4 rfl) ?_
   refine p_val (r_sub rfl rfl (i32_wrap _)) ?_
   refine p_as (v := .int .u32 ((((i32 ((((i32 ((((i32 ((65536 : Int) + ((y1).toNat : Int)))).toNat : Int) - ((s1.1).toNat : Int)))).toNat : Int) - ((y2).toNat : Int)))).toNat : Int))) rfl ?_
   refine wpList_nil ?_
   refine x_norm ?_
   replace H : HS ⟨S, [], w⟩ S w2 [.osl (v2) (s1.2.2).length 1 cs2 rs1 107] := H
   obtain rfl := osi hE3
   exact J1 _ _ kcx rfl H
  ·replace hE3 := cnd_f hE3 hc3
   refine wp_skip ?_
   refine x_norm ?_
   replace H : HS ⟨S, [], w⟩ S w2 [.osl (v2) (s1.2.2).length 1 cs2 rs1 107] := H
   obtain rfl := osi hE3
   exact J1 _ _ kcx (k5 8) H
 ·replace hb1 := cnd_f hb1 hc1
  refine wp_exit ?_
  refine x_exit ?_
  refine x_exit ?_
  refine b_hit ?_
  refine x_norm ?_
  replace H : HS ⟨S, [], w⟩ S w2 [.osl (v2) (s1.2.2).length 1 cs2 rs1 107] := H
  obtain rfl := osi hb1
  obtain rfl := osi hh1
  obtain rfl := osi hE2
  exact J2 _ _ _ _ _ (by (repeat (refine keep_cons rfl ?_)); refine keep_sub k3 rfl ?_; (repeat (refine keep_cons rfl ?_)); refine keep_name k2 ?_; exact kcx) (show _ = (v2 : Value) from q1) H g2
def seneschalref06_Mul_b1 (x0 : List UInt32) (x1 : List UInt32) (s1 : Int × (List UInt32)) (s2 : UInt64 × Int × (List UInt32)) : Option ((UInt64 × Int × (List UInt32)) ⊕ (UInt64 × (List UInt32))) :=
  bif decide (s2.2.1 < ((x1).length : Int)) then (Option.bind (idx s2.2.2 (w64 (s1.1 + s2.2.1))) fun y2 => Option.bind (idx x0 s1.1) fun y3 => Option.bind (idx x1 s2.2.1) fun y4 => Option.bind (idx s2.2.2 (w64 (s1.1 + s2.2.1))) fun y5 => Option.bind (setL s2.2.2 ((w64 (s1.1 + s2.2.1)) : Int) (i32 ((((i64 (((s2.1).toNat : Int) + (((i64 ((((i64 ((y2).toNat : Int))).toNat : Int) + (((i64 ((((i64 ((y3).toNat : Int))).toNat : Int) * (((i64 ((y4).toNat : Int))).toNat : Int)))).toNat : Int)))).toNat : Int))) &&& (65535 : UInt64))).toNat : Int))) fun y6 => some (.inl (((i64 (shrI .u64 (((i64 (((s2.1).toNat : Int) + (((i64 ((((i64 ((y2).toNat : Int))).toNat : Int) + (((i64 ((((i64 ((y3).toNat : Int))).toNat : Int) * (((i64 ((y4).toNat : Int))).toNat : Int)))).toNat : Int)))).toNat : Int)))).toNat : Int) 16)), (w64 (s2.2.1 + 1)), y6)))) else (some (.inr ((s2.1, s2.2.2))))
def seneschalref06_Mul_b0 (x0 : List UInt32) (x1 : List UInt32) (s1 : Int × (List UInt32)) : Option ((Int × (List UInt32)) ⊕ ((List UInt32))) :=
  bif decide (s1.1 < ((x0).length : Int)) then (Option.bind (Option.bind (Option.bind (iter (seneschalref06_Mul_b1 x0 x1 s1) (((0 : UInt64), 0, s1.2))) (fun e => some (e))) (fun t3 => Option.bind (idx t3.2 (w64 (s1.1 + ((x1).length : Int)))) fun y7 => Option.bind (setL t3.2 ((w64 (s1.1 + ((x1).length : Int))) : Int) (i32 ((t3.1).toNat : Int))) fun y8 => some (y8))) (fun t2 => some (.inl (((w64 (s1.1 + 1)), t2))))) else (some (.inr (s1.2)))
def seneschalref06_Mul_p (x0 : List UInt32) (x1 : List UInt32) : Option ((List UInt32)) :=
  Option.bind (mkL (w64 (((x0).length : Int) + ((x1).length : Int))) (0 : UInt32)) fun y1 => Option.bind (Option.bind (iter (seneschalref06_Mul_b0 x0 x1) ((0, y1))) (fun e => some (e))) (fun t1 => Option.bind (seneschalref06_trim_p t1) fun y9 => some (y9))
theorem seneschalref06_Mul_c {S : Mem} {w : World} (hS : Sub S w) {v0_ : Value} {x0 : List UInt32} (h0_ : RdS S v0_ x0) {v1_ : Value} {x1 : List UInt32} (h1_ : RdS S v1_ x1) {r : (List UInt32)} (hF : seneschalref06_Mul_p x0 x1 = some r) :
    Calls Tryz.prog 123 #[v0_, v1_] w fun e w' => Ext w w' ∧ ∃ (v0' : Value), e = .returned (v0') ∧ RdS (gr S w w') v0' r := by
 refine enter (n := 68) Tryz.func123 rfl rfl rfl ?_
 have H := HS.start hS
 unfold seneschalref06_Mul_p at hF
 refine sr ?_; intro K1 hK1
 refine p_as (v := .slice none 0 0) rfl ?_
 refine xk hK1 ?_; clear hK1
 refine sr ?_; intro K2 hK2
 refine p_mv (v := v0_) rfl ?_
 refine p_val (r_lenR' u63 rfl h0_ H.sub) ?_
 refine p_mv (v := v1_) rfl ?_
 refine p_val (r_lenR' u63 rfl h1_ H.sub) ?_
 refine p_val (r_addI rfl rfl) ?_
 obtain ⟨y1, e1, hF⟩ := bnd hF
 refine p_of1 (a_makeX (zx := (0 : UInt32)) tn63 rfl H rfl rfl (rpU32c (x := (0 : UInt32)) rfl) e1 (Int.le_refl _) (mkL_some e1).2.1) ?_; clear H; rintro w1 v1 ⟨cs1, rs1, H, g1⟩
 replace H : HS ⟨S, [], w⟩ S w1 [.osl (v1) (y1).length 1 cs1 rs1 107] := H
 refine p_as (v := v1) rfl ?_
 refine xk hK2 ?_; clear hK2
 refine wp_seq_k ?_; intro K3 hK3
 refine nameF fun m1 k1 => ?_
 obtain ⟨t1, hE1, hF1⟩ := bnd hF
 have J3 : ∀ (cs11 rs6 : List Value) (m10 : FM) (w9 : World), (∀ t, has [6, 7, 8, 15, 16, 17, 18, 19, 20, 21, 22, 23, 24, 25, 26, 27, 28, 29, 30, 31, 32, 33, 34, 35, 36, 37, 38, 39, 40, 41, 42, 43, 44, 45, 46, 47, 48, 49, 50, 51, 52, 53, 54, 55, 56, 57, 58, 59, 60, 61, 62, 63, 64, 65] t = false → look m10 t = look m1 t) → HS ⟨S, [], w⟩ S w9 [.osl (v1) (t1).length 1 cs11 rs6 107] → RL S cs11 t1 → K3 (fr 68 m10) w9 := by
  clear H; intro cs11 rs6 m10 w9 k12 H g8
  have q20 : look m10 5 = v1 := (k12 5 rfl).trans (k1 5)
  refine hK3 _ _ ?_
  refine sr ?_; intro K16 hK16
  refine p_mv (v := v1) q20 ?_
  obtain ⟨S1, hle1, g9, H1⟩ := H.fixX (k := 0) rfl g8; clear H; have H := H1; clear H1
  replace H : HS ⟨S, [], w⟩ S1 w9 [] := H
  obtain ⟨y9, e9, hF1⟩ := bnd hF1
  refine p_call (l := [v1]) is84 rfl ?_
  refine (seneschalref06_trim_c H.sub g9 e9).mono ?_; rintro _ w10 ⟨hx, v7, rfl, g10⟩
  have hle2 := gr_le (w' := w10) H.sub; replace H := H.call hx; clear hx; generalize gr S1 w9 w10 = S2 at hle2 H g10
  replace g9 := RdS.mono g9 hle2
  refine p_as (v := v7) rfl ?_
  refine xk hK16 ?_; clear hK16
  refine wp_ret ?_
  obtain rfl := osi hF1
  refine e_1 rfl (q_tmp (v := v7) rfl) ?_
  exact ⟨H.toExt, _, rfl, RdS.mono g10 H.gr⟩
 refine sr ?_; intro K4 hK4
 refine p_as (v := .int .i64 (0)) rfl ?_
 refine xk hK4 ?_; clear hK4
 refine wp_block ?_
 refine nameF fun m2 k2 => ?_
 obtain ⟨out1, hL1, hE2⟩ := bnd hE1
 replace H : HS ⟨S, [], w⟩ S w1 [.osl (v1) (y1).length 1 cs1 rs1 107] := H
 refine loopI [6, 7, 8, 15, 16, 17, 18, 19, 20, 21, 22, 23, 24, 25, 26, 27, 28, 29, 30, 31, 32, 33, 34, 35, 36, 37, 38, 39, 40, 41, 42, 43, 44, 45, 46, 47, 48, 49, 50, 51, 52, 53, 54, 55, 56, 57, 58, 59, 60, 61, 62, 63, 64, 65] (fun (s1 : Int × (List UInt32)) (m3 : FM) (w2 : World) => ∃ (cs2 rs2 : List Value), look m3 6 = .int .i64 (s1.1) ∧ HS ⟨S, [], w⟩ S w2 [.osl (v1) (s1.2).length 1 cs2 rs2 107] ∧ RL S cs2 s1.2) hL1 ⟨_, _, (k2 6), H, g1⟩ ?_
 clear H; intro k4 s1 m3 w2 k3 hI1 o2 hb1 hh1; obtain ⟨cs2, rs2, q1, H, g2⟩ := hI1
 have q2 : look m3 0 = v0_ := (k3 0 rfl).trans ((k2 0).trans (k1 0))
 have q3 : look m3 1 = v1_ := (k3 1 rfl).trans ((k2 1).trans (k1 1))
 have q4 : look m3 5 = v1 := (k3 5 rfl).trans ((k2 5).trans (k1 5))
 unfold seneschalref06_Mul_b0 at hb1
 refine wp_seq_k ?_; intro K5 hK5
 refine sr ?_; intro K6 hK6
 refine p_mv q1 ?_
 refine p_mv (v := v0_) q2 ?_
 refine p_val (r_lenR' u63 rfl h0_ H.sub) ?_
 refine p_val (r_lssI rfl rfl) ?_
 refine xk hK6 ?_; clear hK6
 refine c_split (t := decide (s1.1 < ((x0).length : Int))) rfl (fun hc1 => ?_) (fun hc1 => ?_)
 ·replace hb1 := cnd_t hb1 hc1
  refine wp_skip ?_
  refine xn hK5 ?_; clear hK5
  refine wp_seq_k ?_; intro K7 hK7
  refine nameF fun m4 k5 => ?_
  obtain ⟨t2, hE3, hF2⟩ := bnd hb1
  have J2 : ∀ (cs10 rs5 : List Value) (m9 : FM) (w8 : World), (∀ t, has [7, 8, 21, 22, 23, 24, 25, 26, 27, 28, 29, 30, 31, 32, 33, 34, 35, 36, 37, 38, 39, 40, 41, 42, 43, 44, 45, 46, 47, 48, 49, 50, 51, 52, 53, 54, 55, 56, 57, 58, 59, 60, 61, 62, 63, 64, 65] t = false → look m9 t = look m4 t) → HS ⟨S, [], w⟩ S w8 [.osl (v1) (t2).length 1 cs10 rs5 107] → RL S cs10 t2 → K7 (fr 68 m9) w8 := by
   clear H; intro cs10 rs5 m9 w8 k11 H g7
   have q16 : look m9 0 = v0_ := (k11 0 rfl).trans ((k5 0).trans q2)
   have q17 : look m9 1 = v1_ := (k11 1 rfl).trans ((k5 1).trans q3)
   have q18 : look m9 5 = v1 := (k11 5 rfl).trans ((k5 5).trans q4)
   have q19 : look m9 6 = .int .i64 (s1.1) := (k11 6 rfl).trans ((k5 6).trans q1)
   refine hK7 _ _ ?_
   refine wp_region_lit ?_
   refine p_mv q19 ?_
   refine p_val (r_addI rfl rfl) ?_
   refine p_as (v := .int .i64 ((w64 (s1.1 + 1)))) rfl ?_
   refine wpList_nil ?_
   refine x_norm ?_
   replace H : HS ⟨S, [], w⟩ S w8 [.osl (v1) (t2).length 1 cs10 rs5 107] := H
   obtain rfl := osi hF2
   exact ⟨((w64 (s1.1 + 1)), t2), _, rfl, (by (repeat (refine keep_cons rfl ?_)); refine keep_sub k11 rfl ?_; (repeat (refine keep_cons rfl ?_)); refine keep_name k5 ?_; (repeat (refine keep_cons rfl ?_)); refine keep_sub k3 rfl ?_; exact kcx), ⟨_, _, rfl, H, g7⟩, hh1⟩
  refine wp_block ?_
  refine sr ?_; intro K8 hK8
  refine p_as (v := .int .u64 (0)) rfl ?_
  refine xk hK8 ?_; clear hK8
  refine wp_seq_k ?_; intro K9 hK9
  refine nameF fun m5 k6 => ?_
  obtain ⟨t3, hE4, hF3⟩ := bnd hE3
  have J1 : ∀ (cs8 rs4 : List Value) (m8 : FM) (w6 : World), (∀ t, has [7, 8, 21, 22, 23, 24, 25, 26, 27, 28, 29, 30, 31, 32, 33, 34, 35, 36, 37, 38, 39, 40, 41, 42, 43, 44, 45, 46, 47, 48, 49, 50, 51, 52, 53, 54, 55, 56, 57] t = false → look m8 t = look m5 t) → look m8 7 = .int .u64 (((t3.1).toNat : Int)) → HS ⟨S, [], w⟩ S w6 [.osl (v1) (t3.2).length 1 cs8 rs4 107] → RL S cs8 t3.2 → K9 (fr 68 m8) w6 := by
   clear H; intro cs8 rs4 m8 w6 k10 q11 H g5
   have q12 : look m8 0 = v0_ := (k10 0 rfl).trans ((k6 0).trans ((k5 0).trans q2))
   have q13 : look m8 1 = v1_ := (k10 1 rfl).trans ((k6 1).trans ((k5 1).trans q3))
   have q14 : look m8 5 = v1 := (k10 5 rfl).trans ((k6 5).trans ((k5 5).trans q4))
   have q15 : look m8 6 = .int .i64 (s1.1) := (k10 6 rfl).trans ((k6 6).trans ((k5 6).trans q1))
   refine hK9 _ _ ?_
   refine wp_region_lit ?_
   refine p_mv (v := v1) q14 ?_
   refine p_mv q15 ?_
   refine p_mv (v := v1_) q13 ?_
   refine p_val (r_lenR' u63 rfl h1_ H.sub) ?_
   refine p_val (r_addI rfl rfl) ?_
   refine p_mv q11 ?_
   refine p_val (r_conv u22 u107 rfl (i32_wrap _)) ?_
   obtain ⟨y7, e7, hF3⟩ := bnd hF3
   obtain ⟨b5, c5, hv5⟩ := H.ownAt (k := 0) rfl (idx_lt e7)
   refine p_val (r_addrV (i := ((w64 (s1.1 + ((x1).length : Int))) : Int).toNat) u63 tsz107 rfl hv5 rfl (idx_some e7).1 (idx_lt e7)) ?_
   subst hv5
   obtain ⟨y8, e8, hF3⟩ := bnd hF3
   refine p_ofs (a_storeX (k := 0) (v := .int .u32 ((((i32 ((t3.1).toNat : Int))).toNat : Int))) (l := [Value.int .u32 ((((i32 ((t3.1).toNat : Int))).toNat : Int))]) tsz107 rfl H rfl g5 rfl rfl (cells_one rfl) rpU32 e8) ?_; clear H; rintro w7 ⟨cs9, H, g6⟩
   replace H : HS ⟨S, [], w⟩ S w7 [.osl (sl b5 0 (t3.2).length c5) (y8).length 1 cs9 rs4 107] := H
   refine wpList_nil ?_
   refine b_norm ?_
   refine x_norm ?_
   replace H : HS ⟨S, [], w⟩ S w7 [.osl (sl b5 0 (t3.2).length c5) (y8).length 1 cs9 rs4 107] := H
   obtain rfl := osi hF3
   exact J2 _ _ _ _ (by (repeat (refine keep_cons rfl ?_)); refine keep_sub k10 rfl ?_; (repeat (refine keep_cons rfl ?_)); refine keep_name k6 ?_; exact kcx) H g6
  refine sr ?_; intro K10 hK10
  refine p_as (v := .int .i64 (0)) rfl ?_
  refine xk hK10 ?_; clear hK10
  refine wp_block ?_
  refine nameF fun m6 k7 => ?_
  obtain ⟨out2, hL2, hE5⟩ := bnd hE4
  replace H : HS ⟨S, [], w⟩ S w2 [.osl (v1) (s1.2).length 1 cs2 rs2 107] := H
  refine loopI [7, 8, 21, 22, 23, 24, 25, 26, 27, 28, 29, 30, 31, 32, 33, 34, 35, 36, 37, 38, 39, 40, 41, 42, 43, 44, 45, 46, 47, 48, 49, 50, 51, 52, 53, 54, 55, 56, 57] (fun (s2 : UInt64 × Int × (List UInt32)) (m7 : FM) (w3 : World) => ∃ (cs3 rs3 : List Value), look m7 7 = .int .u64 (((s2.1).toNat : Int)) ∧ look m7 8 = .int .i64 (s2.2.1) ∧ HS ⟨S, [], w⟩ S w3 [.osl (v1) (s2.2.2).length 1 cs3 rs3 107] ∧ RL S cs3 s2.2.2) hL2 ⟨_, _, ((k7 7).trans (k6 7)), (k7 8), H, g2⟩ ?_
  clear H; intro k9 s2 m7 w3 k8 hI2 o5 hb2 hh2; obtain ⟨cs3, rs3, q5, q6, H, g3⟩ := hI2
  have q7 : look m7 0 = v0_ := (k8 0 rfl).trans ((k7 0).trans ((k6 0).trans ((k5 0).trans q2)))
  have q8 : look m7 1 = v1_ := (k8 1 rfl).trans ((k7 1).trans ((k6 1).trans ((k5 1).trans q3)))
  have q9 : look m7 5 = v1 := (k8 5 rfl).trans ((k7 5).trans ((k6 5).trans ((k5 5).trans q4)))
  have q10 : look m7 6 = .int .i64 (s1.1) := (k8 6 rfl).trans ((k7 6).trans ((k6 6).trans ((k5 6).trans q1)))
  unfold seneschalref06_Mul_b1 at hb2
  refine wp_seq_k ?_; intro K11 hK11
  refine sr ?_; intro K12 hK12
  refine p_mv q6 ?_
  refine p_mv (v := v1_) q8 ?_
  refine p_val (r_lenR' u63 rfl h1_ H.sub) ?_
  refine p_val (r_lssI rfl rfl) ?_
  refine xk hK12 ?_; clear hK12
  refine c_split (t := decide (s2.2.1 < ((x1).length : Int))) rfl (fun hc2 => ?_) (fun hc2 => ?_)
  ·replace hb2 := cnd_t hb2 hc2
   refine wp_skip ?_
   refine xn hK11 ?_; clear hK11
   refine wp_seq_k ?_; intro K13 hK13
   refine wp_block ?_
   refine wp_seq_k ?_; intro K14 hK14
   obtain ⟨y2, e2, hb2⟩ := bnd hb2
   obtain ⟨b1, c1, hv1⟩ := H.ownAt (k := 0) rfl (idx_lt e2)
   subst hv1
   have hr1 := RL.get g3 (idx_some e2).2; generalize hghr1 : piece cs3 _ _ = cs4 at hr1
   obtain rfl := elU32 hr1
   obtain ⟨y3, e3, hb2⟩ := bnd hb2
   obtain ⟨b2, o6, N1, c2, cs5, hv2, hi1, hc3, hr2⟩ := h0_.get (idx_some e3).2
   obtain rfl := elU32 hr2
   obtain ⟨y4, e4, hb2⟩ := bnd hb2
   obtain ⟨b3, o7, N2, c3, cs6, hv3, hi2, hc4, hr3⟩ := h1_.get (idx_some e4).2
   obtain rfl := elU32 hr3
   apply wp_region_ext 21 (kindsF []) rfl rfl (by kernel_rfl); intro vs1
   simp only [tkS, tkZ, drS, drZ]
   replace H := H.drew
   refine t_v (fun w hx => r_move q5) ?_
   refine t_v (fun w hx => r_move (v := (sl b1 0 (s2.2.2).length c1)) q9) ?_
   refine t_v (fun w hx => r_move q10) ?_
   refine t_v (fun w hx => r_move q6) ?_
   refine t_v (fun w hx => r_addI rfl rfl) ?_
   refine t_v (fun w hx => r_addrV (i := ((w64 (s1.1 + s2.2.1)) : Int).toNat) u63 tsz107 rfl rfl rfl (idx_some e2).1 (idx_lt e2)) ?_
   refine t_v (fun w hx => o_load1 (v := .int .u32 (((y2).toNat : Int))) to107 (H.ext hx) (k := 0) rfl rfl (idx_lt e2) hghr1) ?_
   refine t_v (fun w hx => r_conv u107 u22 rfl (i64_wrap _)) ?_
   refine t_v (fun w hx => r_move (v := v0_) q7) ?_
   refine t_v (fun w hx => r_move q10) ?_
   refine t_v (fun w hx => r_addrV (i := (s1.1 : Int).toNat) u63 tsz107 rfl hv2 rfl (idx_some e3).1 hi1) ?_
   refine t_v (fun w hx => s_load1 (p := (o6 + (s1.1 : Int).toNat * 1)) (o := 0) (v := .int .u32 (((y3).toNat : Int))) to107 (H.ext hx).sub rfl hc3 rfl) ?_
   refine t_v (fun w hx => r_conv u107 u22 rfl (i64_wrap _)) ?_
   refine t_v (fun w hx => r_move (v := v1_) q8) ?_
   refine t_v (fun w hx => r_move q6) ?_
   refine t_v (fun w hx => r_addrV (i := (s2.2.1 : Int).toNat) u63 tsz107 rfl hv3 rfl (idx_some e4).1 hi2) ?_
   refine t_v (fun w hx => s_load1 (p := (o7 + (s2.2.1 : Int).toNat * 1)) (o := 0) (v := .int .u32 (((y4).toNat : Int))) to107 (H.ext hx).sub rfl hc4 rfl) ?_
   refine t_v (fun w hx => r_conv u107 u22 rfl (i64_wrap _)) ?_
   refine t_v (fun w hx => r_mul rfl rfl (i64_wrap _)) ?_
   refine t_v (fun w hx => r_add rfl rfl (i64_wrap _)) ?_
   refine t_v (fun w hx => r_add rfl rfl (i64_wrap _)) ?_
   refine t_nil (fun w4 hx hF hA => ?_)
   replace H := H.ext hx; clear hx hF hA
   refine p_as (v := .int .u64 ((((i64 (((s2.1).toNat : Int) + (((i64 ((((i64 ((y2).toNat : Int))).toNat : Int) + (((i64 ((((i64 ((y3).toNat : Int))).toNat : Int) * (((i64 ((y4).toNat : Int))).toNat : Int)))).toNat : Int)))).toNat : Int)))).toNat : Int))) rfl ?_
   refine wpList_nil ?_; refine on_norm ?_
   refine xn hK14 ?_; clear hK14
   refine sr ?_; intro K15 hK15
   refine p_mv (v := sl b1 0 (s2.2.2).length c1) q9 ?_
   refine p_mv q10 ?_
   refine p_mv q6 ?_
   refine p_val (r_addI rfl rfl) ?_
   refine p_mv (v := .int .u64 ((((i64 (((s2.1).toNat : Int) + (((i64 ((((i64 ((y2).toNat : Int))).toNat : Int) + (((i64 ((((i64 ((y3).toNat : Int))).toNat : Int) * (((i64 ((y4).toNat : Int))).toNat : Int)))).toNat : Int)))).toNat : Int)))).toNat : Int))) rfl ?_
   refine p_val (r_bits (bo := .and) (by simp) rfl rfl (i64_and _ (65535 : UInt64))) ?_
   refine p_val (r_conv u22 u107 rfl (i32_wrap _)) ?_
   obtain ⟨y5, e5, hb2⟩ := bnd hb2
   refine p_val (r_addrV (i := ((w64 (s1.1 + s2.2.1)) : Int).toNat) u63 tsz107 rfl (HS.ownV H (k := 0) rfl) rfl (idx_some e5).1 (idx_lt e5)) ?_
   obtain ⟨y6, e6, hb2⟩ := bnd hb2
   refine p_ofs (a_storeX (k := 0) (v := .int .u32 ((((i32 ((((i64 (((s2.1).toNat : Int) + (((i64 ((((i64 ((y2).toNat : Int))).toNat : Int) + (((i64 ((((i64 ((y3).toNat : Int))).toNat : Int) * (((i64 ((y4).toNat : Int))).toNat : Int)))).toNat : Int)))).toNat : Int))) &&& (65535 : UInt64))).toNat : Int))).toNat : Int))) (l := [Value.int .u32 ((((i32 ((((i64 (((s2.1).toNat : Int) + (((i64 ((((i64 ((y2).toNat : Int))).toNat : Int) + (((i64 ((((i64 ((y3).toNat : Int))).toNat : Int) * (((i64 ((y4).toNat : Int))).toNat : Int)))).toNat : Int)))).toNat : Int))) &&& (65535 : UInt64))).toNat : Int))).toNat : Int))]) tsz107 rfl H rfl g3 rfl rfl (cells_one rfl) rpU32 e6) ?_; clear H; rintro w5 ⟨cs7, H, g4⟩
   replace H : HS ⟨S, [], w⟩ S w5 [.osl (sl b1 0 (s2.2.2).length c1) (y6).length 1 cs7 rs3 107] := H
   refine xk hK15 ?_; clear hK15
   refine wp_region_lit ?_
   refine p_mv (v := .int .u64 ((((i64 (((s2.1).toNat : Int) + (((i64 ((((i64 ((y2).toNat : Int))).toNat : Int) + (((i64 ((((i64 ((y3).toNat : Int))).toNat : Int) * (((i64 ((y4).toNat : Int))).toNat : Int)))).toNat : Int)))).toNat : Int)))).toNat : Int))) rfl ?_
   refine p_val (r_shr rfl rfl (by decide) (i64_shr _ _)) ?_
   refine p_as (v := .int .u64 ((((i64 (shrI .u64 (((i64 (((s2.1).toNat : Int) + (((i64 ((((i64 ((y2).toNat : Int))).toNat : Int) + (((i64 ((((i64 ((y3).toNat : Int))).toNat : Int) * (((i64 ((y4).toNat : Int))).toNat : Int)))).toNat : Int)))).toNat : Int)))).toNat : Int) 16))).toNat : Int))) rfl ?_
   refine wpList_nil ?_
   refine b_norm ?_
   refine xn hK13 ?_; clear hK13
   refine wp_region_lit ?_
   refine p_mv q6 ?_
   refine p_val (r_addI rfl rfl) ?_
   refine p_as (v := .int .i64 ((w64 (s2.2.1 + 1)))) rfl ?_
   refine wpList_nil ?_
   refine x_norm ?_
   replace H : HS ⟨S, [], w⟩ S w5 [.osl (sl b1 0 (s2.2.2).length c1) (y6).length 1 cs7 rs3 107] := H
   obtain rfl := osi hb2
   exact ⟨((i64 (shrI .u64 (((i64 (((s2.1).toNat : Int) + (((i64 ((((i64 ((y2).toNat : Int))).toNat : Int) + (((i64 ((((i64 ((y3).toNat : Int))).toNat : Int) * (((i64 ((y4).toNat : Int))).toNat : Int)))).toNat : Int)))).toNat : Int)))).toNat : Int) 16)), (w64 (s2.2.1 + 1)), y6), _, rfl, (by (repeat (refine keep_cons rfl ?_)); refine keep_sub k8 rfl ?_; exact kcx), ⟨_, _, rfl, rfl, H, g4⟩, hh2⟩
  ·replace hb2 := cnd_f hb2 hc2
   refine wp_exit ?_
   refine x_exit ?_
   refine x_exit ?_
   refine b_hit ?_
   refine x_norm ?_
   replace H : HS ⟨S, [], w⟩ S w3 [.osl (v1) (s2.2.2).length 1 cs3 rs3 107] := H
   obtain rfl := osi hb2
   obtain rfl := osi hh2
   obtain rfl := osi hE5
   exact J1 _ _ _ _ (by (repeat (refine keep_cons rfl ?_)); refine keep_sub k8 rfl ?_; (repeat (refine keep_cons rfl ?_)); refine keep_name k7 ?_; exact kcx) q5 H g3
 ·replace hb1 := cnd_f hb1 hc1
  refine wp_exit ?_
  refine x_exit ?_
  refine x_exit ?_
  refine b_hit ?_
  refine x_norm ?_
  replace H : HS ⟨S, [], w⟩ S w2 [.osl (v1) (s1.2).length 1 cs2 rs2 107] := H
  obtain rfl := osi hb1
  obtain rfl := osi hh1
  obtain rfl := osi hE2
  exact J3 _ _ _ _ (by (repeat (refine keep_cons rfl ?_)); refine keep_sub k3 rfl ?_; (repeat (refine keep_cons rfl ?_)); refine keep_name k2 ?_; exact kcx) H g2
end Go.Proofs.YtmbcolbbekbccaaGreat
