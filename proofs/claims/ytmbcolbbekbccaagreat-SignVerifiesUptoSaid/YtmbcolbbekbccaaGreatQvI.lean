/- What some functions compute, and that they do. Conditions: as each theorem says. -/
import Derived.Test.YtmbcolbbekbccaaGreatQvH
namespace Go.Proofs.YtmbcolbbekbccaaGreat
open Go Go.RowKit
attribute [local irreducible] wpList wpT Code.wp Calls Code.rounds
theorem is118 : IsFn Tryz.prog 118 := isFn Tryz.func118
theorem is119 : IsFn Tryz.prog 119 := isFn Tryz.func119
theorem is120 : IsFn Tryz.prog 120 := isFn Tryz.func120
theorem is122 : IsFn Tryz.prog 122 := isFn Tryz.func122
def r6_half_b0 (x0 : List UInt32) (s1 : UInt32 × Int × (List UInt32)) : Option ((UInt32 × Int × (List UInt32)) ⊕ ((List UInt32))) :=
  bif decide ((0 : Int) ≤ s1.2.1) then (Option.bind (idx x0 s1.2.1) fun y2 => Option.bind (idx s1.2.2 s1.2.1) fun y3 => Option.bind (setL s1.2.2 (s1.2.1 : Int) (i32 (shrI .u32 ((((i32 (shlI .u32 ((s1.1).toNat : Int) 16)) ||| y2)).toNat : Int) 1))) fun y4 => some (.inl (((((i32 (shlI .u32 ((s1.1).toNat : Int) 16)) ||| y2) &&& (1 : UInt32)), (w64 (s1.2.1 - 1)), y4)))) else (some (.inr (s1.2.2)))
def r6_half_p (x0 : List UInt32) : Option ((List UInt32)) :=
  Option.bind (mkL ((x0).length : Int) (0 : UInt32)) fun y1 => Option.bind (Option.bind (iter (r6_half_b0 x0) (((0 : UInt32), (w64 (((x0).length : Int) - 1)), y1))) (fun e => some (e))) (fun t1 => Option.bind (r6_trim_p t1) fun y5 => some (y5))
theorem r6_half_c {S : Mem} {w : World} (hS : Sub S w) {v0_ : Value} {x0 : List UInt32} (h0_ : RdS S v0_ x0) {r : (List UInt32)} (hF : r6_half_p x0 = some r) :
    Calls Tryz.prog 119 #[v0_] w fun e w' => Ext w w' ∧ ∃ (v0' : Value), e = .returned (v0') ∧ RdS (gr S w w') v0' r := by
 refine enter (n := 33) Tryz.func119 rfl rfl rfl ?_
 have H := HS.start hS
 unfold r6_half_p at hF
 refine sr fun K1 hK1 => asN rfl <| xk hK1 <| sr fun K2 hK2 => p_mv (v := v0_) rfl <| p_val (r_lenR' u63 rfl h0_ H.sub) <| bn hF fun y1 e1 hF => p_of3 (a_makeX (zx := (0 : UInt32)) tn63 rfl H rfl rfl (rpU32c (x := (0 : UInt32)) rfl) e1 (Int.le_refl _) (mkL_some e1).2.1) fun w1 v1 cs1 rs1 H g1 => ?_
 replace H := hsn H
 refine p_as (v := v1) rfl <| xk hK2 <| sr fun K3 hK3 => asI rfl <| xk hK3 <| wp_seq_k fun K4 hK4 => nameF fun m1 k1 => bn hF fun t1 hE1 hF1 => ?_
 have J1 : ∀ (cs5 rs3 : List Value) (m4 : FM) (w4 : World), (∀ t, has (4 :: 5 :: 6 :: rg 10 21 []) t = false → look m4 t = look m1 t) → HS ⟨S, [], w⟩ S w4 [.osl (v1) (t1).length 1 cs5 rs3 107] → RL S cs5 t1 → K4 (fr 33 m4) w4 := by
  clear H; intro cs5 rs3 m4 w4 k5 H g4
  have q5 : look m4 3 = v1 := (k5 3 rfl).trans (k1 3)
  refine hK4 _ _ <| sr fun K11 hK11 => p_mv (v := v1) q5 ?_
  obtain ⟨S1, hle1, g5, H1⟩ := H.fixX (k := 0) rfl g4; clear H; have H := H1; clear H1
  replace H := hsn H
  refine bn hF1 fun y5 e5 hF1 => p_call (l := [v1]) is84 rfl <| (r6_trim_c H.sub g5 e5).mono <| H.ye fun w5 v4 S2 hle2 H g6 => ?_
  replace g5 := g5.mono hle2
  refine p_as (v := v4) rfl <| xk hK11 <| wp_ret ?_
  obtain rfl := osi hF1
  refine e_1 rfl (q_tmp rfl) ?_
  exact ⟨H.toExt, _, rfl, RdS.mono g6 H.gr⟩
 refine sr fun K5 hK5 => p_mv (v := v0_) (k1 0) <| p_val (r_lenR' u63 rfl h0_ H.sub) <| p_val (r_subI rfl rfl) <| asI rfl <| xk hK5 <| wp_block <| nameF fun m2 k2 => bn hE1 fun out1 hL1 hE2 => ?_
 replace H := hsn H
 refine loopI (4 :: 5 :: 6 :: rg 13 18 []) (fun (s1 : UInt32 × Int × (List UInt32)) (m3 : FM) (w2 : World) => ∃ (cs2 rs2 : List Value), look m3 4 = .int .u32 (((s1.1).toNat : Int)) ∧ look m3 5 = .int .i64 (s1.2.1) ∧ HS ⟨S, [], w⟩ S w2 [.osl (v1) (s1.2.2).length 1 cs2 rs2 107] ∧ RL S cs2 s1.2.2) hL1 ⟨_, _, ((k2 4).trans (k1 4)), (k2 5), H, g1⟩ ?_
 clear H; intro k4 s1 m3 w2 k3 hI1 o2 hb1 hh1; obtain ⟨cs2, rs2, q1, q2, H, g2⟩ := hI1
 have q3 : look m3 0 = v0_ := (k3 0 rfl).trans ((k2 0).trans (k1 0))
 have q4 : look m3 3 = v1 := (k3 3 rfl).trans ((k2 3).trans (k1 3))
 unfold r6_half_b0 at hb1
 refine wp_seq_k fun K6 hK6 => sr fun K7 hK7 => p_mv q2 <| p_val (r_geqI rfl rfl) <| xk hK7 ?_
 refine c_split rfl (fun hc1 => ?_) (fun hc1 => ?_)
 ·replace hb1 := cnd_t hb1 hc1
  refine wp_skip <| xn hK6 <| wp_seq_k fun K8 hK8 => wp_block <| sr fun K9 hK9 => p_mv q1 <| p_val (r_shl rfl rfl (by decide) (i32_shl _ _)) <| p_mv (v := v0_) q3 <| p_mv q2 ?_
  refine bn hb1 fun y2 e2 hb1 => ?_
  obtain ⟨b1, o3, N1, c1, cs3, hv1, hi1, hc2, hr1⟩ := h0_.get (idx_some e2).2
  refine p_val (r_addrV (i := (s1.2.1 : Int).toNat) u63 tsz107 rfl hv1 rfl (idx_some e2).1 hi1) ?_
  obtain rfl := elU32 hr1
  refine p_val (s_load1 (p := (o3 + (s1.2.1 : Int).toNat * 1)) (o := 0) (v := .int .u32 (((y2).toNat : Int))) to107 H.sub rfl hc2 rfl) <| p_val (r_bits (bo := .or) (by simp) rfl rfl (i32_or _ _)) <| asI rfl <| xk hK9 <| sr fun K10 hK10 => p_mv (v := v1) q4 <| p_mv q2 <| mvI rfl <| p_val (r_shr rfl rfl (by decide) (i32_shr _ _)) ?_
  refine bn hb1 fun y3 e3 hb1 => ?_
  obtain ⟨b2, c2, hv2⟩ := H.ownAt (k := 0) rfl (idx_lt e3)
  refine p_val (r_addrV (i := (s1.2.1 : Int).toNat) u63 tsz107 rfl hv2 rfl (idx_some e3).1 (idx_lt e3)) ?_
  subst hv2
  refine bn hb1 fun y4 e4 hb1 => p_oft (a_storeX (k := 0) (l := [Value.int .u32 ((((i32 (shrI .u32 ((((i32 (shlI .u32 ((s1.1).toNat : Int) 16)) ||| y2)).toNat : Int) 1))).toNat : Int))]) tsz107 rfl H rfl g2 rfl rfl (cells_one rfl) rpU32 e4) fun w3 cs4 H g3 => ?_
  replace H := hsn H
  refine xk hK10 <| wp_region_lit <| mvI rfl <| p_val (r_bits (bo := .and) (by simp) rfl rfl (i32_and _ (1 : UInt32))) <| asI rfl <| wpList_nil <| b_norm <| xn hK8 <| wp_region_lit ?_
  refine p_mv q2 <| p_val (r_subI rfl rfl) <| asI rfl <| wpList_nil <| x_norm ?_
  replace H := hsn H
  obtain rfl := osi hb1
  exact ⟨((((i32 (shlI .u32 ((s1.1).toNat : Int) 16)) ||| y2) &&& (1 : UInt32)), (w64 (s1.2.1 - 1)), y4), _, rfl, (kS k3 rfl kcx), ⟨_, _, rfl, rfl, H, g3⟩, hh1⟩
 ·replace hb1 := cnd_f hb1 hc1
  refine wp_exit <| x_exit <| x_exit <| b_hit <| x_norm ?_
  replace H := hsn H
  obtain rfl := osi hb1
  obtain rfl := osi hh1
  obtain rfl := osi hE2
  exact J1 _ _ _ _ (kS k3 rfl (kN k2 kcx)) H g2
def r6_odd_p (x0 : List UInt32) : Option (Bool) :=
  Option.bind (bif decide ((0 : Int) < ((x0).length : Int)) then (Option.bind (idx x0 0) fun y1 => some (((((i32 (Int.tmod ((y1).toNat : Int) 2))).toNat : Int) == 1))) else (some (false))) (fun t1 => some (t1))
theorem r6_odd_c {S : Mem} {w : World} (hS : Sub S w) {v0_ : Value} {x0 : List UInt32} (h0_ : RdS S v0_ x0) {r : Bool} (hF : r6_odd_p x0 = some r) :
    Calls Tryz.prog 118 #[v0_] w fun e w' => e = .returned (.bool (r)) ∧ Ext w w' := by
 refine enter (n := 13) Tryz.func118 rfl rfl rfl ?_
 have H := HS.start hS
 unfold r6_odd_p at hF
 refine sr fun K1 hK1 => asB rfl <| xk hK1 <| sr fun K2 hK2 => p_mv (v := v0_) rfl <| p_val (r_lenR' u63 rfl h0_ H.sub) <| p_val (r_gtrI rfl rfl) <| mvB rfl <| nameL fun m1 k1 => ?_
 refine gs_at 6 fun K3 hK3 R1 hR1 => bn hF fun t1 hE1 hF1 => ?_
 have J1 : ∀ (m2 : FM) (w1 : World), (∀ t, has (rg 7 6 []) t = false → look m2 t = look m1 t) → look m2 12 = .bool (t1) → HS ⟨S, [], w⟩ S w1 [] → K3 m2 w1 := by
  clear H; intro m2 w1 k2 q1 H
  refine hK3 _ _ <| p_as q1 <| xk hK2 <| wp_ret ?_
  obtain rfl := osi hF1
  refine e_1 rfl (q_tmp rfl) ?_
  exact ⟨rfl, H.toExt⟩
 refine p_gs (j := 3) (gvl_at rfl rfl (k1 6)) (fun hb1 => ?_) (fun hb1 => ?_)
 ·replace hE1 := cnd_t hE1 hb1
  refine p_want (gvl_at rfl rfl (k1 6)) hb1 <| p_mv (v := v0_) (k1 0) <| p_want (gvl_at rfl rfl (k1 6)) hb1 <| bn hE1 fun y1 e1 hE1 => ?_
  obtain ⟨b1, o2, N1, c1, cs1, hv1, hi1, hc1, hr1⟩ := h0_.get (idx_some e1).2
  refine p_val (r_addrV (i := (0 : Int).toNat) u63 tsz107 rfl hv1 rfl (idx_some e1).1 hi1) ?_
  obtain rfl := elU32 hr1
  refine p_want (gvl_at rfl rfl (k1 6)) hb1 <| p_val (s_load1 (p := (o2 + (0 : Int).toNat * 1)) (o := 0) (v := .int .u32 (((y1).toNat : Int))) to107 H.sub rfl hc1 rfl) <| p_want (gvl_at rfl rfl (k1 6)) hb1 <| p_val (r_rem (r := (((i32 (Int.tmod ((y1).toNat : Int) 2))).toNat : Int)) rfl rfl (by decide) (i32_rem _ _ (by omega))) <| p_want (gvl_at rfl rfl (k1 6)) hb1 <| p_val (r_eqlI rfl rfl) ?_
  refine p_val (r_pickt (v := .bool (((((i32 (Int.tmod ((y1).toNat : Int) 2))).toNat : Int) == 1))) (k1 6) hb1 rfl) <| hR1 _ _ ?_
  replace H := hsn H
  obtain rfl := osi hE1
  exact J1 _ _ kcx rfl H
 ·replace hE1 := cnd_f hE1 hb1
  refine p_skip (gvl_at rfl rfl (k1 6)) hb1 ?_
  rw [put_fr]
  refine p_skip (gvl_at rfl rfl (k1 6)) hb1 ?_
  rw [put_fr]
  refine p_skip (gvl_at rfl rfl (k1 6)) hb1 ?_
  rw [put_fr]
  refine p_skip (gvl_at rfl rfl (k1 6)) hb1 ?_
  rw [put_fr]
  refine p_skip (gvl_at rfl rfl (k1 6)) hb1 ?_
  rw [put_fr]
  refine p_val (r_pickf (v := .bool (false)) (k1 6) hb1 rfl) <| hR1 _ _ ?_
  replace H := hsn H
  obtain rfl := osi hE1
  exact J1 _ _ kcx rfl H
def r6_halved_p (x0 : List UInt32) (x1 : List UInt32) : Option ((List UInt32)) :=
  Option.bind (Option.bind (r6_odd_p x0) fun y1 => bif y1 then (Option.bind (r6_Add_p x0 x1) fun y2 => some (y2)) else (some (x0))) (fun t1 => Option.bind (r6_half_p t1) fun y3 => some (y3))
theorem r6_halved_c {S : Mem} {w : World} (hS : Sub S w) {v0_ : Value} {x0 : List UInt32} (h0_ : RdS S v0_ x0) {v1_ : Value} {x1 : List UInt32} (h1_ : RdS S v1_ x1) {r : (List UInt32)} (hF : r6_halved_p x0 x1 = some r) :
    Calls Tryz.prog 120 #[v0_, v1_] w fun e w' => Ext w w' ∧ ∃ (v0' : Value), e = .returned (v0') ∧ RdS (gr S w w') v0' r := by
 refine enter (n := 12) Tryz.func120 rfl rfl rfl ?_
 have H := HS.start hS
 unfold r6_halved_p at hF
 refine sr fun K1 hK1 => asN rfl <| xk hK1 <| wp_seq_k fun K2 hK2 => nameF fun m1 k1 => bn hF fun t1 hE1 hF1 => ?_
 have J1 : ∀ (v2 : Value) (S2 : Mem) (m2 : FM) (w3 : World), (∀ t, has [0, 5, 6, 7, 8, 9] t = false → look m2 t = look m1 t) → look m2 0 = v2 → Mem.le S S2 → HS ⟨S, [], w⟩ S2 w3 [] → RdS S2 v2 t1 → K2 (fr 12 m2) w3 := by
  clear H; intro v2 S2 m2 w3 k2 q1 hle2 H g2
  replace h0_ := h0_.mono hle2
  replace h1_ := h1_.mono hle2
  refine hK2 _ _ <| sr fun K4 hK4 => p_mv (v := v2) q1 <| bn hF1 fun y3 e3 hF1 => p_call (l := [v2]) is119 rfl <| (r6_half_c H.sub g2 e3).mono <| H.ye fun w4 v3 S3 hle3 H g3 => ?_
  replace g2 := g2.mono hle3
  refine p_as (v := v3) rfl <| xk hK4 <| wp_ret ?_
  obtain rfl := osi hF1
  refine e_1 rfl (q_tmp rfl) ?_
  exact ⟨H.toExt, _, rfl, RdS.mono g3 H.gr⟩
 refine sr fun K3 hK3 => p_mv (v := v0_) (k1 0) <| bn hE1 fun y1 e1 hE1 => p_call (l := [v0_]) is118 rfl <| (r6_odd_c H.sub h0_ e1).mono <| H.xe fun w1 H => xk hK3 ?_
 refine c_split rfl (fun hc1 => ?_) (fun hc1 => ?_)
 ·replace hE1 := cnd_t hE1 hc1
  refine wp_region_lit <| p_mv (v := v0_) (k1 0) <| p_mv (v := v1_) (k1 1) <| bn hE1 fun y2 e2 hE1 => p_call (l := [v0_, v1_]) is150 rfl <| (r6_Add_c H.sub h0_ h1_ e2).mono <| H.ye fun w2 v1 S1 hle1 H g1 => ?_
  replace h0_ := h0_.mono hle1
  replace h1_ := h1_.mono hle1
  refine p_as (v := v1) rfl <| wpList_nil <| x_norm ?_
  replace H := hsn H
  obtain rfl := osi hE1
  exact J1 _ _ _ _ kcx rfl hle1 H g1
 ·replace hE1 := cnd_f hE1 hc1
  refine wp_skip <| x_norm ?_
  replace H := hsn H
  obtain rfl := osi hE1
  exact J1 _ _ _ _ kcx (show _ = (v0_ : Value) from (k1 0)) (Mem.le_refl _) H h0_
def r6_less_p (x0 : List UInt32) (x1 : List UInt32) (x2 : List UInt32) : Option ((List UInt32)) :=
  Option.bind (Option.bind (r6_Cmp_p x0 x1) fun y1 => bif decide (y1 < 0) then (Option.bind (r6_Add_p x0 x2) fun y2 => some (y2)) else (some (x0))) (fun t1 => Option.bind (r6_Sub_p t1 x1) fun y3 => some (y3))
theorem r6_less_c {S : Mem} {w : World} (hS : Sub S w) {v0_ : Value} {x0 : List UInt32} (h0_ : RdS S v0_ x0) {v1_ : Value} {x1 : List UInt32} (h1_ : RdS S v1_ x1) {v2_ : Value} {x2 : List UInt32} (h2_ : RdS S v2_ x2) {r : (List UInt32)} (hF : r6_less_p x0 x1 x2 = some r) :
    Calls Tryz.prog 122 #[v0_, v1_, v2_] w fun e w' => Ext w w' ∧ ∃ (v0' : Value), e = .returned (v0') ∧ RdS (gr S w w') v0' r := by
 refine enter (n := 17) Tryz.func122 rfl rfl rfl ?_
 have H := HS.start hS
 unfold r6_less_p at hF
 refine sr fun K1 hK1 => asN rfl <| xk hK1 <| wp_seq_k fun K2 hK2 => nameF fun m1 k1 => bn hF fun t1 hE1 hF1 => ?_
 have J1 : ∀ (v2 : Value) (S2 : Mem) (m2 : FM) (w3 : World), (∀ t, has (0 :: rg 7 7 []) t = false → look m2 t = look m1 t) → look m2 0 = v2 → Mem.le S S2 → HS ⟨S, [], w⟩ S2 w3 [] → RdS S2 v2 t1 → K2 (fr 17 m2) w3 := by
  clear H; intro v2 S2 m2 w3 k2 q1 hle2 H g2
  replace h0_ := h0_.mono hle2
  replace h1_ := h1_.mono hle2
  replace h2_ := h2_.mono hle2
  have q2 : look m2 1 = v1_ := (k2 1 rfl).trans (k1 1)
  refine hK2 _ _ <| sr fun K4 hK4 => p_mv (v := v2) q1 <| p_mv (v := v1_) q2 <| bn hF1 fun y3 e3 hF1 => p_call (l := [v2, v1_]) is121 rfl <| (r6_Sub_c H.sub g2 h1_ e3).mono <| H.ye fun w4 v3 S3 hle3 H g3 => ?_
  replace h1_ := h1_.mono hle3
  replace g2 := g2.mono hle3
  refine p_as (v := v3) rfl <| xk hK4 <| wp_ret ?_
  obtain rfl := osi hF1
  refine e_1 rfl (q_tmp rfl) ?_
  exact ⟨H.toExt, _, rfl, RdS.mono g3 H.gr⟩
 refine sr fun K3 hK3 => p_mv (v := v0_) (k1 0) <| p_mv (v := v1_) (k1 1) <| bn hE1 fun y1 e1 hE1 => p_call (l := [v0_, v1_]) is69 rfl <| (r6_Cmp_c H.sub h0_ h1_ e1).mono <| H.xe fun w1 H => p_val (r_lssI rfl rfl) <| xk hK3 ?_
 refine c_split rfl (fun hc1 => ?_) (fun hc1 => ?_)
 ·replace hE1 := cnd_t hE1 hc1
  refine wp_region_lit <| p_mv (v := v0_) (k1 0) <| p_mv (v := v2_) (k1 2) <| bn hE1 fun y2 e2 hE1 => p_call (l := [v0_, v2_]) is150 rfl <| (r6_Add_c H.sub h0_ h2_ e2).mono <| H.ye fun w2 v1 S1 hle1 H g1 => ?_
  replace h0_ := h0_.mono hle1
  replace h1_ := h1_.mono hle1
  replace h2_ := h2_.mono hle1
  refine p_as (v := v1) rfl <| wpList_nil <| x_norm ?_
  replace H := hsn H
  obtain rfl := osi hE1
  exact J1 _ _ _ _ kcx rfl hle1 H g1
 ·replace hE1 := cnd_f hE1 hc1
  refine wp_skip <| x_norm ?_
  replace H := hsn H
  obtain rfl := osi hE1
  exact J1 _ _ _ _ kcx (show _ = (v0_ : Value) from (k1 0)) (Mem.le_refl _) H h0_
def r6_Inverse_b1 (y1 : (List UInt32)) (s2 : (List UInt32) × (List UInt32)) : Option (((List UInt32) × (List UInt32)) ⊕ ((List UInt32) × (List UInt32))) :=
  Option.bind (r6_odd_p s2.1) fun y5 => bif (!y5) then (Option.bind (r6_half_p s2.1) fun y6 => Option.bind (r6_halved_p s2.2 y1) fun y7 => some (.inl ((y6, y7)))) else (some (.inr ((s2.1, s2.2))))
def r6_Inverse_b2 (y1 : (List UInt32)) (s3 : (List UInt32) × (List UInt32)) : Option (((List UInt32) × (List UInt32)) ⊕ ((List UInt32) × (List UInt32))) :=
  Option.bind (r6_odd_p s3.1) fun y8 => bif (!y8) then (Option.bind (r6_half_p s3.1) fun y9 => Option.bind (r6_halved_p s3.2 y1) fun y10 => some (.inl ((y9, y10)))) else (some (.inr ((s3.1, s3.2))))
def r6_Inverse_b0 (y1 : (List UInt32)) (s1 : (List UInt32) × (List UInt32) × (List UInt32) × (List UInt32)) : Option (((List UInt32) × (List UInt32) × (List UInt32) × (List UInt32)) ⊕ ((List UInt32) × (List UInt32) × (List UInt32))) :=
  Option.bind (r6_Cmp_p s1.1 ([(1 : UInt32)] : List UInt32)) fun y3 => Option.bind (bif (y3 != 0) then (Option.bind (r6_Cmp_p s1.2.1 ([(1 : UInt32)] : List UInt32)) fun y4 => some ((y4 != 0))) else (some (false))) (fun t2 => bif t2 then (Option.bind (Option.bind (iter (r6_Inverse_b1 y1) ((s1.1, s1.2.2.1))) (fun e => some (e))) (fun t3 => Option.bind (Option.bind (iter (r6_Inverse_b2 y1) ((s1.2.1, s1.2.2.2))) (fun e => some (e))) (fun t4 => Option.bind (r6_Cmp_p t3.1 t4.1) fun y11 => bif decide ((0 : Int) ≤ y11) then (Option.bind (r6_Sub_p t3.1 t4.1) fun y12 => Option.bind (r6_less_p t3.2 t4.2 y1) fun y13 => some (.inl ((y12, t4.1, y13, t4.2)))) else (Option.bind (r6_Sub_p t4.1 t3.1) fun y14 => Option.bind (r6_less_p t4.2 t3.2 y1) fun y15 => some (.inl ((t3.1, y14, t3.2, y15))))))) else (some (.inr ((s1.1, s1.2.2.1, s1.2.2.2)))))
def r6_Inverse_p (x0 : Int) (x1 : List UInt32) : Option ((List UInt32)) :=
  Option.bind (r6_Modulus_p x0) fun y1 => Option.bind (r6_Left_p x1 y1) fun y2 => Option.bind (Option.bind (iter (r6_Inverse_b0 y1) ((y2, y1, ([(1 : UInt32)] : List UInt32), ([] : List UInt32)))) (fun e => some (e))) (fun t1 => Option.bind (r6_Cmp_p t1.1 ([(1 : UInt32)] : List UInt32)) fun y16 => bif (y16 == 0) then (some (t1.2.1)) else (some (t1.2.2)))
theorem r6_Inverse_c {S : Mem} {w : World} (hS : Sub S w) {x0 : Int} {v1_ : Value} {x1 : List UInt32} (h1_ : RdS S v1_ x1) {r : (List UInt32)} (hF : r6_Inverse_p x0 x1 = some r) :
    Calls Tryz.prog 64 #[.int .i64 (x0), v1_] w fun e w' => Ext w w' ∧ ∃ (v0' : Value), e = .returned (v0') ∧ RdS (gr S w w') v0' r := by
 refine enter (n := 68) Tryz.func64 rfl rfl rfl ?_
 have H := HS.start hS
 unfold r6_Inverse_p at hF
 refine sr fun K1 hK1 => asN rfl <| xk hK1 <| sr fun K2 hK2 => mvI rfl <| bn hF fun y1 e1 hF => p_call (l := [.int .i64 (x0)]) is71 rfl <| (r6_Modulus_c H.sub e1).mono <| H.ye fun w1 v1 S1 hle1 H g1 => ?_
 replace h1_ := h1_.mono hle1
 refine p_as (v := v1) rfl <| xk hK2 <| sr fun K3 hK3 => p_mv (v := v1_) rfl <| p_mv (v := v1) rfl <| bn hF fun y2 e2 hF => p_call (l := [v1_, v1]) is70 rfl <| (r6_Left_c H.sub h1_ g1 e2).mono <| H.ye fun w2 v2 S2 hle2 H g2 => ?_
 replace h1_ := h1_.mono hle2
 replace g1 := g1.mono hle2
 refine p_mv (v := v1) rfl <| p_as (v := v2) rfl <| p_as (v := v1) rfl <| xk hK3 <| sr fun K4 hK4 => p_of2 (a_bsliceG (N := 1) (xs := ([(1 : UInt32)] : List UInt32)) (RL.cons (rpU32c (x := (1 : UInt32)) rfl) RL.nil) tn63 H rfl rfl rfl) fun w3 v3 cs1 H g3 => ?_
 replace H := hsn H
 have g4 : RL S2 ([] : List Value) ([] : List UInt32) := RL.nil
 refine p_of1 (a_bslice (N := 0) (vals := []) (l := ([] : List Value)) tn63 H rfl rfl rfl g4.len) fun w4 v4 H => ?_
 replace H := hsn H
 refine p_as (v := v3) rfl <| p_as (v := v4) rfl <| xk hK4 <| wp_seq_k fun K5 hK5 => ?_
 obtain ⟨S3, hle3, g5, H1⟩ := H.fixX (k := 0) rfl g4; clear H; have H := H1; clear H1
 replace h1_ := h1_.mono hle3
 replace g1 := g1.mono hle3
 replace g2 := g2.mono hle3
 replace g3 := g3.mono hle3
 replace H := hsn H
 obtain ⟨S4, hle4, g6, H1⟩ := H.fixX (k := 0) rfl g3; clear H; have H := H1; clear H1
 replace h1_ := h1_.mono hle4
 replace g1 := g1.mono hle4
 replace g2 := g2.mono hle4
 replace g5 := g5.mono hle4
 replace H := hsn H
 refine nameF fun m1 k1 => bn hF fun t1 hE1 hF1 => ?_
 have J4 : ∀ (v27 : Value) (v28 : Value) (v29 : Value) (S18 : Mem) (m14 : FM) (w26 : World), (∀ t, has (6 :: 7 :: 8 :: 9 :: rg 18 44 []) t = false → look m14 t = look m1 t) → look m14 6 = v27 → look m14 8 = v28 → look m14 9 = v29 → Mem.le S4 S18 → HS ⟨S, [], w⟩ S18 w26 [] → RdS S18 v27 t1.1 → RdS S18 v28 t1.2.1 → RdS S18 v29 t1.2.2 → K5 (fr 68 m14) w26 := by
  clear H; intro v27 v28 v29 S18 m14 w26 k17 q32 q33 q34 hle18 H g29 g30 g31
  replace h1_ := h1_.mono hle18
  replace g1 := g1.mono hle18
  replace g2 := g2.mono hle18
  replace g5 := g5.mono hle18
  replace g6 := g6.mono hle18
  refine hK5 _ _ <| wp_seq_k fun K20 hK20 => sr fun K21 hK21 => p_mv (v := v27) q32 <| p_of2 (a_bsliceG (N := 1) (xs := ([(1 : UInt32)] : List UInt32)) (RL.cons (rpU32c (x := (1 : UInt32)) rfl) RL.nil) tn63 H rfl rfl rfl) fun w27 v30 cs5 H g32 => ?_
  replace H := hsn H
  refine bn hF1 fun y16 e16 hF1 => p_call (l := [v27, v30]) is69 rfl <| (r6_Cmp_c (subMem w27) (g29.mono H.sub) (RdS.ofOwn H (k := 0) rfl g32) e16).mono <| H.xe fun w28 H => p_val (r_eqlI rfl rfl) <| xk hK21 ?_
  refine c_split rfl (fun hc5 => ?_) (fun hc5 => ?_)
  ·replace hF1 := cnd_t hF1 hc5
   refine sr fun K22 hK22 => p_mv (v := v28) q33 <| p_as (v := v28) rfl <| xk hK22 <| wp_ret <| x_ret ?_
   obtain rfl := osi hF1
   refine e_1 rfl (q_tmp rfl) ?_
   exact ⟨H.toExt, _, rfl, RdS.mono g30 H.gr⟩
  ·replace hF1 := cnd_f hF1 hc5
   refine wp_skip <| xn hK20 <| sr fun K23 hK23 => p_mv (v := v29) q34 <| p_as (v := v29) rfl <| xk hK23 <| wp_ret ?_
   obtain rfl := osi hF1
   refine e_1 rfl (q_tmp rfl) ?_
   exact ⟨H.toExt, _, rfl, RdS.mono g31 H.gr⟩
 refine wp_block <| nameF fun m2 k2 => bn hE1 fun out1 hL1 hE2 => ?_
 replace H := hsn H
 refine loopI (6 :: 7 :: 8 :: 9 :: rg 18 44 []) (fun (s1 : (List UInt32) × (List UInt32) × (List UInt32) × (List UInt32)) (m3 : FM) (w5 : World) => ∃ (S5 : Mem) (v5 : Value) (v6 : Value) (v7 : Value) (v8 : Value), look m3 6 = v5 ∧ look m3 7 = v6 ∧ look m3 8 = v7 ∧ look m3 9 = v8 ∧ Mem.le S4 S5 ∧ HS ⟨S, [], w⟩ S5 w5 [] ∧ RdS S5 v5 s1.1 ∧ RdS S5 v6 s1.2.1 ∧ RdS S5 v7 s1.2.2.1 ∧ RdS S5 v8 s1.2.2.2) hL1 ⟨_, _, _, _, _, (show _ = (v2 : Value) from ((k2 6).trans (k1 6))), (show _ = (v1 : Value) from ((k2 7).trans (k1 7))), (show _ = (v3 : Value) from ((k2 8).trans (k1 8))), (show _ = (v4 : Value) from ((k2 9).trans (k1 9))), (Mem.le_refl _), H, g2, g1, g6, g5⟩ ?_
 clear H; intro k4 s1 m3 w5 k3 hI1 o2 hb1 hh1; obtain ⟨S5, v5, v6, v7, v8, q1, q2, q3, q4, hle5, H, g7, g8, g9, g10⟩ := hI1
 replace h1_ := h1_.mono hle5
 replace g1 := g1.mono hle5
 replace g2 := g2.mono hle5
 replace g5 := g5.mono hle5
 replace g6 := g6.mono hle5
 have q5 : look m3 5 = v1 := (k3 5 rfl).trans ((k2 5).trans (k1 5))
 unfold r6_Inverse_b0 at hb1
 refine wp_seq_k fun K6 hK6 => sr fun K7 hK7 => p_mv (v := v5) q1 <| p_of2 (a_bsliceG (N := 1) (xs := ([(1 : UInt32)] : List UInt32)) (RL.cons (rpU32c (x := (1 : UInt32)) rfl) RL.nil) tn63 H rfl rfl rfl) fun w6 v9 cs3 H g11 => ?_
 replace H := hsn H
 refine bn hb1 fun y3 e3 hb1 => p_call (l := [v5, v9]) is69 rfl <| (r6_Cmp_c (subMem w6) (g7.mono H.sub) (RdS.ofOwn H (k := 0) rfl g11) e3).mono <| H.xe fun w7 H => p_val (r_neqI rfl rfl) <| mvB rfl <| nameL fun m4 k5 => gs_at 5 fun K8 hK8 R4 hR4 => bn hb1 fun t2 hE3 hF2 => ?_
 have J3 : ∀ (m5 : FM) (w10 : World), (∀ t, has [23, 24, 25, 26, 27] t = false → look m5 t = look m4 t) → look m5 27 = .bool (t2) → HS ⟨S, [], w⟩ S5 w10 [.osl (v9) (([(1 : UInt32)] : List UInt32)).length 1 cs3 [] 107] → K8 m5 w10 := by
  clear H; intro m5 w10 k6 q6 H
  have q7 := (k6 5 rfl).trans ((k5 5).trans q5)
  have q8 := (k6 6 rfl).trans ((k5 6).trans q1)
  have q9 := (k6 7 rfl).trans ((k5 7).trans q2)
  have q10 := (k6 8 rfl).trans ((k5 8).trans q3)
  have q11 := (k6 9 rfl).trans ((k5 9).trans q4)
  refine hK8 _ _ <| xk hK7 ?_
  refine c_split q6 (fun hc1 => ?_) (fun hc1 => ?_)
  ·replace hF2 := cnd_t hF2 hc1
   refine wp_skip <| xn hK6 <| wp_block <| wp_seq_k fun K9 hK9 => nameF fun m6 k7 => bn hF2 fun t3 hE4 hF3 => ?_
   have J2 : ∀ (v15 : Value) (v16 : Value) (S9 : Mem) (m9 : FM) (w15 : World), (∀ t, has (6 :: 8 :: rg 28 8 []) t = false → look m9 t = look m6 t) → look m9 6 = v15 → look m9 8 = v16 → Mem.le S5 S9 → HS ⟨S, [], w⟩ S9 w15 [.osl (v9) (([(1 : UInt32)] : List UInt32)).length 1 cs3 [] 107] → RdS S9 v15 t3.1 → RdS S9 v16 t3.2 → K9 (fr 68 m9) w15 := by
    clear H; intro v15 v16 S9 m9 w15 k11 q17 q18 hle9 H g17 g18
    replace h1_ := h1_.mono hle9
    replace g1 := g1.mono hle9
    replace g2 := g2.mono hle9
    replace g5 := g5.mono hle9
    replace g6 := g6.mono hle9
    replace g7 := g7.mono hle9
    replace g8 := g8.mono hle9
    replace g9 := g9.mono hle9
    replace g10 := g10.mono hle9
    replace g11 := g11.mono hle9
    have q19 := (k11 5 rfl).trans ((k7 5).trans q7)
    have q20 := (k11 7 rfl).trans ((k7 7).trans q9)
    have q21 := (k11 9 rfl).trans ((k7 9).trans q11)
    refine hK9 _ _ <| wp_seq_k fun K13 hK13 => nameF fun m10 k12 => bn hF3 fun t4 hE6 hF4 => ?_
    have J1 : ∀ (v21 : Value) (v22 : Value) (S13 : Mem) (m13 : FM) (w20 : World), (∀ t, has (7 :: 9 :: rg 36 8 []) t = false → look m13 t = look m10 t) → look m13 7 = v21 → look m13 9 = v22 → Mem.le S9 S13 → HS ⟨S, [], w⟩ S13 w20 [.osl (v9) (([(1 : UInt32)] : List UInt32)).length 1 cs3 [] 107] → RdS S13 v21 t4.1 → RdS S13 v22 t4.2 → K13 (fr 68 m13) w20 := by
     clear H; intro v21 v22 S13 m13 w20 k16 q27 q28 hle13 H g23 g24
     replace h1_ := h1_.mono hle13
     replace g1 := g1.mono hle13
     replace g2 := g2.mono hle13
     replace g5 := g5.mono hle13
     replace g6 := g6.mono hle13
     replace g7 := g7.mono hle13
     replace g8 := g8.mono hle13
     replace g9 := g9.mono hle13
     replace g10 := g10.mono hle13
     replace g11 := g11.mono hle13
     replace g17 := g17.mono hle13
     replace g18 := g18.mono hle13
     have q29 := (k16 5 rfl).trans ((k12 5).trans q19)
     have q30 := (k16 6 rfl).trans ((k12 6).trans q17)
     have q31 := (k16 8 rfl).trans ((k12 8).trans q18)
     refine hK13 _ _ <| sr fun K17 hK17 => p_mv (v := v15) q30 <| p_mv (v := v21) q27 <| bn hF4 fun y11 e11 hF4 => p_call (l := [v15, v21]) is69 rfl <| (r6_Cmp_c H.sub g17 g23 e11).mono <| H.xe fun w21 H => p_val (r_geqI rfl rfl) <| xk hK17 ?_
     refine c_split rfl (fun hc4 => ?_) (fun hc4 => ?_)
     ·replace hF4 := cnd_t hF4 hc4
      refine sr fun K18 hK18 => p_mv (v := v15) q30 <| p_mv (v := v21) q27 <| bn hF4 fun y12 e12 hF4 => p_call (l := [v15, v21]) is121 rfl <| (r6_Sub_c H.sub g17 g23 e12).mono <| H.ye fun w22 v23 S14 hle14 H g25 => ?_
      replace g1 := g1.mono hle14
      replace g11 := g11.mono hle14
      replace g17 := g17.mono hle14
      replace g18 := g18.mono hle14
      replace g23 := g23.mono hle14
      replace g24 := g24.mono hle14
      refine p_as (v := v23) rfl <| xk hK18 <| wp_region_lit <| p_mv (v := v16) q31 <| p_mv (v := v22) q28 <| p_mv (v := v1) q29 <| bn hF4 fun y13 e13 hF4 => p_call (l := [v16, v22, v1]) is122 rfl <| (r6_less_c H.sub g18 g24 g1 e13).mono <| H.ye fun w23 v24 S15 hle15 H g26 => ?_
      replace g1 := g1.mono hle15
      replace g11 := g11.mono hle15
      replace g18 := g18.mono hle15
      replace g23 := g23.mono hle15
      replace g24 := g24.mono hle15
      replace g25 := g25.mono hle15
      refine p_as (v := v24) rfl <| wpList_nil <| b_norm <| x_norm ?_
      replace H := H.sel [] rfl
      replace H := hsn H
      obtain rfl := osi hF4
      exact ⟨(y12, t4.1, y13, t4.2), _, rfl, (kS k16 rfl (kN k12 (kS k11 rfl (kN k7 (kS k6 rfl (kN k5 (kS k3 rfl kcx))))))), ⟨_, _, _, _, _, rfl, (show _ = (v21 : Value) from q27), rfl, (show _ = (v22 : Value) from q28), (Mem.le_trans hle5 (Mem.le_trans hle9 (Mem.le_trans hle13 (Mem.le_trans hle14 hle15)))), H, g25, g23, g26, g24⟩, hh1⟩
     ·replace hF4 := cnd_f hF4 hc4
      refine sr fun K19 hK19 => p_mv (v := v21) q27 <| p_mv (v := v15) q30 <| bn hF4 fun y14 e14 hF4 => p_call (l := [v21, v15]) is121 rfl <| (r6_Sub_c H.sub g23 g17 e14).mono <| H.ye fun w24 v25 S16 hle16 H g27 => ?_
      replace g1 := g1.mono hle16
      replace g11 := g11.mono hle16
      replace g17 := g17.mono hle16
      replace g18 := g18.mono hle16
      replace g23 := g23.mono hle16
      replace g24 := g24.mono hle16
      refine p_as (v := v25) rfl <| xk hK19 <| wp_region_lit <| p_mv (v := v22) q28 <| p_mv (v := v16) q31 <| p_mv (v := v1) q29 <| bn hF4 fun y15 e15 hF4 => p_call (l := [v22, v16, v1]) is122 rfl <| (r6_less_c H.sub g24 g18 g1 e15).mono <| H.ye fun w25 v26 S17 hle17 H g28 => ?_
      replace g1 := g1.mono hle17
      replace g11 := g11.mono hle17
      replace g17 := g17.mono hle17
      replace g18 := g18.mono hle17
      replace g24 := g24.mono hle17
      replace g27 := g27.mono hle17
      refine p_as (v := v26) rfl <| wpList_nil <| b_norm <| x_norm ?_
      replace H := H.sel [] rfl
      replace H := hsn H
      obtain rfl := osi hF4
      exact ⟨(t3.1, y14, t3.2, y15), _, rfl, (kS k16 rfl (kN k12 (kS k11 rfl (kN k7 (kS k6 rfl (kN k5 (kS k3 rfl kcx))))))), ⟨_, _, _, _, _, (show _ = (v15 : Value) from q30), rfl, (show _ = (v16 : Value) from q31), rfl, (Mem.le_trans hle5 (Mem.le_trans hle9 (Mem.le_trans hle13 (Mem.le_trans hle16 hle17)))), H, g17, g27, g18, g28⟩, hh1⟩
    refine wp_block <| nameF fun m11 k13 => bn hE6 fun out3 hL3 hE7 => ?_
    replace H := hsn H
    refine loopI (7 :: 9 :: rg 36 8 []) (fun (s3 : (List UInt32) × (List UInt32)) (m12 : FM) (w16 : World) => ∃ (S10 : Mem) (v17 : Value) (v18 : Value), look m12 7 = v17 ∧ look m12 9 = v18 ∧ Mem.le S9 S10 ∧ HS ⟨S, [], w⟩ S10 w16 [.osl (v9) (([(1 : UInt32)] : List UInt32)).length 1 cs3 [] 107] ∧ RdS S10 v17 s3.1 ∧ RdS S10 v18 s3.2) hL3 ⟨_, _, _, (show _ = (v6 : Value) from ((k13 7).trans ((k12 7).trans q20))), (show _ = (v8 : Value) from ((k13 9).trans ((k12 9).trans q21))), (Mem.le_refl _), H, g8, g10⟩ ?_
    clear H; intro k15 s3 m12 w16 k14 hI3 o7 hb4 hh3; obtain ⟨S10, v17, v18, q22, q23, hle10, H, g19, g20⟩ := hI3
    replace h1_ := h1_.mono hle10
    replace g1 := g1.mono hle10
    replace g2 := g2.mono hle10
    replace g5 := g5.mono hle10
    replace g6 := g6.mono hle10
    replace g7 := g7.mono hle10
    replace g8 := g8.mono hle10
    replace g9 := g9.mono hle10
    replace g10 := g10.mono hle10
    replace g11 := g11.mono hle10
    replace g17 := g17.mono hle10
    replace g18 := g18.mono hle10
    have q24 := (k14 5 rfl).trans ((k13 5).trans ((k12 5).trans q19))
    have q25 := (k14 6 rfl).trans ((k13 6).trans ((k12 6).trans q17))
    have q26 := (k14 8 rfl).trans ((k13 8).trans ((k12 8).trans q18))
    unfold r6_Inverse_b2 at hb4
    refine wp_seq_k fun K14 hK14 => sr fun K15 hK15 => p_mv (v := v17) q22 <| bn hb4 fun y8 e8 hb4 => p_call (l := [v17]) is118 rfl <| (r6_odd_c H.sub g19 e8).mono <| H.xe fun w17 H => p_val (r_not (t := (!y8)) rfl rfl) <| xk hK15 ?_
    refine c_split rfl (fun hc3 => ?_) (fun hc3 => ?_)
    ·replace hb4 := cnd_t hb4 hc3
     refine wp_skip <| xn hK14 <| wp_block <| sr fun K16 hK16 => p_mv (v := v17) q22 <| bn hb4 fun y9 e9 hb4 => p_call (l := [v17]) is119 rfl <| (r6_half_c H.sub g19 e9).mono <| H.ye fun w18 v19 S11 hle11 H g21 => ?_
     replace g1 := g1.mono hle11
     replace g11 := g11.mono hle11
     replace g17 := g17.mono hle11
     replace g18 := g18.mono hle11
     replace g19 := g19.mono hle11
     replace g20 := g20.mono hle11
     refine p_as (v := v19) rfl <| xk hK16 <| wp_region_lit <| p_mv (v := v18) q23 <| p_mv (v := v1) q24 <| bn hb4 fun y10 e10 hb4 => p_call (l := [v18, v1]) is120 rfl <| (r6_halved_c H.sub g20 g1 e10).mono <| H.ye fun w19 v20 S12 hle12 H g22 => ?_
     replace g1 := g1.mono hle12
     replace g11 := g11.mono hle12
     replace g17 := g17.mono hle12
     replace g18 := g18.mono hle12
     replace g20 := g20.mono hle12
     replace g21 := g21.mono hle12
     refine p_as (v := v20) rfl <| wpList_nil <| b_norm <| x_norm ?_
     replace H := hsn H
     obtain rfl := osi hb4
     exact ⟨(y9, y10), _, rfl, (kS k14 rfl kcx), ⟨_, _, _, rfl, rfl, (Mem.le_trans hle10 (Mem.le_trans hle11 hle12)), H, g21, g22⟩, hh3⟩
    ·replace hb4 := cnd_f hb4 hc3
     refine wp_exit <| x_exit <| x_exit <| b_hit <| x_norm ?_
     replace H := hsn H
     obtain rfl := osi hb4
     obtain rfl := osi hh3
     obtain rfl := osi hE7
     exact J1 _ _ _ _ _ (kS k14 rfl (kN k13 kcx)) (show _ = (v17 : Value) from q22) (show _ = (v18 : Value) from q23) hle10 H g19 g20
   refine wp_block <| nameF fun m7 k8 => bn hE4 fun out2 hL2 hE5 => ?_
   replace H := hsn H
   refine loopI (6 :: 8 :: rg 28 8 []) (fun (s2 : (List UInt32) × (List UInt32)) (m8 : FM) (w11 : World) => ∃ (S6 : Mem) (v11 : Value) (v12 : Value), look m8 6 = v11 ∧ look m8 8 = v12 ∧ Mem.le S5 S6 ∧ HS ⟨S, [], w⟩ S6 w11 [.osl (v9) (([(1 : UInt32)] : List UInt32)).length 1 cs3 [] 107] ∧ RdS S6 v11 s2.1 ∧ RdS S6 v12 s2.2) hL2 ⟨_, _, _, (show _ = (v5 : Value) from ((k8 6).trans ((k7 6).trans q8))), (show _ = (v7 : Value) from ((k8 8).trans ((k7 8).trans q10))), (Mem.le_refl _), H, g7, g9⟩ ?_
   clear H; intro k10 s2 m8 w11 k9 hI2 o5 hb3 hh2; obtain ⟨S6, v11, v12, q12, q13, hle6, H, g13, g14⟩ := hI2
   replace h1_ := h1_.mono hle6
   replace g1 := g1.mono hle6
   replace g2 := g2.mono hle6
   replace g5 := g5.mono hle6
   replace g6 := g6.mono hle6
   replace g7 := g7.mono hle6
   replace g8 := g8.mono hle6
   replace g9 := g9.mono hle6
   replace g10 := g10.mono hle6
   replace g11 := g11.mono hle6
   have q14 := (k9 5 rfl).trans ((k8 5).trans ((k7 5).trans q7))
   have q15 := (k9 7 rfl).trans ((k8 7).trans ((k7 7).trans q9))
   have q16 := (k9 9 rfl).trans ((k8 9).trans ((k7 9).trans q11))
   unfold r6_Inverse_b1 at hb3
   refine wp_seq_k fun K10 hK10 => sr fun K11 hK11 => p_mv (v := v11) q12 <| bn hb3 fun y5 e5 hb3 => p_call (l := [v11]) is118 rfl <| (r6_odd_c H.sub g13 e5).mono <| H.xe fun w12 H => p_val (r_not (t := (!y5)) rfl rfl) <| xk hK11 ?_
   refine c_split rfl (fun hc2 => ?_) (fun hc2 => ?_)
   ·replace hb3 := cnd_t hb3 hc2
    refine wp_skip <| xn hK10 <| wp_block <| sr fun K12 hK12 => p_mv (v := v11) q12 <| bn hb3 fun y6 e6 hb3 => p_call (l := [v11]) is119 rfl <| (r6_half_c H.sub g13 e6).mono <| H.ye fun w13 v13 S7 hle7 H g15 => ?_
    replace g1 := g1.mono hle7
    replace g8 := g8.mono hle7
    replace g10 := g10.mono hle7
    replace g11 := g11.mono hle7
    replace g13 := g13.mono hle7
    replace g14 := g14.mono hle7
    refine p_as (v := v13) rfl <| xk hK12 <| wp_region_lit <| p_mv (v := v12) q13 <| p_mv (v := v1) q14 <| bn hb3 fun y7 e7 hb3 => p_call (l := [v12, v1]) is120 rfl <| (r6_halved_c H.sub g14 g1 e7).mono <| H.ye fun w14 v14 S8 hle8 H g16 => ?_
    replace g1 := g1.mono hle8
    replace g8 := g8.mono hle8
    replace g10 := g10.mono hle8
    replace g11 := g11.mono hle8
    replace g14 := g14.mono hle8
    replace g15 := g15.mono hle8
    refine p_as (v := v14) rfl <| wpList_nil <| b_norm <| x_norm ?_
    replace H := hsn H
    obtain rfl := osi hb3
    exact ⟨(y6, y7), _, rfl, (kS k9 rfl kcx), ⟨_, _, _, rfl, rfl, (Mem.le_trans hle6 (Mem.le_trans hle7 hle8)), H, g15, g16⟩, hh2⟩
   ·replace hb3 := cnd_f hb3 hc2
    refine wp_exit <| x_exit <| x_exit <| b_hit <| x_norm ?_
    replace H := hsn H
    obtain rfl := osi hb3
    obtain rfl := osi hh2
    obtain rfl := osi hE5
    exact J2 _ _ _ _ _ (kS k9 rfl (kN k8 kcx)) (show _ = (v11 : Value) from q12) (show _ = (v12 : Value) from q13) hle6 H g13 g14
  ·replace hF2 := cnd_f hF2 hc1
   refine wp_exit <| x_exit <| x_exit <| b_hit <| x_norm ?_
   replace H := H.sel [] rfl
   replace H := hsn H
   obtain rfl := osi hF2
   obtain rfl := osi hh1
   obtain rfl := osi hE2
   exact J4 _ _ _ _ _ _ (kS k6 rfl (kN k5 (kS k3 rfl (kN k2 kcx)))) (show _ = (v5 : Value) from q8) (show _ = (v7 : Value) from q10) (show _ = (v8 : Value) from q11) hle5 H g7 g9 g10
 refine p_gs (j := 4) (gvl_at rfl rfl (k5 22)) (fun hb2 => ?_) (fun hb2 => ?_)
 ·replace hE3 := cnd_t hE3 hb2
  refine p_want (gvl_at rfl rfl (k5 22)) hb2 <| p_mv (v := v6) ((k5 7).trans q2) <| p_want (gvl_at rfl rfl (k5 22)) hb2 <| p_of2 (a_bsliceG (N := 1) (xs := ([(1 : UInt32)] : List UInt32)) (RL.cons (rpU32c (x := (1 : UInt32)) rfl) RL.nil) tn63 H rfl rfl rfl) fun w8 v10 cs4 H g12 => ?_
  replace H := hsn H
  refine p_want (gvl_at rfl rfl (k5 22)) hb2 <| bn hE3 fun y4 e4 hE3 => p_call (l := [v6, v10]) is69 rfl <| (r6_Cmp_c (subMem w8) (g8.mono H.sub) (RdS.ofOwn H (k := 0) rfl g12) e4).mono <| H.xe fun w9 H => p_want (gvl_at rfl rfl (k5 22)) hb2 <| p_val (r_neqI rfl rfl) <| p_val (r_pickt (v := .bool ((y4 != 0))) (k5 22) hb2 rfl) <| hR4 _ _ ?_
  replace H := H.sel [1] rfl
  replace H := hsn H
  obtain rfl := osi hE3
  exact J3 _ _ kcx rfl H
 ·replace hE3 := cnd_f hE3 hb2
  refine p_skip (gvl_at rfl rfl (k5 22)) hb2 ?_
  rw [put_fr]
  refine p_skip (gvl_at rfl rfl (k5 22)) hb2 ?_
  rw [put_fr]
  refine p_skip (gvl_at rfl rfl (k5 22)) hb2 ?_
  rw [put_fr]
  refine p_skip (gvl_at rfl rfl (k5 22)) hb2 ?_
  rw [put_fr]
  refine p_val (r_pickf (v := .bool (false)) (k5 22) hb2 rfl) <| hR4 _ _ ?_
  replace H := hsn H
  obtain rfl := osi hE3
  exact J3 _ _ kcx rfl H
end Go.Proofs.YtmbcolbbekbccaaGreat
namespace Go.Proofs.YtmbcolbbekbccaaGreat
open Go Go.RowKit
attribute [local irreducible] wpList wpT Code.wp Calls Code.rounds
theorem is38 : IsFn Tryz.prog 38 := isFn Tryz.func38
theorem is65 : IsFn Tryz.prog 65 := isFn Tryz.func65
theorem is106 : IsFn Tryz.prog 106 := isFn Tryz.func106
theorem is114 : IsFn Tryz.prog 114 := isFn Tryz.func114
theorem is115 : IsFn Tryz.prog 115 := isFn Tryz.func115
theorem is116 : IsFn Tryz.prog 116 := isFn Tryz.func116
theorem is117 : IsFn Tryz.prog 117 := isFn Tryz.func117
theorem is152 : IsFn Tryz.prog 152 := isFn Tryz.func152
def r7_b_p  : Option ((List UInt32)) :=
  Option.bind (r6_In_p ((4309448131093880907 : UInt64), (7285987128567378166 : UInt64), (12964664127075681980 : UInt64), (6540974713487397863 : UInt64))) fun y1 => some (y1)
theorem r7_b_c {S : Mem} {w : World} (hS : Sub S w)  {r : (List UInt32)} (hF : r7_b_p = some r) :
    Calls Tryz.prog 117 #[] w fun e w' => Ext w w' ∧ ∃ (v0' : Value), e = .returned (v0') ∧ RdS (gr S w w') v0' r := by
 refine enter (n := 3) Tryz.func117 rfl rfl rfl ?_
 have H := HS.start hS
 unfold r7_b_p at hF
 refine sr fun K1 hK1 => asN rfl <| xk hK1 <| sr fun K2 hK2 => p_val (r_build (vals := [(0, .int .u64 (4309448131093880907)), (1, .int .u64 (7285987128567378166)), (2, .int .u64 (12964664127075681980)), (3, .int .u64 (6540974713487397863))]) (l := (cl24 ((4309448131093880907 : UInt64), (7285987128567378166 : UInt64), (12964664127075681980 : UInt64), (6540974713487397863 : UInt64)))) tb24 rfl rfl) ?_
 refine bn hF fun y1 e1 hF => p_call (l := [.agg ((cl24 ((4309448131093880907 : UInt64), (7285987128567378166 : UInt64), (12964664127075681980 : UInt64), (6540974713487397863 : UInt64)))).toArray]) is38 rfl <| (r6_In_c H.sub e1).mono <| H.ye fun w1 v1 S1 hle1 H g1 => p_as (v := v1) rfl <| xk hK2 <| wp_ret ?_
 obtain rfl := osi hF
 refine e_1 rfl (q_tmp rfl) ?_
 exact ⟨H.toExt, _, rfl, RdS.mono g1 H.gr⟩
def r7_Base_p  : Option (Qp) :=
  some ((((17627433388654248598 : UInt64), (8575836109218198432 : UInt64), (17923454489921339634 : UInt64), (7716867327612699207 : UInt64)), ((14678990851816772085 : UInt64), (3156516839386865358 : UInt64), (10297457778147434006 : UInt64), (5756518291402817435 : UInt64)), false))
theorem r7_Base_c {S : Mem} {w : World} (hS : Sub S w)  {r : Qp} (hF : r7_Base_p = some r) :
    Calls Tryz.prog 83 #[] w fun e w' => e = .returned (.agg ((cl26 r)).toArray) ∧ Ext w w' := by
 refine enter (n := 4) Tryz.func83 rfl rfl rfl ?_
 have H := HS.start hS
 unfold r7_Base_p at hF
 refine sr fun K1 hK1 => p_ofb (a_alloc (l := (cl26 (((0 : UInt64), (0 : UInt64), (0 : UInt64), (0 : UInt64)), ((0 : UInt64), (0 : UInt64), (0 : UInt64), (0 : UInt64)), false))) H tz26 rfl) fun w1 b1 H => xk hK1 <| sr fun K2 hK2 => ?_
 refine p_val (r_build (vals := [(0, .int .u64 (17627433388654248598)), (1, .int .u64 (8575836109218198432)), (2, .int .u64 (17923454489921339634)), (3, .int .u64 (7716867327612699207))]) (l := (cl24 ((17627433388654248598 : UInt64), (8575836109218198432 : UInt64), (17923454489921339634 : UInt64), (7716867327612699207 : UInt64)))) tb24 rfl rfl) ?_
 refine p_val (r_build (vals := [(0, .int .u64 (14678990851816772085)), (1, .int .u64 (3156516839386865358)), (2, .int .u64 (10297457778147434006)), (3, .int .u64 (5756518291402817435))]) (l := (cl24 ((14678990851816772085 : UInt64), (3156516839386865358 : UInt64), (10297457778147434006 : UInt64), (5756518291402817435 : UInt64)))) tb24 rfl rfl) ?_
 refine p_val (r_build (vals := [(0, .agg ((cl24 ((17627433388654248598 : UInt64), (8575836109218198432 : UInt64), (17923454489921339634 : UInt64), (7716867327612699207 : UInt64)))).toArray), (1, .agg ((cl24 ((14678990851816772085 : UInt64), (3156516839386865358 : UInt64), (10297457778147434006 : UInt64), (5756518291402817435 : UInt64)))).toArray)]) (l := (cl26 (((17627433388654248598 : UInt64), (8575836109218198432 : UInt64), (17923454489921339634 : UInt64), (7716867327612699207 : UInt64)), ((14678990851816772085 : UInt64), (3156516839386865358 : UInt64), (10297457778147434006 : UInt64), (5756518291402817435 : UInt64)), false))) tb26 rfl rfl) ?_
 refine p_ofs (a_store (k := 0) (l := (cl26 (((17627433388654248598 : UInt64), (8575836109218198432 : UInt64), (17923454489921339634 : UInt64), (7716867327612699207 : UInt64)), ((14678990851816772085 : UInt64), (3156516839386865358 : UInt64), (10297457778147434006 : UInt64), (5756518291402817435 : UInt64)), false))) tsz26 H rfl rfl rfl (cells_agg _) rfl (onz rfl) rfl) fun w2 H => ?_
 replace H := hsn H
 refine xk hK2 <| wp_ret ?_
 obtain rfl := osi hF
 refine e_1 rfl (qh_cell (l := (cl26 (((17627433388654248598 : UInt64), (8575836109218198432 : UInt64), (17923454489921339634 : UInt64), (7716867327612699207 : UInt64)), ((14678990851816772085 : UInt64), (3156516839386865358 : UInt64), (10297457778147434006 : UInt64), (5756518291402817435 : UInt64)), false))) tg26 H rfl (k := 0) rfl rfl rfl) ?_
 exact ⟨rfl, H.toExt⟩
def r7_times_p (x0 : List UInt32) (x1 : List UInt32) : Option ((List UInt32)) :=
  Option.bind (r6_Product_p 0 x0 x1) fun y1 => some (y1)
theorem r7_times_c {S : Mem} {w : World} (hS : Sub S w) {v0_ : Value} {x0 : List UInt32} (h0_ : RdS S v0_ x0) {v1_ : Value} {x1 : List UInt32} (h1_ : RdS S v1_ x1) {r : (List UInt32)} (hF : r7_times_p x0 x1 = some r) :
    Calls Tryz.prog 116 #[v0_, v1_] w fun e w' => Ext w w' ∧ ∃ (v0' : Value), e = .returned (v0') ∧ RdS (gr S w w') v0' r := by
 refine enter (n := 8) Tryz.func116 rfl rfl rfl ?_
 have H := HS.start hS
 unfold r7_times_p at hF
 refine sr fun K1 hK1 => asN rfl <| xk hK1 <| sr fun K2 hK2 => p_mv (v := v0_) rfl <| p_mv (v := v1_) rfl <| bn hF fun y1 e1 hF => p_call (l := [.int .i64 (0), v0_, v1_]) is65 rfl <| (r6_Product_c H.sub h0_ h1_ e1).mono <| H.ye fun w1 v1 S1 hle1 H g1 => ?_
 replace h0_ := h0_.mono hle1
 replace h1_ := h1_.mono hle1
 refine p_as (v := v1) rfl <| xk hK2 <| wp_ret ?_
 obtain rfl := osi hF
 refine e_1 rfl (q_tmp rfl) ?_
 exact ⟨H.toExt, _, rfl, RdS.mono g1 H.gr⟩
def r7_plus_p (x0 : List UInt32) (x1 : List UInt32) : Option ((List UInt32)) :=
  Option.bind (r6_Sum_p 0 x0 x1) fun y1 => some (y1)
theorem r7_plus_c {S : Mem} {w : World} (hS : Sub S w) {v0_ : Value} {x0 : List UInt32} (h0_ : RdS S v0_ x0) {v1_ : Value} {x1 : List UInt32} (h1_ : RdS S v1_ x1) {r : (List UInt32)} (hF : r7_plus_p x0 x1 = some r) :
    Calls Tryz.prog 114 #[v0_, v1_] w fun e w' => Ext w w' ∧ ∃ (v0' : Value), e = .returned (v0') ∧ RdS (gr S w w') v0' r := by
 refine enter (n := 8) Tryz.func114 rfl rfl rfl ?_
 have H := HS.start hS
 unfold r7_plus_p at hF
 refine sr fun K1 hK1 => asN rfl <| xk hK1 <| sr fun K2 hK2 => p_mv (v := v0_) rfl <| p_mv (v := v1_) rfl <| bn hF fun y1 e1 hF => p_call (l := [.int .i64 (0), v0_, v1_]) is106 rfl <| (r6_Sum_c H.sub h0_ h1_ e1).mono <| H.ye fun w1 v1 S1 hle1 H g1 => ?_
 replace h0_ := h0_.mono hle1
 replace h1_ := h1_.mono hle1
 refine p_as (v := v1) rfl <| xk hK2 <| wp_ret ?_
 obtain rfl := osi hF
 refine e_1 rfl (q_tmp rfl) ?_
 exact ⟨H.toExt, _, rfl, RdS.mono g1 H.gr⟩
def r7_minus_p (x0 : List UInt32) (x1 : List UInt32) : Option ((List UInt32)) :=
  Option.bind (r6_Opposite_p 0 x1) fun y1 => Option.bind (r6_Sum_p 0 x0 y1) fun y2 => some (y2)
theorem r7_minus_c {S : Mem} {w : World} (hS : Sub S w) {v0_ : Value} {x0 : List UInt32} (h0_ : RdS S v0_ x0) {v1_ : Value} {x1 : List UInt32} (h1_ : RdS S v1_ x1) {r : (List UInt32)} (hF : r7_minus_p x0 x1 = some r) :
    Calls Tryz.prog 115 #[v0_, v1_] w fun e w' => Ext w w' ∧ ∃ (v0' : Value), e = .returned (v0') ∧ RdS (gr S w w') v0' r := by
 refine enter (n := 9) Tryz.func115 rfl rfl rfl ?_
 have H := HS.start hS
 unfold r7_minus_p at hF
 refine sr fun K1 hK1 => asN rfl <| xk hK1 <| sr fun K2 hK2 => p_mv (v := v0_) rfl <| p_mv (v := v1_) rfl <| bn hF fun y1 e1 hF => p_call (l := [.int .i64 (0), v1_]) is152 rfl <| (r6_Opposite_c H.sub h1_ e1).mono <| H.ye fun w1 v1 S1 hle1 H g1 => ?_
 replace h0_ := h0_.mono hle1
 replace h1_ := h1_.mono hle1
 refine bn hF fun y2 e2 hF => p_call (l := [.int .i64 (0), v0_, v1]) is106 rfl <| (r6_Sum_c H.sub h0_ g1 e2).mono <| H.ye fun w2 v2 S2 hle2 H g2 => ?_
 replace h0_ := h0_.mono hle2
 replace g1 := g1.mono hle2
 refine p_as (v := v2) rfl <| xk hK2 <| wp_ret ?_
 obtain rfl := osi hF
 refine e_1 rfl (q_tmp rfl) ?_
 exact ⟨H.toExt, _, rfl, RdS.mono g2 H.gr⟩
def r7_On_p (x0 : Qp) : Option (Bool) :=
  bif x0.2.2 then (Option.bind (bif ((x0.1 : Qw) == (((0 : UInt64), (0 : UInt64), (0 : UInt64), (0 : UInt64)) : Qw)) then (some (((x0.2.1 : Qw) == (((0 : UInt64), (0 : UInt64), (0 : UInt64), (0 : UInt64)) : Qw)))) else (some (false))) (fun t1 => some (t1))) else (Option.bind (r6_In_p x0.1) fun y1 => Option.bind (r6_In_p x0.2.1) fun y2 => Option.bind (r6_Modulus_p 0) fun y3 => Option.bind (r6_Cmp_p y1 y3) fun y4 => Option.bind (bif decide ((0 : Int) ≤ y4) then (some (true)) else (Option.bind (r6_Modulus_p 0) fun y5 => Option.bind (r6_Cmp_p y2 y5) fun y6 => some (decide ((0 : Int) ≤ y6)))) (fun t2 => bif t2 then (some (false)) else (Option.bind (r7_times_p y1 y1) fun y7 => Option.bind (r7_times_p y1 y7) fun y8 => Option.bind (r7_times_p ([(3 : UInt32)] : List UInt32) y1) fun y9 => Option.bind (r7_minus_p y8 y9) fun y10 => Option.bind (r7_b_p) fun y11 => Option.bind (r7_plus_p y10 y11) fun y12 => Option.bind (r7_times_p y2 y2) fun y13 => Option.bind (r6_Cmp_p y13 y12) fun y14 => some ((y14 == 0)))))
theorem r7_On_c {S : Mem} {w : World} (hS : Sub S w) {x0 : Qp} {r : Bool} (hF : r7_On_p x0 = some r) :
    Calls Tryz.prog 63 #[.agg ((cl26 x0)).toArray] w fun e w' => e = .returned (.bool (r)) ∧ Ext w w' := by
 refine enter (n := 51) Tryz.func63 rfl rfl rfl ?_
 have H := HS.start hS
 unfold r7_On_p at hF
 refine sr fun K1 hK1 => p_ofb (a_box (l := (cl26 x0)) H rfl) fun w1 b1 H => asB rfl <| xk hK1 <| wp_seq_k fun K2 hK2 => sr fun K3 hK3 => p_val (r_field fa26_2 rfl) <| p_val (h_load1 (v := .bool (x0.2.2)) to4 H rfl (k := 0) rfl rfl) <| xk hK3 ?_
 refine c_split rfl (fun hc1 => ?_) (fun hc1 => ?_)
 ·replace hF := cnd_t hF hc1
  refine sr fun K4 hK4 => p_val (r_field fa26_0 rfl) <| p_val (h_load (l := (cl24 x0.1)) tg24 H rfl (k := 0) rfl rfl rfl) <| p_val (r_build (vals := []) (l := (cl24 ((0 : UInt64), (0 : UInt64), (0 : UInt64), (0 : UInt64)))) tb24 rfl rfl) <| p_val (r_eqR eg24 (by decide) (eqt24 x0.1 ((0 : UInt64), (0 : UInt64), (0 : UInt64), (0 : UInt64))) rfl rfl) <| mvB rfl <| nameL fun m1 k1 => ?_
  refine gs_at 5 fun K5 hK5 R2 hR2 => bn hF fun t1 hE1 hF1 => ?_
  have J1 : ∀ (m2 : FM) (w2 : World), (∀ t, has [13, 14, 15, 16, 17] t = false → look m2 t = look m1 t) → look m2 17 = .bool (t1) → HS ⟨S, [], w⟩ S w2 [.blk b1 ((cl26 x0)) 26] → K5 m2 w2 := by
   clear H; intro m2 w2 k2 q1 H
   refine hK5 _ _ <| p_as q1 <| xk hK4 <| wp_ret <| x_ret ?_
   obtain rfl := osi hF1
   refine e_1 rfl (q_tmp rfl) ?_
   exact ⟨rfl, H.toExt⟩
  refine p_gs (j := 4) (gvl_at rfl rfl (k1 12)) (fun hb1 => ?_) (fun hb1 => ?_)
  ·replace hE1 := cnd_t hE1 hb1
   refine p_want (gvl_at rfl rfl (k1 12)) hb1 <| p_val (r_field fa26_1 (k1 1)) <| p_want (gvl_at rfl rfl (k1 12)) hb1 <| p_val (h_load (l := (cl24 x0.2.1)) tg24 H rfl (k := 0) rfl rfl rfl) <| p_want (gvl_at rfl rfl (k1 12)) hb1 <| p_val (r_build (vals := []) (l := (cl24 ((0 : UInt64), (0 : UInt64), (0 : UInt64), (0 : UInt64)))) tb24 rfl rfl) <| p_want (gvl_at rfl rfl (k1 12)) hb1 ?_
   refine p_val (r_eqR eg24 (by decide) (eqt24 x0.2.1 ((0 : UInt64), (0 : UInt64), (0 : UInt64), (0 : UInt64))) rfl rfl) <| p_val (r_pickt (v := .bool (((x0.2.1 : Qw) == (((0 : UInt64), (0 : UInt64), (0 : UInt64), (0 : UInt64)) : Qw)))) (k1 12) hb1 rfl) <| hR2 _ _ ?_
   replace H := hsn H
   obtain rfl := osi hE1
   exact J1 _ _ kcx rfl H
  ·replace hE1 := cnd_f hE1 hb1
   refine p_skip (gvl_at rfl rfl (k1 12)) hb1 ?_
   rw [put_fr]
   refine p_skip (gvl_at rfl rfl (k1 12)) hb1 ?_
   rw [put_fr]
   refine p_skip (gvl_at rfl rfl (k1 12)) hb1 ?_
   rw [put_fr]
   refine p_skip (gvl_at rfl rfl (k1 12)) hb1 ?_
   rw [put_fr]
   refine p_val (r_pickf (v := .bool (false)) (k1 12) hb1 rfl) <| hR2 _ _ ?_
   replace H := hsn H
   obtain rfl := osi hE1
   exact J1 _ _ kcx rfl H
 ·replace hF := cnd_f hF hc1
  refine wp_skip <| xn hK2 <| wp_seq_k fun K6 hK6 => bn hF fun y1 e1 hF => bn hF fun y2 e2 hF => ?_
  apply wp_region_ext 6 (kindsF [(2, .inr (fun g w' => RdS (gf S w1.drew g.f w') g.v y1)), (5, .inr (fun g w' => RdS (gf S w1.drew g.f w') g.v y2))]) rfl rfl (by kernel_rfl); intro vs1
  simp only [tkS, tkZ, drS, drZ]
  replace H := H.drew
  refine tp (r_field fa26_0 rfl) <| t_v (fun w hx => h_load (l := (cl24 x0.1)) tg24 (H.ext hx) rfl (k := 0) rfl rfl rfl) <| t_callF (l := [.agg ((cl24 x0.1)).toArray]) rfl rfl (stRd) is38 rfl (fun w hx hF => callRd hx (r6_In_c (gf_sub H.sub hx) e1)) <| tp (r_field fa26_1 rfl) <| t_v (fun w hx => h_load (l := (cl24 x0.2.1)) tg24 (H.ext hx) rfl (k := 0) rfl rfl rfl) ?_
  refine t_callF (l := [.agg ((cl24 x0.2.1)).toArray]) rfl rfl (stRd) is38 rfl (fun w hx hF => callRd hx (r6_In_c (gf_sub H.sub hx) e2)) ?_
  refine t_nil (fun w3 hx hF hA => ?_)
  obtain ⟨F1, hd1, h01⟩ := depE hF
  have g3 := RdS.mono (fact_relF hF 2 rfl rfl) (hd1 2 rfl rfl)
  have g4 := RdS.mono (fact_relF hF 5 rfl rfl) (hd1 5 rfl rfl)
  have hle1 := gf_le (F := F1) (w := w3) H.sub; replace H := H.callF (F := F1) hx; clear hx hF hA hd1 h01; generalize gf S w1.drew F1 w3 = S1 at hle1 H g3 g4
  refine p_as (v := (vs1 2).v) rfl <| p_as (v := (vs1 5).v) rfl ?_
  refine wpList_nil ?_; refine on_norm ?_
  refine xn hK6 <| wp_seq_k fun K7 hK7 => sr fun K8 hK8 => p_mv (v := (vs1 2).v) rfl <| bn hF fun y3 e3 hF => p_call (l := [.int .i64 (0)]) is71 rfl <| (r6_Modulus_c H.sub e3).mono <| H.ye fun w4 v1 S2 hle2 H g5 => ?_
  replace g3 := g3.mono hle2
  replace g4 := g4.mono hle2
  refine bn hF fun y4 e4 hF => p_call (l := [(vs1 2).v, v1]) is69 rfl <| (r6_Cmp_c H.sub g3 g5 e4).mono <| H.xe fun w5 H => p_val (r_geqI rfl rfl) <| mvB rfl <| nameL fun m3 k3 => gs_at 5 fun K9 hK9 R3 hR3 => bn hF fun t2 hE2 hF2 => ?_
  have J2 : ∀ (S4 : Mem) (m4 : FM) (w8 : World), (∀ t, has [29, 30, 31, 32, 33] t = false → look m4 t = look m3 t) → look m4 33 = .bool (t2) → Mem.le S2 S4 → HS ⟨S, [], w⟩ S4 w8 [.blk b1 ((cl26 x0)) 26] → K9 m4 w8 := by
   clear H; intro S4 m4 w8 k4 q2 hle4 H
   replace g3 := g3.mono hle4
   replace g4 := g4.mono hle4
   replace g5 := g5.mono hle4
   have q3 : look m4 3 = (vs1 2).v := (k4 3 rfl).trans (k3 3)
   have q4 : look m4 4 = (vs1 5).v := (k4 4 rfl).trans (k3 4)
   refine hK9 _ _ <| xk hK8 ?_
   refine c_split q2 (fun hc2 => ?_) (fun hc2 => ?_)
   ·replace hF2 := cnd_t hF2 hc2
    refine sr fun K10 hK10 => asB rfl <| xk hK10 <| wp_ret <| x_ret ?_
    obtain rfl := osi hF2
    refine e_1 rfl (q_tmp rfl) ?_
    exact ⟨rfl, H.toExt⟩
   ·replace hF2 := cnd_f hF2 hc2
    refine wp_skip <| xn hK7 <| sr fun K11 hK11 => p_mv (v := (vs1 2).v) q3 <| p_mv (v := (vs1 2).v) q3 <| p_mv (v := (vs1 2).v) q3 <| bn hF2 fun y7 e7 hF2 => p_call (l := [(vs1 2).v, (vs1 2).v]) is116 rfl <| (r7_times_c H.sub g3 g3 e7).mono <| H.ye fun w9 v3 S5 hle5 H g7 => ?_
    replace g3 := g3.mono hle5
    replace g4 := g4.mono hle5
    refine bn hF2 fun y8 e8 hF2 => p_call (l := [(vs1 2).v, v3]) is116 rfl <| (r7_times_c H.sub g3 g7 e8).mono <| H.ye fun w10 v4 S6 hle6 H g8 => ?_
    replace g3 := g3.mono hle6
    replace g4 := g4.mono hle6
    replace g7 := g7.mono hle6
    refine p_of2 (a_bsliceG (N := 1) (xs := ([(3 : UInt32)] : List UInt32)) (RL.cons (rpU32c (x := (3 : UInt32)) rfl) RL.nil) tn63 H rfl rfl rfl) fun w11 v5 cs1 H g9 => ?_
    replace H := hsn H
    refine p_mv (v := (vs1 2).v) q3 ?_
    obtain ⟨S7, hle7, g10, H1⟩ := H.fixX (k := 0) rfl g9; clear H; have H := H1; clear H1
    replace g3 := g3.mono hle7
    replace g4 := g4.mono hle7
    replace g8 := g8.mono hle7
    replace H := hsn H
    refine bn hF2 fun y9 e9 hF2 => p_call (l := [v5, (vs1 2).v]) is116 rfl <| (r7_times_c H.sub g10 g3 e9).mono <| H.ye fun w12 v6 S8 hle8 H g11 => ?_
    replace g3 := g3.mono hle8
    replace g4 := g4.mono hle8
    replace g8 := g8.mono hle8
    replace g10 := g10.mono hle8
    refine bn hF2 fun y10 e10 hF2 => p_call (l := [v4, v6]) is115 rfl <| (r7_minus_c H.sub g8 g11 e10).mono <| H.ye fun w13 v7 S9 hle9 H g12 => ?_
    replace g4 := g4.mono hle9
    replace g8 := g8.mono hle9
    replace g11 := g11.mono hle9
    refine bn hF2 fun y11 e11 hF2 => p_call (l := []) is117 rfl <| (r7_b_c H.sub e11).mono <| H.ye fun w14 v8 S10 hle10 H g13 => ?_
    replace g4 := g4.mono hle10
    replace g12 := g12.mono hle10
    refine bn hF2 fun y12 e12 hF2 => p_call (l := [v7, v8]) is114 rfl <| (r7_plus_c H.sub g12 g13 e12).mono <| H.ye fun w15 v9 S11 hle11 H g14 => ?_
    replace g4 := g4.mono hle11
    replace g12 := g12.mono hle11
    replace g13 := g13.mono hle11
    refine p_as (v := v9) rfl <| xk hK11 <| sr fun K12 hK12 => p_mv (v := (vs1 5).v) q4 <| p_mv (v := (vs1 5).v) q4 <| bn hF2 fun y13 e13 hF2 => p_call (l := [(vs1 5).v, (vs1 5).v]) is116 rfl <| (r7_times_c H.sub g4 g4 e13).mono <| H.ye fun w16 v10 S12 hle12 H g15 => ?_
    replace g4 := g4.mono hle12
    replace g14 := g14.mono hle12
    refine p_mv (v := v9) rfl <| bn hF2 fun y14 e14 hF2 => p_call (l := [v10, v9]) is69 rfl <| (r6_Cmp_c H.sub g15 g14 e14).mono <| H.xe fun w17 H => p_val (r_eqlI rfl rfl) <| asB rfl <| xk hK12 <| wp_ret ?_
    obtain rfl := osi hF2
    refine e_1 rfl (q_tmp rfl) ?_
    exact ⟨rfl, H.toExt⟩
  refine p_gs (j := 4) (gvl_at rfl rfl (k3 28)) (fun hb2 => ?_) (fun hb2 => ?_)
  ·replace hE2 := cnd_t hE2 hb2
   refine p_skip (gvl_at rfl rfl (k3 28)) hb2 ?_
   rw [put_fr]
   refine p_skip (gvl_at rfl rfl (k3 28)) hb2 ?_
   rw [put_fr]
   refine p_skip (gvl_at rfl rfl (k3 28)) hb2 ?_
   rw [put_fr]
   refine p_skip (gvl_at rfl rfl (k3 28)) hb2 ?_
   rw [put_fr]
   refine p_val (r_pickt (v := .bool (true)) (k3 28) hb2 rfl) <| hR3 _ _ ?_
   replace H := hsn H
   obtain rfl := osi hE2
   exact J2 _ _ _ kcx rfl (Mem.le_refl _) H
  ·replace hE2 := cnd_f hE2 hb2
   refine p_want (gvl_at rfl rfl (k3 28)) hb2 <| p_mv (v := (vs1 5).v) (k3 4) <| p_want (gvl_at rfl rfl (k3 28)) hb2 <| bn hE2 fun y5 e5 hE2 => p_call (l := [.int .i64 (0)]) is71 rfl <| (r6_Modulus_c H.sub e5).mono <| H.ye fun w6 v2 S3 hle3 H g6 => ?_
   replace g3 := g3.mono hle3
   replace g4 := g4.mono hle3
   refine p_want (gvl_at rfl rfl (k3 28)) hb2 <| bn hE2 fun y6 e6 hE2 => p_call (l := [(vs1 5).v, v2]) is69 rfl <| (r6_Cmp_c H.sub g4 g6 e6).mono <| H.xe fun w7 H => p_want (gvl_at rfl rfl (k3 28)) hb2 <| p_val (r_geqI rfl rfl) <| p_val (r_pickf (v := .bool (decide ((0 : Int) ≤ y6))) (k3 28) hb2 rfl) <| hR3 _ _ ?_
   replace H := hsn H
   obtain rfl := osi hE2
   exact J2 _ _ _ kcx rfl hle3 H
end Go.Proofs.YtmbcolbbekbccaaGreat
namespace Go.Proofs.YtmbcolbbekbccaaGreat
open Go Go.RowKit
attribute [local irreducible] wpList wpT Code.wp Calls Code.rounds
theorem tg65 : TAgg Tryz.prog 65 3 := ⟨fun _ => by kernel_rfl, fun _ => by kernel_rfl⟩
theorem to63 : TOne Tryz.prog 63 := ⟨fun _ => by kernel_rfl, fun _ => by kernel_rfl⟩
theorem tz65 : TZero Tryz.prog 65 (.agg #[.bool false, .slice none 0 0, .slice none 0 0]) := fun _ => by kernel_rfl
theorem is64 : IsFn Tryz.prog 64 := isFn Tryz.func64
theorem is124 : IsFn Tryz.prog 124 := isFn Tryz.func124
theorem is125 : IsFn Tryz.prog 125 := isFn Tryz.func125
theorem tb65 : TBuild Tryz.prog 65 (.agg #[.bool false, .slice none 0 0, .slice none 0 0]) [(0, 1), (1, 1), (2, 1)] := tbuildS (fs := fieldsOf Tryz.prog 65) (by kernel_rfl) tz65 (fun _ => by kernel_rfl)
theorem fa65_0 : TField Tryz.prog 65 0 0 := fun _ _ _ => by kernel_rfl
theorem fa65_1 : TField Tryz.prog 65 1 1 := fun _ _ _ => by kernel_rfl
theorem fa65_2 : TField Tryz.prog 65 2 2 := fun _ _ _ => by kernel_rfl
theorem tsz65 : TSz Tryz.prog 65 3 := fun _ => by kernel_rfl
def r7_In_p (x0 : Qp) : Option ((Bool × (List UInt32) × (List UInt32))) :=
  Option.bind (r6_In_p x0.1) fun y1 => Option.bind (r6_In_p x0.2.1) fun y2 => some ((x0.2.2, y1, y2))
theorem r7_In_c {S : Mem} {w : World} (hS : Sub S w) {x0 : Qp} {r : (Bool × (List UInt32) × (List UInt32))} (hF : r7_In_p x0 = some r) :
    Calls Tryz.prog 67 #[.agg ((cl26 x0)).toArray] w fun e w' => Ext w w' ∧ ∃ (c0' : List Value), e = .returned (.agg c0'.toArray) ∧ Rp.rep (gr S w w') c0' r := by
 refine enter (n := 12) Tryz.func67 rfl rfl rfl ?_
 have H := HS.start hS
 unfold r7_In_p at hF
 refine sr fun K1 hK1 => p_ofb (a_box (l := (cl26 x0)) H rfl) fun w1 b1 H => p_ofb (a_alloc (l := ([Value.bool (false)] ++ ([Value.slice none 0 0] ++ ([Value.slice none 0 0])))) H tz65 rfl) fun w2 b2 H => xk hK1 <| wp_seq_k fun K2 hK2 => bn hF fun y1 e1 hF => bn hF fun y2 e2 hF => ?_
 apply wp_region_ext 9 (kindsF [(4, .inr (fun g w' => RdS (gf S w2.drew g.f w') g.v y1)), (7, .inr (fun g w' => RdS (gf S w2.drew g.f w') g.v y2))]) rfl rfl (by kernel_rfl); intro vs1
 simp only [tkS, tkZ, drS, drZ]
 replace H := H.drew
 refine tp (r_field fa26_2 rfl) <| t_v (fun w hx => h_load1 (v := .bool (x0.2.2)) to4 (H.ext hx) rfl (k := 1) rfl rfl) <| tp (r_field fa26_0 rfl) <| t_v (fun w hx => h_load (l := (cl24 x0.1)) tg24 (H.ext hx) rfl (k := 1) rfl rfl rfl) <| t_callF (l := [.agg ((cl24 x0.1)).toArray]) rfl rfl (stRd) is38 rfl (fun w hx hF => callRd hx (r6_In_c (gf_sub H.sub hx) e1)) <| tp (r_field fa26_1 rfl) ?_
 refine t_v (fun w hx => h_load (l := (cl24 x0.2.1)) tg24 (H.ext hx) rfl (k := 1) rfl rfl rfl) <| t_callF (l := [.agg ((cl24 x0.2.1)).toArray]) rfl rfl (stRd) is38 rfl (fun w hx hF => callRd hx (r6_In_c (gf_sub H.sub hx) e2)) ?_
 refine t_valF (fun w hx hF => r_build (vals := [(0, .bool (x0.2.2)), (1, (vs1 4).v), (2, (vs1 7).v)]) (l := ([Value.bool (x0.2.2)] ++ ([(vs1 4).v] ++ ([(vs1 7).v])))) tb65 rfl (by simp only [fillL, lkp, RdS.cells (fact_relF hF 4 rfl rfl), RdS.cells (fact_relF hF 7 rfl rfl)]; rfl)) rfl rfl ?_
 refine t_nil (fun w3 hx hF hA => ?_)
 obtain ⟨F1, hd1, h01⟩ := depE hF
 have g3 := RdS.mono (fact_relF hF 4 rfl rfl) (hd1 4 rfl rfl)
 have g4 := RdS.mono (fact_relF hF 7 rfl rfl) (hd1 7 rfl rfl)
 have hle1 := gf_le (F := F1) (w := w3) H.sub; replace H := H.callF (F := F1) hx; clear hx hF hA hd1 h01; generalize gf S w2.drew F1 w3 = S1 at hle1 H g3 g4
 refine p_ofs (a_store (k := 0) (l := ([Value.bool (x0.2.2)] ++ ([(vs1 4).v] ++ ([(vs1 7).v])))) tsz65 H rfl rfl rfl (cells_agg _) rfl (Rp.one (rpP rpB (rpP (rpL g3) (rpL g4)))) rfl) fun w4 H => ?_
 replace H := hsn H
 refine wpList_nil ?_; refine on_norm ?_
 refine xn hK2 <| wp_ret ?_
 obtain rfl := osi hF
 refine e_1 rfl (qh_cell (l := ([Value.bool (x0.2.2)] ++ ([(vs1 4).v] ++ ([(vs1 7).v])))) tg65 H rfl (k := 0) rfl rfl rfl) ?_
 exact ⟨H.toExt, _, rfl, Rp.mono (rpP rpB (rpP (rpL g3) (rpL g4))) H.gr⟩
def r7_Point_Opposite_p (x0 : Bool × (List UInt32) × (List UInt32)) : Option ((Bool × (List UInt32) × (List UInt32))) :=
  bif x0.1 then (some (x0)) else (Option.bind (r6_Opposite_p 0 x0.2.2) fun y1 => some ((false, x0.2.1, y1)))
theorem r7_Point_Opposite_c {S : Mem} {w : World} (hS : Sub S w) {c0_ : List Value} {x0 : Bool × (List UInt32) × (List UInt32)} (h0_ : Rp.rep S c0_ x0) {r : (Bool × (List UInt32) × (List UInt32))} (hF : r7_Point_Opposite_p x0 = some r) :
    Calls Tryz.prog 125 #[.agg c0_.toArray] w fun e w' => Ext w w' ∧ ∃ (c0' : List Value), e = .returned (.agg c0'.toArray) ∧ Rp.rep (gr S w w') c0' r := by
 refine enter (n := 12) Tryz.func125 rfl rfl rfl ?_
 have H := HS.start hS
 obtain ⟨c1, c2, rfl, g1, g2⟩ := elP h0_
 obtain rfl := elB g1
 obtain ⟨c3, c4, rfl, g3, g4⟩ := elP g2
 obtain ⟨v1, rfl, g5⟩ := elL g3
 obtain ⟨v2, rfl, g6⟩ := elL g4
 unfold r7_Point_Opposite_p at hF
 refine sr fun K1 hK1 => p_ofb (a_box (l := ([Value.bool (x0.1)] ++ ([v1] ++ ([v2])))) H rfl) fun w1 b1 H => p_ofb (a_alloc (l := ([Value.bool (false)] ++ ([Value.slice none 0 0] ++ ([Value.slice none 0 0])))) H tz65 rfl) fun w2 b2 H => xk hK1 <| wp_seq_k fun K2 hK2 => sr fun K3 hK3 => p_val (r_field fa65_0 rfl) <| p_val (h_load1 (v := .bool (x0.1)) to4 H rfl (k := 1) rfl rfl) <| xk hK3 ?_
 refine c_split rfl (fun hc1 => ?_) (fun hc1 => ?_)
 ·replace hF := cnd_t hF hc1
  refine sr fun K4 hK4 => p_val (h_load (l := ([Value.bool (x0.1)] ++ ([v1] ++ ([v2])))) tg65 H rfl (k := 1) rfl rfl rfl) <| p_ofs (a_store (k := 0) (l := ([Value.bool (x0.1)] ++ ([v1] ++ ([v2])))) tsz65 H rfl rfl rfl (cells_agg _) rfl (Rp.one (rpP rpB (rpP (rpL g5) (rpL g6)))) rfl) fun w3 H => ?_
  replace H := hsn H
  refine xk hK4 <| wp_ret <| x_ret ?_
  obtain rfl := osi hF
  refine e_1 rfl (qh_cell (l := ([Value.bool (x0.1)] ++ ([v1] ++ ([v2])))) tg65 H rfl (k := 0) rfl rfl rfl) ?_
  exact ⟨H.toExt, _, rfl, Rp.mono (rpP rpB (rpP (rpL g5) (rpL g6))) H.gr⟩
 ·replace hF := cnd_f hF hc1
  refine wp_skip <| xn hK2 <| wp_seq_k fun K5 hK5 => bn hF fun y1 e1 hF => ?_
  apply wp_region_ext 6 (kindsF [(4, .inr (fun g w' => RdS (gf S w2.drew g.f w') g.v y1))]) rfl rfl (by kernel_rfl); intro vs1
  simp only [tkS, tkZ, drS, drZ]
  replace H := H.drew
  refine tp (r_field fa65_1 rfl) <| t_v (fun w hx => h_load1 (v := v1) to63 (H.ext hx) rfl (k := 1) rfl rfl) <| tp (r_field fa65_2 rfl) <| t_v (fun w hx => h_load1 (v := v2) to63 (H.ext hx) rfl (k := 1) rfl rfl) <| t_callF (l := [.int .i64 (0), v2]) rfl rfl (stRd) is152 rfl (fun w hx hF => callRd hx (r6_Opposite_c (gf_sub H.sub hx) (g6.mono (gf_le H.sub)) e1)) ?_
  refine t_valF (fun w hx hF => r_build (vals := [(1, v1), (2, (vs1 4).v)]) (l := ([Value.bool (false)] ++ ([v1] ++ ([(vs1 4).v])))) tb65 rfl (by simp only [fillL, lkp, RdS.cells g5, RdS.cells (fact_relF hF 4 rfl rfl)]; rfl)) rfl rfl ?_
  refine t_nil (fun w4 hx hF hA => ?_)
  obtain ⟨F1, hd1, h01⟩ := depE hF
  have g8 := RdS.mono (fact_relF hF 4 rfl rfl) (hd1 4 rfl rfl)
  have hle1 := gf_le (F := F1) (w := w4) H.sub; replace H := H.callF (F := F1) hx; clear hx hF hA hd1 h01; generalize gf S w2.drew F1 w4 = S1 at hle1 H g8
  replace g5 := g5.mono hle1
  replace g6 := g6.mono hle1
  refine p_ofs (a_store (k := 0) (l := ([Value.bool (false)] ++ ([v1] ++ ([(vs1 4).v])))) tsz65 H rfl rfl rfl (cells_agg _) rfl (Rp.one (rpP rpB (rpP (rpL g5) (rpL g8)))) rfl) fun w5 H => ?_
  replace H := hsn H
  refine wpList_nil ?_; refine on_norm ?_
  refine xn hK5 <| wp_ret ?_
  obtain rfl := osi hF
  refine e_1 rfl (qh_cell (l := ([Value.bool (false)] ++ ([v1] ++ ([(vs1 4).v])))) tg65 H rfl (k := 0) rfl rfl rfl) ?_
  exact ⟨H.toExt, _, rfl, Rp.mono (rpP rpB (rpP (rpL g5) (rpL g8))) H.gr⟩
def r7_Point_Same_p (x0 : Bool × (List UInt32) × (List UInt32)) (x1 : Bool × (List UInt32) × (List UInt32)) : Option (Bool) :=
  Option.bind (bif x0.1 then (some (x1.1)) else (some (false))) (fun t1 => Option.bind (bif t1 then (some (true)) else (Option.bind (bif (!x0.1) then (some ((!x1.1))) else (some (false))) (fun t3 => Option.bind (bif t3 then (Option.bind (r6_Cmp_p x0.2.1 x1.2.1) fun y1 => some ((y1 == 0))) else (some (false))) (fun t4 => Option.bind (bif t4 then (Option.bind (r6_Cmp_p x0.2.2 x1.2.2) fun y2 => some ((y2 == 0))) else (some (false))) (fun t5 => some (t5)))))) (fun t2 => some (t2)))
theorem r7_Point_Same_c {S : Mem} {w : World} (hS : Sub S w) {c0_ : List Value} {x0 : Bool × (List UInt32) × (List UInt32)} (h0_ : Rp.rep S c0_ x0) {c1_ : List Value} {x1 : Bool × (List UInt32) × (List UInt32)} (h1_ : Rp.rep S c1_ x1) {r : Bool} (hF : r7_Point_Same_p x0 x1 = some r) :
    Calls Tryz.prog 124 #[.agg c0_.toArray, .agg c1_.toArray] w fun e w' => e = .returned (.bool (r)) ∧ Ext w w' := by
 refine enter (n := 37) Tryz.func124 rfl rfl rfl ?_
 have H := HS.start hS
 obtain ⟨c1, c2, rfl, g1, g2⟩ := elP h0_
 obtain rfl := elB g1
 obtain ⟨c3, c4, rfl, g3, g4⟩ := elP g2
 obtain ⟨v1, rfl, g5⟩ := elL g3
 obtain ⟨v2, rfl, g6⟩ := elL g4
 obtain ⟨c5, c6, rfl, g7, g8⟩ := elP h1_
 obtain rfl := elB g7
 obtain ⟨c7, c8, rfl, g9, g10⟩ := elP g8
 obtain ⟨v3, rfl, g11⟩ := elL g9
 obtain ⟨v4, rfl, g12⟩ := elL g10
 unfold r7_Point_Same_p at hF
 refine sr fun K1 hK1 => p_ofb (a_box (l := ([Value.bool (x0.1)] ++ ([v1] ++ ([v2])))) H rfl) fun w1 b1 H => p_ofb (a_box (l := ([Value.bool (x1.1)] ++ ([v3] ++ ([v4])))) H rfl) fun w2 b2 H => asB rfl <| xk hK1 <| sr fun K2 hK2 => p_val (r_field fa65_0 rfl) <| p_val (h_load1 (v := .bool (x0.1)) to4 H rfl (k := 1) rfl rfl) <| mvB rfl ?_
 refine nameL fun m1 k1 => gs_at 3 fun K3 hK3 R3 hR3 => bn hF fun t1 hE1 hF1 => ?_
 have J5 : ∀ (m2 : FM) (w3 : World), (∀ t, has [8, 9, 10] t = false → look m2 t = look m1 t) → look m2 10 = .bool (t1) → HS ⟨S, [], w⟩ S w3 [.blk b2 (([Value.bool (x1.1)] ++ ([v3] ++ ([v4])))) 65, .blk b1 (([Value.bool (x0.1)] ++ ([v1] ++ ([v2])))) 65] → K3 m2 w3 := by
  clear H; intro m2 w3 k2 q1 H
  have q2 : look m2 2 = .pointer (some ⟨b1, 0, none⟩) := (k2 2 rfl).trans (k1 2)
  have q3 : look m2 3 = .pointer (some ⟨b2, 0, none⟩) := (k2 3 rfl).trans (k1 3)
  refine hK3 _ _ <| p_mv q1 <| nameL fun m3 k3 => gs_at 25 fun K4 hK4 R4 hR4 => bn hF1 fun t2 hE2 hF2 => ?_
  have J4 : ∀ (m10 : FM) (w9 : World), (∀ t, has (rg 12 25 []) t = false → look m10 t = look m3 t) → look m10 36 = .bool (t2) → HS ⟨S, [], w⟩ S w9 [.blk b2 (([Value.bool (x1.1)] ++ ([v3] ++ ([v4])))) 65, .blk b1 (([Value.bool (x0.1)] ++ ([v1] ++ ([v2])))) 65] → K4 m10 w9 := by
   clear H; intro m10 w9 k10 q14 H
   refine hK4 _ _ <| p_as q14 <| xk hK2 <| wp_ret ?_
   obtain rfl := osi hF2
   refine e_1 rfl (q_tmp rfl) ?_
   exact ⟨rfl, H.toExt⟩
  refine p_gs (j := 6) (gvl_at rfl rfl (k3 11)) (fun hb2 => ?_) (fun hb2 => ?_)
  ·replace hE2 := cnd_t hE2 hb2
   refine p_skip (gvl_at rfl rfl (k3 11)) hb2 ?_
   rw [put_fr]
   refine p_skip (gvl_at rfl rfl (k3 11)) hb2 ?_
   rw [put_fr]
   refine p_skip (gvl_at rfl rfl (k3 11)) hb2 ?_
   rw [put_fr]
   refine p_skip (gvl_at rfl rfl (k3 11)) hb2 ?_
   rw [put_fr]
   refine p_skipU rfl ?_
   rw [put_fr]
   refine p_skipU rfl ?_
   rw [put_fr]
   refine p_skipU rfl ?_
   rw [put_fr]
   refine p_skip (gvl_at rfl rfl (k3 11)) hb2 ?_
   rw [put_fr]
   refine p_skip (gvl_at rfl rfl (k3 11)) hb2 ?_
   rw [put_fr]
   refine p_skipU rfl ?_
   rw [put_fr]
   refine p_skipU rfl ?_
   rw [put_fr]
   refine p_skipU rfl ?_
   rw [put_fr]
   refine p_skipU rfl ?_
   rw [put_fr]
   refine p_skipU rfl ?_
   rw [put_fr]
   refine p_skipU rfl ?_
   rw [put_fr]
   refine p_skip (gvl_at rfl rfl (k3 11)) hb2 ?_
   rw [put_fr]
   refine p_skip (gvl_at rfl rfl (k3 11)) hb2 ?_
   rw [put_fr]
   refine p_skipU rfl ?_
   rw [put_fr]
   refine p_skipU rfl ?_
   rw [put_fr]
   refine p_skipU rfl ?_
   rw [put_fr]
   refine p_skipU rfl ?_
   rw [put_fr]
   refine p_skipU rfl ?_
   rw [put_fr]
   refine p_skipU rfl ?_
   rw [put_fr]
   refine p_skip (gvl_at rfl rfl (k3 11)) hb2 ?_
   rw [put_fr]
   refine p_val (r_pickt (v := .bool (true)) (k3 11) hb2 rfl) <| hR4 _ _ ?_
   replace H := hsn H
   obtain rfl := osi hE2
   exact J4 _ _ kcx rfl H
  ·replace hE2 := cnd_f hE2 hb2
   refine p_want (gvl_at rfl rfl (k3 11)) hb2 <| p_val (r_field fa65_0 ((k3 2).trans q2)) <| p_want (gvl_at rfl rfl (k3 11)) hb2 <| p_val (h_load1 (v := .bool (x0.1)) to4 H rfl (k := 1) rfl rfl) <| p_want (gvl_at rfl rfl (k3 11)) hb2 <| p_val (r_not (t := (!x0.1)) rfl rfl) <| p_want (gvl_at rfl rfl (k3 11)) hb2 <| mvB rfl <| nameL fun m4 k4 => ?_
   refine gs_at 4 fun K5 hK5 R5 hR5 => bn hE2 fun t3 hE3 hF3 => ?_
   have J3 : ∀ (m5 : FM) (w4 : World), (∀ t, has [16, 17, 18, 19] t = false → look m5 t = look m4 t) → look m5 19 = .bool (t3) → HS ⟨S, [], w⟩ S w4 [.blk b2 (([Value.bool (x1.1)] ++ ([v3] ++ ([v4])))) 65, .blk b1 (([Value.bool (x0.1)] ++ ([v1] ++ ([v2])))) 65] → K5 m5 w4 := by
    clear H; intro m5 w4 k5 q4 H
    have q5 := (k5 2 rfl).trans ((k4 2).trans ((k3 2).trans q2))
    have q6 := (k5 3 rfl).trans ((k4 3).trans ((k3 3).trans q3))
    have q7 : look m5 11 = .bool (t1) := (k5 11 rfl).trans ((k4 11).trans (k3 11))
    refine hK5 _ _ <| p_want (gvl_at rfl rfl q7) hb2 <| p_mv q4 <| nameL fun m6 k6 => gs_at 7 fun K6 hK6 R6 hR6 => bn hF3 fun t4 hE4 hF4 => ?_
    have J2 : ∀ (m7 : FM) (w6 : World), (∀ t, has (rg 21 7 []) t = false → look m7 t = look m6 t) → look m7 27 = .bool (t4) → HS ⟨S, [], w⟩ S w6 [.blk b2 (([Value.bool (x1.1)] ++ ([v3] ++ ([v4])))) 65, .blk b1 (([Value.bool (x0.1)] ++ ([v1] ++ ([v2])))) 65] → K6 m7 w6 := by
     clear H; intro m7 w6 k7 q8 H
     have q9 := (k7 2 rfl).trans ((k6 2).trans q5)
     have q10 := (k7 3 rfl).trans ((k6 3).trans q6)
     have q11 := (k7 11 rfl).trans ((k6 11).trans q7)
     refine hK6 _ _ <| p_want (gvl_at rfl rfl q11) hb2 <| p_mv q8 <| nameL fun m8 k8 => gs_at 7 fun K7 hK7 R7 hR7 => bn hF4 fun t5 hE5 hF5 => ?_
     have J1 : ∀ (m9 : FM) (w8 : World), (∀ t, has (rg 29 7 []) t = false → look m9 t = look m8 t) → look m9 35 = .bool (t5) → HS ⟨S, [], w⟩ S w8 [.blk b2 (([Value.bool (x1.1)] ++ ([v3] ++ ([v4])))) 65, .blk b1 (([Value.bool (x0.1)] ++ ([v1] ++ ([v2])))) 65] → K7 m9 w8 := by
      clear H; intro m9 w8 k9 q12 H
      have q13 := (k9 11 rfl).trans ((k8 11).trans q11)
      refine hK7 _ _ <| p_val (r_pickf (v := .bool (t5)) q13 hb2 q12) <| hR4 _ _ ?_
      replace H := hsn H
      obtain rfl := osi hF5
      exact J4 _ _ (kS k9 rfl (kN k8 (kS k7 rfl (kN k6 (kS k5 rfl (kN k4 kcx)))))) rfl H
     refine p_gs (j := 23) (gvl_at rfl rfl (k8 28)) (fun hb5 => ?_) (fun hb5 => ?_)
     ·replace hE5 := cnd_t hE5 hb5
      refine p_want (gvl_at rfl rfl (k8 28)) hb5 <| p_val (r_field fa65_2 ((k8 2).trans q9)) <| p_want (gvl_at rfl rfl (k8 28)) hb5 <| p_val (h_load1 (v := v2) to63 H rfl (k := 1) rfl rfl) <| p_want (gvl_at rfl rfl (k8 28)) hb5 <| p_val (r_field fa65_2 ((k8 3).trans q10)) <| p_want (gvl_at rfl rfl (k8 28)) hb5 <| p_val (h_load1 (v := v4) to63 H rfl (k := 0) rfl rfl) <| p_want (gvl_at rfl rfl (k8 28)) hb5 ?_
      refine bn hE5 fun y2 e2 hE5 => p_call (l := [v2, v4]) is69 rfl <| (r6_Cmp_c H.sub g6 g12 e2).mono <| H.xe fun w7 H => p_want (gvl_at rfl rfl (k8 28)) hb5 <| p_val (r_eqlI rfl rfl) <| p_want (gvl_at rfl rfl ((k8 11).trans q11)) hb2 <| p_val (r_pickt (v := .bool ((y2 == 0))) (k8 28) hb5 rfl) <| hR7 _ _ ?_
      replace H := hsn H
      obtain rfl := osi hE5
      exact J1 _ _ kcx rfl H
     ·replace hE5 := cnd_f hE5 hb5
      refine p_skip (gvl_at rfl rfl (k8 28)) hb5 ?_
      rw [put_fr]
      refine p_skip (gvl_at rfl rfl (k8 28)) hb5 ?_
      rw [put_fr]
      refine p_skip (gvl_at rfl rfl (k8 28)) hb5 ?_
      rw [put_fr]
      refine p_skip (gvl_at rfl rfl (k8 28)) hb5 ?_
      rw [put_fr]
      refine p_skip (gvl_at rfl rfl (k8 28)) hb5 ?_
      rw [put_fr]
      refine p_skip (gvl_at rfl rfl (k8 28)) hb5 ?_
      rw [put_fr]
      refine p_want (gvl_at rfl rfl ((k8 11).trans q11)) hb2 <| p_val (r_pickf (v := .bool (false)) (k8 28) hb5 rfl) <| hR7 _ _ ?_
      replace H := hsn H
      obtain rfl := osi hE5
      exact J1 _ _ kcx rfl H
    refine p_gs (j := 15) (gvl_at rfl rfl (k6 20)) (fun hb4 => ?_) (fun hb4 => ?_)
    ·replace hE4 := cnd_t hE4 hb4
     refine p_want (gvl_at rfl rfl (k6 20)) hb4 <| p_val (r_field fa65_1 ((k6 2).trans q5)) <| p_want (gvl_at rfl rfl (k6 20)) hb4 <| p_val (h_load1 (v := v1) to63 H rfl (k := 1) rfl rfl) <| p_want (gvl_at rfl rfl (k6 20)) hb4 <| p_val (r_field fa65_1 ((k6 3).trans q6)) <| p_want (gvl_at rfl rfl (k6 20)) hb4 <| p_val (h_load1 (v := v3) to63 H rfl (k := 0) rfl rfl) <| p_want (gvl_at rfl rfl (k6 20)) hb4 ?_
     refine bn hE4 fun y1 e1 hE4 => p_call (l := [v1, v3]) is69 rfl <| (r6_Cmp_c H.sub g5 g11 e1).mono <| H.xe fun w5 H => p_want (gvl_at rfl rfl (k6 20)) hb4 <| p_val (r_eqlI rfl rfl) <| p_want (gvl_at rfl rfl ((k6 11).trans q7)) hb2 <| p_val (r_pickt (v := .bool ((y1 == 0))) (k6 20) hb4 rfl) <| hR6 _ _ ?_
     replace H := hsn H
     obtain rfl := osi hE4
     exact J2 _ _ kcx rfl H
    ·replace hE4 := cnd_f hE4 hb4
     refine p_skip (gvl_at rfl rfl (k6 20)) hb4 ?_
     rw [put_fr]
     refine p_skip (gvl_at rfl rfl (k6 20)) hb4 ?_
     rw [put_fr]
     refine p_skip (gvl_at rfl rfl (k6 20)) hb4 ?_
     rw [put_fr]
     refine p_skip (gvl_at rfl rfl (k6 20)) hb4 ?_
     rw [put_fr]
     refine p_skip (gvl_at rfl rfl (k6 20)) hb4 ?_
     rw [put_fr]
     refine p_skip (gvl_at rfl rfl (k6 20)) hb4 ?_
     rw [put_fr]
     refine p_want (gvl_at rfl rfl ((k6 11).trans q7)) hb2 <| p_val (r_pickf (v := .bool (false)) (k6 20) hb4 rfl) <| hR6 _ _ ?_
     replace H := hsn H
     obtain rfl := osi hE4
     exact J2 _ _ kcx rfl H
   refine p_gs (j := 10) (gvl_at rfl rfl (k4 15)) (fun hb3 => ?_) (fun hb3 => ?_)
   ·replace hE3 := cnd_t hE3 hb3
    refine p_want (gvl_at rfl rfl (k4 15)) hb3 <| p_val (r_field fa65_0 ((k4 3).trans ((k3 3).trans q3))) <| p_want (gvl_at rfl rfl (k4 15)) hb3 <| p_val (h_load1 (v := .bool (x1.1)) to4 H rfl (k := 0) rfl rfl) <| p_want (gvl_at rfl rfl (k4 15)) hb3 <| p_val (r_not (t := (!x1.1)) rfl rfl) <| p_want (gvl_at rfl rfl ((k4 11).trans (k3 11))) hb2 <| p_val (r_pickt (v := .bool ((!x1.1))) (k4 15) hb3 rfl) <| hR5 _ _ ?_
    replace H := hsn H
    obtain rfl := osi hE3
    exact J3 _ _ kcx rfl H
   ·replace hE3 := cnd_f hE3 hb3
    refine p_skip (gvl_at rfl rfl (k4 15)) hb3 ?_
    rw [put_fr]
    refine p_skip (gvl_at rfl rfl (k4 15)) hb3 ?_
    rw [put_fr]
    refine p_skip (gvl_at rfl rfl (k4 15)) hb3 ?_
    rw [put_fr]
    refine p_want (gvl_at rfl rfl ((k4 11).trans (k3 11))) hb2 <| p_val (r_pickf (v := .bool (false)) (k4 15) hb3 rfl) <| hR5 _ _ ?_
    replace H := hsn H
    obtain rfl := osi hE3
    exact J3 _ _ kcx rfl H
 refine p_gs (j := 2) (gvl_at rfl rfl (k1 7)) (fun hb1 => ?_) (fun hb1 => ?_)
 ·replace hE1 := cnd_t hE1 hb1
  refine p_want (gvl_at rfl rfl (k1 7)) hb1 <| p_val (r_field fa65_0 (k1 3)) <| p_want (gvl_at rfl rfl (k1 7)) hb1 <| p_val (h_load1 (v := .bool (x1.1)) to4 H rfl (k := 0) rfl rfl) <| p_val (r_pickt (v := .bool (x1.1)) (k1 7) hb1 rfl) <| hR3 _ _ ?_
  replace H := hsn H
  obtain rfl := osi hE1
  exact J5 _ _ kcx rfl H
 ·replace hE1 := cnd_f hE1 hb1
  refine p_skip (gvl_at rfl rfl (k1 7)) hb1 ?_
  rw [put_fr]
  refine p_skip (gvl_at rfl rfl (k1 7)) hb1 ?_
  rw [put_fr]
  refine p_val (r_pickf (v := .bool (false)) (k1 7) hb1 rfl) <| hR3 _ _ ?_
  replace H := hsn H
  obtain rfl := osi hE1
  exact J5 _ _ kcx rfl H
def r7_Point_Sum_p (x0 : Bool × (List UInt32) × (List UInt32)) (x1 : Bool × (List UInt32) × (List UInt32)) : Option ((Bool × (List UInt32) × (List UInt32))) :=
  bif x0.1 then (some (x1)) else (bif x1.1 then (some (x0)) else (Option.bind (r7_Point_Opposite_p x1) fun y1 => Option.bind (r7_Point_Same_p x0 y1) fun y2 => bif y2 then (some ((true, ([] : List UInt32), ([] : List UInt32)))) else (Option.bind (r7_minus_p x1.2.2 x0.2.2) fun y3 => Option.bind (r7_minus_p x1.2.1 x0.2.1) fun y4 => Option.bind (Option.bind (r7_Point_Same_p x0 x1) fun y5 => bif y5 then (Option.bind (r7_times_p x0.2.1 x0.2.1) fun y6 => Option.bind (r7_times_p ([(3 : UInt32)] : List UInt32) y6) fun y7 => Option.bind (r7_minus_p y7 ([(3 : UInt32)] : List UInt32)) fun y8 => Option.bind (r7_plus_p x0.2.2 x0.2.2) fun y9 => some ((y8, y9))) else (some ((y3, y4)))) (fun t1 => Option.bind (r6_Inverse_p 0 t1.2) fun y10 => Option.bind (r7_times_p t1.1 y10) fun y11 => Option.bind (r7_times_p y11 y11) fun y12 => Option.bind (r7_minus_p y12 x0.2.1) fun y13 => Option.bind (r7_minus_p y13 x1.2.1) fun y14 => Option.bind (r7_minus_p x0.2.1 y14) fun y15 => Option.bind (r7_times_p y11 y15) fun y16 => Option.bind (r7_minus_p y16 x0.2.2) fun y17 => some ((false, y14, y17))))))
theorem r7_Point_Sum_c {S : Mem} {w : World} (hS : Sub S w) {c0_ : List Value} {x0 : Bool × (List UInt32) × (List UInt32)} (h0_ : Rp.rep S c0_ x0) {c1_ : List Value} {x1 : Bool × (List UInt32) × (List UInt32)} (h1_ : Rp.rep S c1_ x1) {r : (Bool × (List UInt32) × (List UInt32))} (hF : r7_Point_Sum_p x0 x1 = some r) :
    Calls Tryz.prog 66 #[.agg c0_.toArray, .agg c1_.toArray] w fun e w' => Ext w w' ∧ ∃ (c0' : List Value), e = .returned (.agg c0'.toArray) ∧ Rp.rep (gr S w w') c0' r := by
 refine enter (n := 74) Tryz.func66 rfl rfl rfl ?_
 have H := HS.start hS
 obtain ⟨c1, c2, rfl, g1, g2⟩ := elP h0_
 obtain rfl := elB g1
 obtain ⟨c3, c4, rfl, g3, g4⟩ := elP g2
 obtain ⟨v1, rfl, g5⟩ := elL g3
 obtain ⟨v2, rfl, g6⟩ := elL g4
 obtain ⟨c5, c6, rfl, g7, g8⟩ := elP h1_
 obtain rfl := elB g7
 obtain ⟨c7, c8, rfl, g9, g10⟩ := elP g8
 obtain ⟨v3, rfl, g11⟩ := elL g9
 obtain ⟨v4, rfl, g12⟩ := elL g10
 unfold r7_Point_Sum_p at hF
 refine sr fun K1 hK1 => p_ofb (a_box (l := ([Value.bool (x0.1)] ++ ([v1] ++ ([v2])))) H rfl) fun w1 b1 H => p_ofb (a_box (l := ([Value.bool (x1.1)] ++ ([v3] ++ ([v4])))) H rfl) fun w2 b2 H => p_ofb (a_alloc (l := ([Value.bool (false)] ++ ([Value.slice none 0 0] ++ ([Value.slice none 0 0])))) H tz65 rfl) fun w3 b3 H => xk hK1 <| wp_seq_k fun K2 hK2 => wp_block <| sr fun K3 hK3 => ?_
 refine p_val (r_field fa65_0 rfl) <| p_val (h_load1 (v := .bool (x0.1)) to4 H rfl (k := 2) rfl rfl) <| asB rfl <| xk hK3 ?_
 refine c_split rfl (fun hc1 => ?_) (fun hc1 => ?_)
 ·replace hF := cnd_t hF hc1
  refine sr fun K4 hK4 => p_val (h_load (l := ([Value.bool (x1.1)] ++ ([v3] ++ ([v4])))) tg65 H rfl (k := 1) rfl rfl rfl) <| p_ofs (a_store (k := 0) (l := ([Value.bool (x1.1)] ++ ([v3] ++ ([v4])))) tsz65 H rfl rfl rfl (cells_agg _) rfl (Rp.one (rpP rpB (rpP (rpL g11) (rpL g12)))) rfl) fun w4 H => ?_
  replace H := hsn H
  refine xk hK4 <| wp_ret <| b_ret <| x_ret ?_
  obtain rfl := osi hF
  refine e_1 rfl (qh_cell (l := ([Value.bool (x1.1)] ++ ([v3] ++ ([v4])))) tg65 H rfl (k := 0) rfl rfl rfl) ?_
  exact ⟨H.toExt, _, rfl, Rp.mono (rpP rpB (rpP (rpL g11) (rpL g12))) H.gr⟩
 ·replace hF := cnd_f hF hc1
  refine sr fun K5 hK5 => p_val (r_field fa65_0 rfl) <| p_val (h_load1 (v := .bool (x1.1)) to4 H rfl (k := 1) rfl rfl) <| asB rfl <| xk hK5 ?_
  refine c_split rfl (fun hc2 => ?_) (fun hc2 => ?_)
  ·replace hF := cnd_t hF hc2
   refine sr fun K6 hK6 => p_val (h_load (l := ([Value.bool (x0.1)] ++ ([v1] ++ ([v2])))) tg65 H rfl (k := 2) rfl rfl rfl) <| p_ofs (a_store (k := 0) (l := ([Value.bool (x0.1)] ++ ([v1] ++ ([v2])))) tsz65 H rfl rfl rfl (cells_agg _) rfl (Rp.one (rpP rpB (rpP (rpL g5) (rpL g6)))) rfl) fun w5 H => ?_
   replace H := hsn H
   refine xk hK6 <| wp_ret <| b_ret <| x_ret ?_
   obtain rfl := osi hF
   refine e_1 rfl (qh_cell (l := ([Value.bool (x0.1)] ++ ([v1] ++ ([v2])))) tg65 H rfl (k := 0) rfl rfl rfl) ?_
   exact ⟨H.toExt, _, rfl, Rp.mono (rpP rpB (rpP (rpL g5) (rpL g6))) H.gr⟩
  ·replace hF := cnd_f hF hc2
   refine wp_seq_k fun K7 hK7 => bn hF fun y1 e1 hF => bn hF fun y2 e2 hF => ?_
   apply wp_region_ext 4 (kindsF [(2, .inr (fun g w' => ∃ c0', g.v = .agg c0'.toArray ∧ Rp.rep (gf S w3.drew g.f w') c0' y1)), (3, .inl (.bool (y2)))]) rfl rfl (by kernel_rfl); intro vs1
   simp only [tkS, tkZ, drS, drZ]
   replace H := H.drew
   refine t_v (fun w hx => h_load (l := ([Value.bool (x0.1)] ++ ([v1] ++ ([v2])))) tg65 (H.ext hx) rfl (k := 2) rfl rfl rfl) <| t_v (fun w hx => h_load (l := ([Value.bool (x1.1)] ++ ([v3] ++ ([v4])))) tg65 (H.ext hx) rfl (k := 1) rfl rfl rfl) ?_
   refine t_callF (l := [.agg (([Value.bool (x1.1)] ++ ([v3] ++ ([v4])))).toArray]) rfl rfl (fun _ _ _ ⟨c0', e, h0⟩ hx => ⟨c0', e, Rp.mono h0 (gf_mono hx)⟩) is125 rfl (fun w hx hF => (r7_Point_Opposite_c (gf_sub H.sub hx) (rpP rpB (rpP (rpL (g11.mono (gf_le H.sub))) (rpL (g12.mono (gf_le H.sub))))) e1).mono (fun _ w' ⟨hx2, c0', he, h0⟩ => ⟨_, he, hx2, c0', rfl, Rp.mono h0 (gr_gf hx hx2)⟩)) ?_
   refine t_call (l := [.agg (([Value.bool (x0.1)] ++ ([v1] ++ ([v2])))).toArray, (vs1 2).v]) rfl rfl is124 rfl (fun w hx hF => by obtain ⟨c0_, e0_, h0_⟩ := (fact_relF hF 2 rfl rfl); rw [e0_]; exact (r7_Point_Same_c (gf_sub H.sub hx) (rpP rpB (rpP (rpL (g5.mono (gf_le H.sub))) (rpL (g6.mono (gf_le H.sub))))) (Rp.mono h0_ (dep_of hF 2 rfl rfl)) e2).mono (fun _ _ h => h)) ?_
   refine t_nil (fun w6 hx hF hA => ?_)
   obtain ⟨F1, hd1, h01⟩ := depE hF
   obtain ⟨c9, eq1, g13⟩ := fact_relF hF 2 rfl rfl
   replace g13 := Rp.mono g13 (hd1 2 rfl rfl)
   have hle1 := gf_le (F := F1) (w := w6) H.sub; replace H := H.callF (F := F1) hx; clear hx hF hA hd1 h01; generalize gf S w3.drew F1 w6 = S1 at hle1 H g13
   replace g5 := g5.mono hle1
   replace g6 := g6.mono hle1
   replace g11 := g11.mono hle1
   replace g12 := g12.mono hle1
   obtain ⟨c10, c11, rfl, g14, g15⟩ := elP g13
   obtain rfl := elB g14
   obtain ⟨c12, c13, rfl, g16, g17⟩ := elP g15
   obtain ⟨v5, rfl, g18⟩ := elL g16
   obtain ⟨v6, rfl, g19⟩ := elL g17
   refine asB rfl ?_
   refine wpList_nil ?_; refine on_norm ?_
   refine xn hK7 ?_
   refine c_split rfl (fun hc3 => ?_) (fun hc3 => ?_)
   ·replace hF := cnd_t hF hc3
    refine sr fun K8 hK8 => p_val (r_build (vals := [(0, .bool (true))]) (l := ([Value.bool (true)] ++ ([Value.slice none 0 0] ++ ([Value.slice none 0 0])))) tb65 rfl rfl) <| p_ofs (a_store (k := 0) (l := ([Value.bool (true)] ++ ([Value.slice none 0 0] ++ ([Value.slice none 0 0])))) tsz65 H rfl rfl rfl (cells_agg _) rfl (onz rfl) rfl) fun w7 H => ?_
    replace H := hsn H
    refine xk hK8 <| wp_ret <| b_ret <| x_ret ?_
    obtain rfl := osi hF
    refine e_1 rfl (qh_cell (l := ([Value.bool (true)] ++ ([Value.slice none 0 0] ++ ([Value.slice none 0 0])))) tg65 H rfl (k := 0) rfl rfl rfl) ?_
    exact ⟨H.toExt, _, rfl, Rp.mono (rpP rpB (rpP (rpL RdS.nil) (rpL RdS.nil))) H.gr⟩
   ·replace hF := cnd_f hF hc3
    refine wp_skip <| b_norm <| xn hK2 <| wp_seq_k fun K9 hK9 => bn hF fun y3 e3 hF => bn hF fun y4 e4 hF => ?_
    apply wp_region_ext 10 (kindsF [(4, .inr (fun g w' => RdS (gf S1 w6.drew g.f w') g.v y3)), (9, .inr (fun g w' => RdS (gf S1 w6.drew g.f w') g.v y4))]) rfl rfl (by kernel_rfl); intro vs2
    simp only [tkS, tkZ, drS, drZ]
    replace H := H.drew
    refine tp (r_field fa65_2 rfl) <| t_v (fun w hx => h_load1 (v := v4) to63 (H.ext hx) rfl (k := 1) rfl rfl) <| tp (r_field fa65_2 rfl) <| t_v (fun w hx => h_load1 (v := v2) to63 (H.ext hx) rfl (k := 2) rfl rfl) <| t_callF (l := [v4, v2]) rfl rfl (stRd) is115 rfl (fun w hx hF => callRd hx (r7_minus_c (gf_sub H.sub hx) (g12.mono (gf_le H.sub)) (g6.mono (gf_le H.sub)) e3)) <| tp (r_field fa65_1 rfl) ?_
    refine t_v (fun w hx => h_load1 (v := v3) to63 (H.ext hx) rfl (k := 1) rfl rfl) <| tp (r_field fa65_1 rfl) <| t_v (fun w hx => h_load1 (v := v1) to63 (H.ext hx) rfl (k := 2) rfl rfl) <| t_callF (l := [v3, v1]) rfl rfl (stRd) is115 rfl (fun w hx hF => callRd hx (r7_minus_c (gf_sub H.sub hx) (g11.mono (gf_le H.sub)) (g5.mono (gf_le H.sub)) e4)) ?_
    refine t_nil (fun w8 hx hF hA => ?_)
    obtain ⟨F2, hd2, h02⟩ := depE hF
    have g22 := RdS.mono (fact_relF hF 4 rfl rfl) (hd2 4 rfl rfl)
    have g23 := RdS.mono (fact_relF hF 9 rfl rfl) (hd2 9 rfl rfl)
    have hle2 := gf_le (F := F2) (w := w8) H.sub; replace H := H.callF (F := F2) hx; clear hx hF hA hd2 h02; generalize gf S1 w6.drew F2 w8 = S2 at hle2 H g22 g23
    replace g5 := g5.mono hle2
    replace g6 := g6.mono hle2
    replace g11 := g11.mono hle2
    replace g12 := g12.mono hle2
    replace g18 := g18.mono hle2
    replace g19 := g19.mono hle2
    refine p_as (v := (vs2 4).v) rfl <| p_as (v := (vs2 9).v) rfl ?_
    refine wpList_nil ?_; refine on_norm ?_
    refine xn hK9 <| wp_seq_k fun K10 hK10 => nameF fun m1 k1 => bn hF fun t1 hE1 hF1 => ?_
    have J1 : ∀ (v13 : Value) (v14 : Value) (S9 : Mem) (m2 : FM) (w16 : World), (∀ t, has (5 :: 6 :: rg 33 17 []) t = false → look m2 t = look m1 t) → look m2 5 = v13 → look m2 6 = v14 → Mem.le S2 S9 → HS ⟨S, [], w⟩ S9 w16 [.blk b3 (([Value.bool (false)] ++ ([Value.slice none 0 0] ++ ([Value.slice none 0 0])))) 65, .blk b2 (([Value.bool (x1.1)] ++ ([v3] ++ ([v4])))) 65, .blk b1 (([Value.bool (x0.1)] ++ ([v1] ++ ([v2])))) 65] → RdS S9 v13 t1.1 → RdS S9 v14 t1.2 → K10 (fr 74 m2) w16 := by
     clear H; intro v13 v14 S9 m2 w16 k2 q1 q2 hle9 H g32 g33
     replace g5 := g5.mono hle9
     replace g6 := g6.mono hle9
     replace g11 := g11.mono hle9
     replace g12 := g12.mono hle9
     replace g18 := g18.mono hle9
     replace g19 := g19.mono hle9
     replace g22 := g22.mono hle9
     replace g23 := g23.mono hle9
     have q3 : look m2 2 = .pointer (some ⟨b1, 0, none⟩) := (k2 2 rfl).trans (k1 2)
     have q4 : look m2 3 = .pointer (some ⟨b2, 0, none⟩) := (k2 3 rfl).trans (k1 3)
     have q5 : look m2 4 = .pointer (some ⟨b3, 0, none⟩) := (k2 4 rfl).trans (k1 4)
     refine hK10 _ _ <| sr fun K13 hK13 => p_mv (v := v13) q1 <| p_mv (v := v14) q2 <| bn hF1 fun y10 e10 hF1 => p_call (l := [.int .i64 (0), v14]) is64 rfl <| (r6_Inverse_c H.sub g33 e10).mono <| H.ye fun w17 v15 S10 hle10 H g34 => ?_
     replace g5 := g5.mono hle10
     replace g6 := g6.mono hle10
     replace g11 := g11.mono hle10
     replace g12 := g12.mono hle10
     replace g32 := g32.mono hle10
     replace g33 := g33.mono hle10
     refine bn hF1 fun y11 e11 hF1 => p_call (l := [v13, v15]) is116 rfl <| (r7_times_c H.sub g32 g34 e11).mono <| H.ye fun w18 v16 S11 hle11 H g35 => ?_
     replace g5 := g5.mono hle11
     replace g6 := g6.mono hle11
     replace g11 := g11.mono hle11
     replace g12 := g12.mono hle11
     replace g32 := g32.mono hle11
     replace g34 := g34.mono hle11
     refine p_as (v := v16) rfl <| xk hK13 <| wp_seq_k fun K14 hK14 => bn hF1 fun y12 e12 hF1 => bn hF1 fun y13 e13 hF1 => bn hF1 fun y14 e14 hF1 => ?_
     apply wp_region_ext 9 (kindsF [(2, .inr (fun g w' => RdS (gf S11 w18.drew g.f w') g.v y12)), (5, .inr (fun g w' => RdS (gf S11 w18.drew g.f w') g.v y13)), (8, .inr (fun g w' => RdS (gf S11 w18.drew g.f w') g.v y14))]) rfl rfl (by kernel_rfl); intro vs3
     simp only [tkS, tkZ, drS, drZ]
     replace H := H.drew
     refine tp (r_move (v := v16) rfl) <| tp (r_move (v := v16) rfl) <| t_callF (l := [v16, v16]) rfl rfl (stRd) is116 rfl (fun w hx hF => callRd hx (r7_times_c (gf_sub H.sub hx) (g35.mono (gf_le H.sub)) (g35.mono (gf_le H.sub)) e12)) <| tp (r_field fa65_1 q3) <| t_v (fun w hx => h_load1 (v := v1) to63 (H.ext hx) rfl (k := 2) rfl rfl) ?_
     refine t_callF (l := [(vs3 2).v, v1]) rfl rfl (stRd) is115 rfl (fun w hx hF => callRd hx (r7_minus_c (gf_sub H.sub hx) (RdS.mono (fact_relF hF 2 rfl rfl) (dep_of hF 2 rfl rfl)) (g5.mono (gf_le H.sub)) e13)) <| tp (r_field fa65_1 q4) <| t_v (fun w hx => h_load1 (v := v3) to63 (H.ext hx) rfl (k := 1) rfl rfl) ?_
     refine t_callF (l := [(vs3 5).v, v3]) rfl rfl (stRd) is115 rfl (fun w hx hF => callRd hx (r7_minus_c (gf_sub H.sub hx) (RdS.mono (fact_relF hF 5 rfl rfl) (dep_of hF 5 rfl rfl)) (g11.mono (gf_le H.sub)) e14)) ?_
     refine t_nil (fun w19 hx hF hA => ?_)
     obtain ⟨F3, hd3, h03⟩ := depE hF
     have g39 := RdS.mono (fact_relF hF 2 rfl rfl) (hd3 2 rfl rfl)
     have g40 := RdS.mono (fact_relF hF 5 rfl rfl) (hd3 5 rfl rfl)
     have g41 := RdS.mono (fact_relF hF 8 rfl rfl) (hd3 8 rfl rfl)
     have hle12 := gf_le (F := F3) (w := w19) H.sub; replace H := H.callF (F := F3) hx; clear hx hF hA hd3 h03; generalize gf S11 w18.drew F3 w19 = S12 at hle12 H g39 g40 g41
     replace g5 := g5.mono hle12
     replace g6 := g6.mono hle12
     replace g11 := g11.mono hle12
     replace g12 := g12.mono hle12
     replace g32 := g32.mono hle12
     replace g34 := g34.mono hle12
     replace g35 := g35.mono hle12
     refine p_as (v := (vs3 8).v) rfl ?_
     refine wpList_nil ?_; refine on_norm ?_
     refine xn hK14 <| wp_seq_k fun K15 hK15 => bn hF1 fun y15 e15 hF1 => bn hF1 fun y16 e16 hF1 => bn hF1 fun y17 e17 hF1 => ?_
     apply wp_region_ext 11 (kindsF [(5, .inr (fun g w' => RdS (gf S12 w19.drew g.f w') g.v y15)), (6, .inr (fun g w' => RdS (gf S12 w19.drew g.f w') g.v y16)), (9, .inr (fun g w' => RdS (gf S12 w19.drew g.f w') g.v y17))]) rfl rfl (by kernel_rfl); intro vs4
     simp only [tkS, tkZ, drS, drZ]
     replace H := H.drew
     refine tp (r_move (v := (vs3 8).v) rfl) <| tp (r_move (v := v16) rfl) <| tp (r_field fa65_1 q3) <| t_v (fun w hx => h_load1 (v := v1) to63 (H.ext hx) rfl (k := 2) rfl rfl) <| tp (r_move (v := (vs3 8).v) rfl) <| t_callF (l := [v1, (vs3 8).v]) rfl rfl (stRd) is115 rfl (fun w hx hF => callRd hx (r7_minus_c (gf_sub H.sub hx) (g5.mono (gf_le H.sub)) (g41.mono (gf_le H.sub)) e15)) ?_
     refine t_callF (l := [v16, (vs4 5).v]) rfl rfl (stRd) is116 rfl (fun w hx hF => callRd hx (r7_times_c (gf_sub H.sub hx) (g35.mono (gf_le H.sub)) (RdS.mono (fact_relF hF 5 rfl rfl) (dep_of hF 5 rfl rfl)) e16)) <| tp (r_field fa65_2 q3) <| t_v (fun w hx => h_load1 (v := v2) to63 (H.ext hx) rfl (k := 2) rfl rfl) ?_
     refine t_callF (l := [(vs4 6).v, v2]) rfl rfl (stRd) is115 rfl (fun w hx hF => callRd hx (r7_minus_c (gf_sub H.sub hx) (RdS.mono (fact_relF hF 6 rfl rfl) (dep_of hF 6 rfl rfl)) (g6.mono (gf_le H.sub)) e17)) ?_
     refine t_valF (fun w hx hF => r_build (vals := [(1, (vs3 8).v), (2, (vs4 9).v)]) (l := ([Value.bool (false)] ++ ([(vs3 8).v] ++ ([(vs4 9).v])))) tb65 rfl (by simp only [fillL, lkp, RdS.cells g41, RdS.cells (fact_relF hF 9 rfl rfl)]; rfl)) rfl rfl ?_
     refine t_nil (fun w20 hx hF hA => ?_)
     obtain ⟨F4, hd4, h04⟩ := depE hF
     have g45 := RdS.mono (fact_relF hF 5 rfl rfl) (hd4 5 rfl rfl)
     have g46 := RdS.mono (fact_relF hF 6 rfl rfl) (hd4 6 rfl rfl)
     have g47 := RdS.mono (fact_relF hF 9 rfl rfl) (hd4 9 rfl rfl)
     have hle13 := gf_le (F := F4) (w := w20) H.sub; replace H := H.callF (F := F4) hx; clear hx hF hA hd4 h04; generalize gf S12 w19.drew F4 w20 = S13 at hle13 H g45 g46 g47
     replace g5 := g5.mono hle13
     replace g6 := g6.mono hle13
     replace g11 := g11.mono hle13
     replace g12 := g12.mono hle13
     replace g32 := g32.mono hle13
     replace g34 := g34.mono hle13
     replace g35 := g35.mono hle13
     replace g39 := g39.mono hle13
     replace g40 := g40.mono hle13
     replace g41 := g41.mono hle13
     refine p_ofs (a_store (k := 0) (l := ([Value.bool (false)] ++ ([(vs3 8).v] ++ ([(vs4 9).v])))) tsz65 H q5 rfl rfl (cells_agg _) rfl (Rp.one (rpP rpB (rpP (rpL g41) (rpL g47)))) rfl) fun w21 H => ?_
     replace H := hsn H
     refine wpList_nil ?_; refine on_norm ?_
     refine xn hK15 <| wp_ret ?_
     obtain rfl := osi hF1
     refine e_1 rfl (qh_cell (l := ([Value.bool (false)] ++ ([(vs3 8).v] ++ ([(vs4 9).v])))) tg65 H q5 (k := 0) rfl rfl rfl) ?_
     exact ⟨H.toExt, _, rfl, Rp.mono (rpP rpB (rpP (rpL g41) (rpL g47))) H.gr⟩
    refine sr fun K11 hK11 => p_val (h_load (l := ([Value.bool (x0.1)] ++ ([v1] ++ ([v2])))) tg65 H (k1 2) (k := 2) rfl rfl rfl) <| p_val (h_load (l := ([Value.bool (x1.1)] ++ ([v3] ++ ([v4])))) tg65 H (k1 3) (k := 1) rfl rfl rfl) <| bn hE1 fun y5 e5 hE1 => p_call (l := [.agg (([Value.bool (x0.1)] ++ ([v1] ++ ([v2])))).toArray, .agg (([Value.bool (x1.1)] ++ ([v3] ++ ([v4])))).toArray]) is124 rfl ?_
    refine (r7_Point_Same_c H.sub (rpP rpB (rpP (rpL g5) (rpL g6))) (rpP rpB (rpP (rpL g11) (rpL g12))) e5).mono <| H.xe fun w9 H => xk hK11 ?_
    refine c_split rfl (fun hc4 => ?_) (fun hc4 => ?_)
    ·replace hE1 := cnd_t hE1 hc4
     refine sr fun K12 hK12 => p_of2 (a_bsliceG (N := 1) (xs := ([(3 : UInt32)] : List UInt32)) (RL.cons (rpU32c (x := (3 : UInt32)) rfl) RL.nil) tn63 H rfl rfl rfl) fun w10 v7 cs1 H g24 => ?_
     replace H := hsn H
     refine p_val (r_field fa65_1 (k1 2)) <| p_val (h_load1 (v := v1) to63 H rfl (k := 3) rfl rfl) <| p_val (r_field fa65_1 (k1 2)) <| p_val (h_load1 (v := v1) to63 H rfl (k := 3) rfl rfl) <| bn hE1 fun y6 e6 hE1 => p_call (l := [v1, v1]) is116 rfl <| (r7_times_c H.sub g5 g5 e6).mono <| H.ye fun w11 v8 S3 hle3 H g25 => ?_
     replace g5 := g5.mono hle3
     replace g6 := g6.mono hle3
     replace g11 := g11.mono hle3
     replace g12 := g12.mono hle3
     replace g22 := g22.mono hle3
     replace g24 := g24.mono hle3
     obtain ⟨S4, hle4, g26, H1⟩ := H.fixX (k := 0) rfl g24; clear H; have H := H1; clear H1
     replace g5 := g5.mono hle4
     replace g6 := g6.mono hle4
     replace g11 := g11.mono hle4
     replace g12 := g12.mono hle4
     replace g22 := g22.mono hle4
     replace g25 := g25.mono hle4
     replace H := hsn H
     refine bn hE1 fun y7 e7 hE1 => p_call (l := [v7, v8]) is116 rfl <| (r7_times_c H.sub g26 g25 e7).mono <| H.ye fun w12 v9 S5 hle5 H g27 => ?_
     replace g5 := g5.mono hle5
     replace g6 := g6.mono hle5
     replace g11 := g11.mono hle5
     replace g12 := g12.mono hle5
     replace g22 := g22.mono hle5
     replace g25 := g25.mono hle5
     replace g26 := g26.mono hle5
     refine p_of2 (a_bsliceG (N := 1) (xs := ([(3 : UInt32)] : List UInt32)) (RL.cons (rpU32c (x := (3 : UInt32)) rfl) RL.nil) tn63 H rfl rfl rfl) fun w13 v10 cs2 H g28 => ?_
     replace H := hsn H
     obtain ⟨S6, hle6, g29, H1⟩ := H.fixX (k := 0) rfl g28; clear H; have H := H1; clear H1
     replace g5 := g5.mono hle6
     replace g6 := g6.mono hle6
     replace g11 := g11.mono hle6
     replace g12 := g12.mono hle6
     replace g22 := g22.mono hle6
     replace g27 := g27.mono hle6
     replace H := hsn H
     refine bn hE1 fun y8 e8 hE1 => p_call (l := [v9, v10]) is115 rfl <| (r7_minus_c H.sub g27 g29 e8).mono <| H.ye fun w14 v11 S7 hle7 H g30 => ?_
     replace g5 := g5.mono hle7
     replace g6 := g6.mono hle7
     replace g11 := g11.mono hle7
     replace g12 := g12.mono hle7
     replace g22 := g22.mono hle7
     replace g27 := g27.mono hle7
     replace g29 := g29.mono hle7
     refine p_as (v := v11) rfl <| xk hK12 <| wp_region_lit <| p_val (r_field fa65_2 (k1 2)) <| p_val (h_load1 (v := v2) to63 H rfl (k := 2) rfl rfl) <| p_val (r_field fa65_2 (k1 2)) <| p_val (h_load1 (v := v2) to63 H rfl (k := 2) rfl rfl) <| bn hE1 fun y9 e9 hE1 => p_call (l := [v2, v2]) is114 rfl ?_
     refine (r7_plus_c H.sub g6 g6 e9).mono <| H.ye fun w15 v12 S8 hle8 H g31 => ?_
     replace g5 := g5.mono hle8
     replace g6 := g6.mono hle8
     replace g11 := g11.mono hle8
     replace g12 := g12.mono hle8
     replace g30 := g30.mono hle8
     refine p_as (v := v12) rfl <| wpList_nil <| x_norm ?_
     replace H := hsn H
     obtain rfl := osi hE1
     exact J1 _ _ _ _ _ kcx rfl rfl (Mem.le_trans hle3 (Mem.le_trans hle4 (Mem.le_trans hle5 (Mem.le_trans hle6 (Mem.le_trans hle7 hle8))))) H g30 g31
    ·replace hE1 := cnd_f hE1 hc4
     refine wp_skip <| x_norm ?_
     replace H := hsn H
     obtain rfl := osi hE1
     exact J1 _ _ _ _ _ kcx (show _ = ((vs2 4).v : Value) from (k1 5)) (show _ = ((vs2 9).v : Value) from (k1 6)) (Mem.le_refl _) H g22 g23
end Go.Proofs.YtmbcolbbekbccaaGreat
