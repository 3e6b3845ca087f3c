/- What some functions compute, and that they do. Conditions: as each theorem says. -/
import Derived.Test.YtmbcolbbekbccaaGreatRows
import Derived.Test.YtmbcolbbekbccaaGreatQsG
namespace Go.Proofs.YtmbcolbbekbccaaGreat
open Go Go.RowKit
section
attribute [local irreducible] wpList wpT Code.wp Calls Code.rounds
variable {S : Mem} {w : World}
theorem u63 : Tryz.prog.underlying 63 = some (.slice 107) := by kernel_rfl
theorem is84 : IsFn Tryz.prog 84 := isFn Tryz.func84
theorem tn63 : TSn Tryz.prog 63 107 (.int .u32 0) [.int .u32 0] 4 1 := TSn.mk' (by kernel_rfl) (by kernel_rfl) rfl rfl rfl rfl
theorem tsz22 : TSz Tryz.prog 22 1 := fun _ => by kernel_rfl
def r6_trim_b0 (x0 : List UInt32) (s1 : Int) : Option ((Int) ⊕ (Int)) :=
  Option.bind (bif decide ((0 : Int) < s1) then (Option.bind (idx x0 (w64 (s1 - 1))) fun y1 => some ((((y1).toNat : Int) == 0))) else (some (false))) (fun t2 => bif t2 then (some (.inl ((w64 (s1 - 1))))) else (some (.inr (s1))))
def zfS (x0 : List UInt32) : Option ((List UInt32)) :=
  Option.bind (Option.bind (iter (r6_trim_b0 x0) (((x0).length : Int))) (fun e => some (e))) (fun t1 => Option.bind (subH x0 t1) fun y2 => some (y2))
theorem ziT (hS : Sub S w) {v0_ : Value} {x0 : List UInt32} (h0_ : RdS S v0_ x0) {r : (List UInt32)} (hF : zfS x0 = some r) :
    Calls Tryz.prog 84 #[v0_] w fun e w' => Ext w w' ∧ ∃ (v0' : Value), e = .returned (v0') ∧ RdS (gr S w w') v0' r := by
 refine enter (n := 21) Tryz.func84 rfl rfl rfl ?_
 have H := HS.start hS
 refine sr fun K1 hK1 => asN rfl <| xk hK1 <| sr fun K2 hK2 => p_mv (v := v0_) rfl <| zaA (r_lenR' u63 rfl h0_ H.sub) <| asI rfl <| xk hK2 <| wp_seq_k fun K3 hK3 => ?_
 refine zaY fun m1 k1 => bn hF fun t1 hE1 hF1 => ?_
 have J2 : ∀ (m6 : FM) (w3 : World), Kp (3 :: rg 6 12 []) m6 m1 → look m6 3 = .int .i64 (t1) → HS ⟨S, [], w⟩ S w3 [] → K3 (fr 21 m6) w3 := by
  clear H; intro m6 w3 k7 q6 H
  have q7 : look m6 0 = v0_ := (k7 0 rfl).trans (k1 0)
  refine hK3 _ _ <| sr fun K7 hK7 => p_mv (v := v0_) q7 <| p_mv q6 <| bn hF1 fun y2 e2 hF1 => zaA (r_subH (h := (t1 : Int).toNat) u63 zbG rfl rfl (zeI e2).1 h0_ (zeI e2).2.1) ?_
  have g1 : RdS S (subN v0_ 1 0 (t1 : Int).toNat) y2 := RdS.subH h0_ e2
  refine p_as (v := (subN v0_ 1 0 (t1 : Int).toNat)) rfl <| xk hK7 <| wp_ret ?_
  obtain rfl := osi hF1
  refine e_1 rfl (zbD rfl) ?_
  exact ⟨H.toExt, _, rfl, RdS.mono g1 H.gr⟩
 refine wp_block <| zaY fun m2 k2 => bn hE1 fun out1 hL1 hE2 => zdL (3 :: rg 6 12 []) (fun (s1 : Int) (m3 : FM) (w1 : World) => look m3 3 = .int .i64 (s1) ∧ HS ⟨S, [], w⟩ S w1 []) hL1 ⟨((k2 3).trans (k1 3)), H⟩ ?_
 clear H; intro k4 s1 m3 w1 k3 hI1 o2 hb1 hh1; obtain ⟨q1, H⟩ := hI1
 have q2 : look m3 0 = v0_ := (k3 0 rfl).trans ((k2 0).trans (k1 0))
 refine wp_seq_k fun K4 hK4 => sr fun K5 hK5 => p_mv q1 <| zaA (r_gtrI rfl rfl) <| mvB rfl <| zkU fun m4 k5 => zkX 7 fun K6 hK6 R1 hR1 => bn hb1 fun t2 hE3 hF2 => ?_
 have J1 : ∀ (m5 : FM) (w2 : World), Kp (rg 9 7 []) m5 m4 → look m5 15 = .bool (t2) → HS ⟨S, [], w⟩ S w2 [] → K6 m5 w2 := by
  clear H; intro m5 w2 k6 q3 H
  have q4 := (k6 0 rfl).trans ((k5 0).trans q2)
  have q5 := (k6 3 rfl).trans ((k5 3).trans q1)
  refine hK6 _ _ <| xk hK5 ?_
  refine zcG q3 (fun hc2 => ?_) (fun hc2 => ?_)
  ·replace hF2 := zfK hF2 hc2
   refine wp_skip <| xn hK4 <| wp_block <| wp_region_lit <| p_mv q5 <| zaA (zdQ rfl rfl) <| asI rfl <| wpList_nil <| zaS ?_
   refine zaG ?_
   obtain rfl := osi hF2
   exact ⟨(w64 (s1 - 1)), _, rfl, (kS k6 rfl (kN k5 (kS k3 rfl kcx))), ⟨rfl, H⟩, hh1⟩
  ·replace hF2 := zfR hF2 hc2
   refine wp_exit <| zaN <| zaN <| zcK <| zaG ?_
   obtain rfl := osi hF2
   obtain rfl := osi hh1
   obtain rfl := osi hE2
   exact J2 _ _ (kS k6 rfl (kN k5 (kS k3 rfl (kN k2 kcx)))) q5 H
 refine p_gs (j := 2) (zaI rfl rfl (k5 8)) (fun hb2 => ?_) (fun hb2 => ?_)
 ·replace hE3 := zfK hE3 hb2
  refine zaT (zaI rfl rfl (k5 8)) hb2 <| p_mv (v := v0_) ((k5 0).trans q2) <| zaT (zaI rfl rfl (k5 8)) hb2 <| p_mv ((k5 3).trans q1) <| zaT (zaI rfl rfl (k5 8)) hb2 <| zaA (zdQ rfl rfl) <| zaT (zaI rfl rfl (k5 8)) hb2 <| bn hE3 fun y1 e1 hE3 => ?_
  obtain ⟨b1, o4, N1, c1, cs1, hv1, hi1, hc1, hr1⟩ := h0_.get (zaD e1).2
  refine zaA (zaU (i := ((w64 (s1 - 1)) : Int).toNat) u63 zbG rfl hv1 rfl (zaD e1).1 hi1) ?_
  obtain rfl := zeG hr1
  refine zaT (zaI rfl rfl (k5 8)) hb2 <| zaA (zbM (p := (o4 + ((w64 (s1 - 1)) : Int).toNat * 1)) (o := 0) (v := .int .u32 (((y1).toNat : Int))) zcW H.sub rfl hc1 rfl) <| zaT (zaI rfl rfl (k5 8)) hb2 <| zaA (zdS rfl rfl) <| zaA (zbQ (v := .bool ((((y1).toNat : Int) == 0))) (k5 8) hb2 rfl) <| hR1 _ _ ?_
  obtain rfl := osi hE3
  exact J1 _ _ kcx rfl H
 ·replace hE3 := zfR hE3 hb2
  refine zaW (zaI rfl rfl (k5 8)) hb2 ?_
  rw [zaH]
  refine zaW (zaI rfl rfl (k5 8)) hb2 ?_
  rw [zaH]
  refine zaW (zaI rfl rfl (k5 8)) hb2 ?_
  rw [zaH]
  refine zaW (zaI rfl rfl (k5 8)) hb2 ?_
  rw [zaH]
  refine zaW (zaI rfl rfl (k5 8)) hb2 ?_
  rw [zaH]
  refine zaW (zaI rfl rfl (k5 8)) hb2 ?_
  rw [zaH]
  refine zaA (zaX (v := .bool (false)) (k5 8) hb2 rfl) <| hR1 _ _ ?_
  obtain rfl := osi hE3
  exact J1 _ _ kcx rfl H
def r6_In_b1 (x0 : Qw) (s1 : Int × (List UInt32)) (s2 : Int × (List UInt32)) : Option ((Int × (List UInt32)) ⊕ ((List UInt32))) :=
  bif decide (s2.1 < 4) then (Option.bind (idx ([x0.1, x0.2.1, x0.2.2.1, x0.2.2.2] : List UInt64) s1.1) fun y1 => Option.bind (chk (decide (0 ≤ (w64 ((16 : Int) * s2.1))))) fun y2 => Option.bind (app s2.2 ([(i32 ((((i64 (shrI .u64 ((y1).toNat : Int) (w64 ((16 : Int) * s2.1)))) &&& (65535 : UInt64))).toNat : Int))] : List UInt32)) fun y3 => some (.inl (((w64 (s2.1 + 1)), y3)))) else (some (.inr (s2.2)))
def r6_In_b0 (x0 : Qw) (s1 : Int × (List UInt32)) : Option ((Int × (List UInt32)) ⊕ ((List UInt32))) :=
  bif decide (s1.1 < 4) then (Option.bind (Option.bind (iter (r6_In_b1 x0 s1) ((0, s1.2))) (fun e => some (e))) (fun t2 => some (.inl (((w64 (s1.1 + 1)), t2))))) else (some (.inr (s1.2)))
def r6_In_p (x0 : Qw) : Option ((List UInt32)) :=
  Option.bind (Option.bind (iter (r6_In_b0 x0) ((0, ([] : List UInt32)))) (fun e => some (e))) (fun t1 => Option.bind (zfS t1) fun y4 => some (y4))
theorem r6_In_c (hS : Sub S w) {x0 : Qw} {r : (List UInt32)} (hF : r6_In_p x0 = some r) :
    Calls Tryz.prog 38 #[.agg ((cl24 x0)).toArray] w fun e w' => Ext w w' ∧ ∃ (v0' : Value), e = .returned (v0') ∧ RdS (gr S w w') v0' r := by
 refine enter (n := 28) Tryz.func38 rfl rfl rfl ?_
 have H := HS.start hS
 refine sr fun K1 hK1 => zdI (zkN (l := (cl24 x0)) H rfl) fun w1 b1 H => asN rfl <| xk hK1 <| sr fun K2 hK2 => ?_
 have g1 : RL S ([] : List Value) ([] : List UInt32) := RL.nil
 refine p_of1 (zeN (N := 0) (vals := []) (l := ([] : List Value)) tn63 H rfl rfl rfl g1.len) fun w2 v1 H => p_as (v := v1) rfl <| xk hK2 <| wp_seq_k fun K3 hK3 => zaY fun m1 k1 => bn hF fun t1 hE1 hF1 => ?_
 have J2 : ∀ (v7 : Value) (cs7 rs5 : List Value) (m8 : FM) (w8 : World), Kp (3 :: 4 :: 5 :: rg 7 19 []) m8 m1 → look m8 3 = v7 → HS ⟨S, [], w⟩ S w8 [.osl (v7) (t1).length 1 cs7 rs5 107, .blk b1 ((cl24 x0)) 24] → RL S cs7 t1 → K3 (fr 28 m8) w8 := by
  clear H; intro v7 cs7 rs5 m8 w8 k10 q11 H g7
  refine hK3 _ _ <| sr fun K12 hK12 => p_mv (v := v7) q11 ?_
  obtain ⟨S1, hle1, g8, H1⟩ := H.fixX (k := 0) rfl g7; clear H; have H := H1; clear H1
  replace H := hsn H
  refine bn hF1 fun y4 e4 hF1 => zaF is84 rfl <| (ziT H.sub g8 e4).mono <| H.ye fun w9 v8 S2 hle2 H g9 => ?_
  replace g8 := g8.mono hle2
  refine p_as (v := v8) rfl <| xk hK12 <| wp_ret ?_
  obtain rfl := osi hF1
  refine e_1 rfl (zbD rfl) ?_
  exact ⟨H.toExt, _, rfl, RdS.mono g9 H.gr⟩
 refine sr fun K4 hK4 => asI rfl <| xk hK4 <| wp_block <| zaY fun m2 k2 => bn hE1 fun out1 hL1 hE2 => ?_
 refine zdL (3 :: 4 :: 5 :: rg 7 19 []) (fun (s1 : Int × (List UInt32)) (m3 : FM) (w3 : World) => ∃ (v2 : Value) (cs2 rs1 : List Value), look m3 3 = v2 ∧ look m3 4 = .int .i64 (s1.1) ∧ HS ⟨S, [], w⟩ S w3 [.osl (v2) (s1.2).length 1 cs2 rs1 107, .blk b1 ((cl24 x0)) 24] ∧ RL S cs2 s1.2) hL1 ⟨_, _, _, (show _ = (v1 : Value) from ((k2 3).trans (k1 3))), (k2 4), H, g1⟩ ?_
 clear H; intro k4 s1 m3 w3 k3 hI1 o2 hb1 hh1; obtain ⟨v2, cs2, rs1, q1, q2, H, g2⟩ := hI1
 have q3 : look m3 1 = .pointer (some ⟨b1, 0, none⟩) := (k3 1 rfl).trans ((k2 1).trans (k1 1))
 refine wp_seq_k fun K5 hK5 => sr fun K6 hK6 => p_mv q2 <| zaA (zcR rfl rfl) <| xk hK6 ?_
 refine zbR hb1 rfl (fun hb1 hc1 => ?_) fun hb1 hc1 => ?_
 ·refine wp_skip ?_
  refine xn hK5 <| wp_seq_k fun K7 hK7 => zaY fun m4 k5 => bn hb1 fun t2 hE3 hF2 => ?_
  have J1 : ∀ (v6 : Value) (cs6 rs4 : List Value) (m7 : FM) (w7 : World), Kp (3 :: 5 :: rg 11 15 []) m7 m4 → look m7 3 = v6 → HS ⟨S, [], w⟩ S w7 [.osl (v6) (t2).length 1 cs6 rs4 107, .blk b1 ((cl24 x0)) 24] → RL S cs6 t2 → K7 (fr 28 m7) w7 := by
   clear H; intro v6 cs6 rs4 m7 w7 k9 q8 H g6
   have q9 := (k9 1 rfl).trans ((k5 1).trans q3)
   have q10 := (k9 4 rfl).trans ((k5 4).trans q2)
   refine hK7 _ _ <| wp_region_lit <| p_mv q10 <| zaA (zcH rfl rfl) <| asI rfl <| wpList_nil <| zaG ?_
   obtain rfl := osi hF2
   exact ⟨((w64 (s1.1 + 1)), t2), _, rfl, (kS k9 rfl (kN k5 (kS k3 rfl kcx))), ⟨_, _, _, (show _ = (v6 : Value) from q8), rfl, H, g6⟩, hh1⟩
  refine wp_block <| sr fun K8 hK8 => asI rfl <| xk hK8 <| wp_block <| zaY fun m5 k6 => bn hE3 fun out2 hL2 hE4 => ?_
  refine zdL (3 :: 5 :: rg 11 15 []) (fun (s2 : Int × (List UInt32)) (m6 : FM) (w4 : World) => ∃ (v3 : Value) (cs3 rs2 : List Value), look m6 3 = v3 ∧ look m6 5 = .int .i64 (s2.1) ∧ HS ⟨S, [], w⟩ S w4 [.osl (v3) (s2.2).length 1 cs3 rs2 107, .blk b1 ((cl24 x0)) 24] ∧ RL S cs3 s2.2) hL2 ⟨_, _, _, (show _ = (v2 : Value) from ((k6 3).trans ((k5 3).trans q1))), (k6 5), H, g2⟩ ?_
  clear H; intro k8 s2 m6 w4 k7 hI2 o4 hb2 hh2; obtain ⟨v3, cs3, rs2, q4, q5, H, g3⟩ := hI2
  have q6 := (k7 1 rfl).trans ((k6 1).trans ((k5 1).trans q3))
  have q7 := (k7 4 rfl).trans ((k6 4).trans ((k5 4).trans q2))
  refine wp_seq_k fun K9 hK9 => sr fun K10 hK10 => p_mv q5 <| zaA (zcR rfl rfl) <| xk hK10 ?_
  refine zbR hb2 rfl (fun hb2 hc2 => ?_) fun hb2 hc2 => ?_
  ·refine wp_skip ?_
   refine xn hK9 <| wp_seq_k fun K11 hK11 => wp_block <| wp_region_lit <| p_mv (v := v3) q4 <| p_mv q7 <| bn hb2 fun y1 e1 hb2 => zaA (zaQ (i := (s1.1 : Int).toNat) u24 sz22 q6 rfl rfl (by have h1_ := (zaD e1).1; omega) (by have h1_ := (zaD e1).1; have h2_ := zbA e1; simp only [List.length_cons, List.length_nil] at h2_; omega)) ?_
   refine zaA (h_loadA (cf := fun a_ : UInt64 => Value.int .u64 (((a_).toNat : Int))) (o := 0) to22 H rfl (k := 1) rfl e1 rfl) <| p_mv q5 <| zaA (r_mulI rfl rfl) <| bn hb2 fun y2 e2 hb2 => zaA (zeM rfl rfl (Int.not_lt.2 (of_decide_eq_true (zdT e2))) (zjC _ _)) <| zaA (zbJ (bo := .and) (by simp) rfl rfl (zjO _ (65535 : UInt64))) <| zaA (zcE u22 u107 rfl (zbN _)) ?_
   refine zhD (zbO (N := 1) (xs := ([(i32 ((((i64 (shrI .u64 ((y1).toNat : Int) (w64 ((16 : Int) * s2.1)))) &&& (65535 : UInt64))).toNat : Int))] : List UInt32)) (RL.cons zkO RL.nil) tn63 H rfl rfl rfl) fun w5 v4 cs4 H g4 => bn hb2 fun y3 e3 hb2 => zjF (zcX (k := 1) (v2 := v4) tn63 rfl H rfl rfl g3 rfl (H.slW (k := 0) rfl) g4 e3) fun w6 v5 cs5 rs3 H g5 => ?_
   replace H := H.sel [1, 2] rfl
   replace H := hsn H
   refine p_as (v := v5) rfl <| wpList_nil <| zaS <| xn hK11 <| wp_region_lit <| p_mv q5 <| zaA (zcH rfl rfl) <| asI rfl <| wpList_nil ?_
   refine zaG ?_
   obtain rfl := osi hb2
   exact ⟨((w64 (s2.1 + 1)), y3), _, rfl, (kS k7 rfl kcx), ⟨_, _, _, rfl, rfl, H, g5⟩, hh2⟩
  ·refine wp_exit ?_
   refine zaN <| zaN <| zcK <| zaS <| zaG ?_
   obtain rfl := osi hb2
   obtain rfl := osi hh2
   obtain rfl := osi hE4
   exact J1 _ _ _ _ _ (kS k7 rfl (kN k6 kcx)) (show _ = (v3 : Value) from q4) H g3
 ·refine wp_exit ?_
  refine zaN <| zaN <| zcK <| zaG ?_
  obtain rfl := osi hb1
  obtain rfl := osi hh1
  obtain rfl := osi hE2
  exact J2 _ _ _ _ _ (kS k3 rfl (kN k2 kcx)) (show _ = (v2 : Value) from q1) H g2
def r6_Out_b0 (x0 : List UInt32) (s1 : Int × Qw) : Option ((Int × Qw) ⊕ Qw) :=
  bif decide (s1.1 < ((x0).length : Int)) then (Option.bind (idx ([s1.2.1, s1.2.2.1, s1.2.2.2.1, s1.2.2.2.2] : List UInt64) (w64 (Int.tdiv s1.1 4))) fun y1 => Option.bind (idx x0 s1.1) fun y2 => Option.bind (chk (decide (0 ≤ (w64 ((16 : Int) * (Int.tmod s1.1 4)))))) fun y3 => Option.bind (idx ([s1.2.1, s1.2.2.1, s1.2.2.2.1, s1.2.2.2.2] : List UInt64) (w64 (Int.tdiv s1.1 4))) fun y4 => Option.bind (setL ([s1.2.1, s1.2.2.1, s1.2.2.2.1, s1.2.2.2.2] : List UInt64) ((w64 (Int.tdiv s1.1 4)) : Int) (y1 ||| (i64 (shlI .u64 (((i64 ((y2).toNat : Int))).toNat : Int) (w64 ((16 : Int) * (Int.tmod s1.1 4))))))) fun y5 => some (.inl (((w64 (s1.1 + 1)), (y5.getD 0 (0 : UInt64)), (y5.getD 1 (0 : UInt64)), (y5.getD 2 (0 : UInt64)), (y5.getD 3 (0 : UInt64)))))) else (some (.inr ((s1.2.1, s1.2.2.1, s1.2.2.2.1, s1.2.2.2.2))))
def r6_Out_p (x0 : List UInt32) : Option (Qw) :=
  Option.bind (Option.bind (iter (r6_Out_b0 x0) ((0, (0 : UInt64), (0 : UInt64), (0 : UInt64), (0 : UInt64)))) (fun e => some (e))) (fun t1 => some (t1))
theorem r6_Out_c (hS : Sub S w) {v0_ : Value} {x0 : List UInt32} (h0_ : RdS S v0_ x0) {r : Qw} (hF : r6_Out_p x0 = some r) :
    Calls Tryz.prog 85 #[v0_] w fun e w' => e = .returned (.agg ((cl24 r)).toArray) ∧ Ext w w' := by
 refine enter (n := 28) Tryz.func85 rfl rfl rfl ?_
 have H := HS.start hS
 refine sr fun K1 hK1 => zdI (zcP (l := (cl24 ((0, 0, 0, 0) : Qw))) H tz24 rfl) fun w1 b1 H => xk hK1 <| sr fun K2 hK2 => zaA (zbC (vals := []) (l := (cl24 ((0, 0, 0, 0) : Qw))) tb24 rfl rfl) <| zdI (zcP (l := (cl24 ((0, 0, 0, 0) : Qw))) H tz24 rfl) fun w2 b2 H => zdB (zbE (k := 0) (l := (cl24 ((0, 0, 0, 0) : Qw))) tsz24 H rfl rfl rfl (zaV _) rfl (onz rfl) rfl) fun w3 H => ?_
 refine xk hK2 <| wp_seq_k fun K3 hK3 => zaY fun m1 k1 => bn hF fun t1 hE1 hF1 => ?_
 have J1 : ∀ (m4 : FM) (w7 : World), Kp (4 :: rg 6 21 []) m4 m1 → HS ⟨S, [], w⟩ S w7 [.blk b2 ((cl24 t1)) 24, .blk b1 ((cl24 ((0, 0, 0, 0) : Qw))) 24] → K3 (fr 28 m4) w7 := by
  clear H; intro m4 w7 k5 H
  have q5 : look m4 2 = .pointer (some ⟨b1, 0, none⟩) := (k5 2 rfl).trans (k1 2)
  have q6 : look m4 3 = .pointer (some ⟨b2, 0, none⟩) := (k5 3 rfl).trans (k1 3)
  refine hK3 _ _ <| sr fun K8 hK8 => zaA (zbL (l := (cl24 t1)) tg24 H q6 (k := 0) rfl rfl rfl) <| zdB (zbE (k := 1) (l := (cl24 t1)) tsz24 H q5 rfl rfl (zaV _) rfl (onz rfl) rfl) fun w8 H => xk hK8 <| wp_ret ?_
  obtain rfl := osi hF1
  refine e_1 rfl (zeD (l := (cl24 t1)) tg24 H q5 (k := 1) rfl rfl rfl) ?_
  exact ⟨rfl, H.toExt⟩
 refine sr fun K4 hK4 => asI rfl <| xk hK4 <| wp_block <| zaY fun m2 k2 => bn hE1 fun out1 hL1 hE2 => zdL (4 :: rg 6 21 []) (fun (s1 : Int × Qw) (m3 : FM) (w4 : World) => look m3 4 = .int .i64 (s1.1) ∧ HS ⟨S, [], w⟩ S w4 [.blk b2 ((cl24 s1.2)) 24, .blk b1 ((cl24 ((0, 0, 0, 0) : Qw))) 24]) hL1 ⟨(k2 4), H⟩ ?_
 clear H; intro k4 s1 m3 w4 k3 hI1 o2 hb1 hh1; obtain ⟨q1, H⟩ := hI1
 have q2 : look m3 0 = v0_ := (k3 0 rfl).trans ((k2 0).trans (k1 0))
 have q3 : look m3 2 = .pointer (some ⟨b1, 0, none⟩) := (k3 2 rfl).trans ((k2 2).trans (k1 2))
 have q4 : look m3 3 = .pointer (some ⟨b2, 0, none⟩) := (k3 3 rfl).trans ((k2 3).trans (k1 3))
 refine wp_seq_k fun K5 hK5 => sr fun K6 hK6 => p_mv q1 <| p_mv (v := v0_) q2 <| zaA (r_lenR' u63 rfl h0_ H.sub) <| zaA (zcR rfl rfl) <| xk hK6 ?_
 refine zbR hb1 rfl (fun hb1 hc1 => ?_) fun hb1 hc1 => ?_
 ·refine wp_skip ?_
  refine xn hK5 <| wp_seq_k fun K7 hK7 => wp_block <| bn hb1 fun y1 e1 hb1 => bn hb1 fun y2 e2 hb1 => ?_
  obtain ⟨b3, o3, N1, c1, cs1, hv1, hi1, hc2, hr1⟩ := h0_.get (zaD e2).2
  obtain rfl := zeG hr1
  refine bn hb1 fun y3 e3 hb1 => bn hb1 fun y4 e4 hb1 => wrS H 15 [] fun vs1 H => ?_
  refine tp (zaC q1) <| tp (r_quo (r := w64 (Int.tdiv s1.1 4)) rfl rfl (by decide) rfl) <| tp (zaQ (i := ((w64 (Int.tdiv s1.1 4)) : Int).toNat) u24 sz22 q4 rfl rfl (by have h1_ := (zaD e1).1; omega) (by have h1_ := (zaD e1).1; have h2_ := zbA e1; simp only [List.length_cons, List.length_nil] at h2_; omega)) ?_
  refine t_v (fun w hx => h_loadA (cf := fun a_ : UInt64 => Value.int .u64 (((a_).toNat : Int))) (o := 0) to22 (H.ext hx) rfl (k := 0) rfl e1 rfl) <| tp (zaC (v := v0_) q2) <| tp (zaC q1) <| tp (zaU (i := (s1.1 : Int).toNat) u63 zbG rfl hv1 rfl (zaD e2).1 hi1) ?_
  refine t_v (fun w hx => zbM (p := (o3 + (s1.1 : Int).toNat * 1)) (o := 0) (v := .int .u32 (((y2).toNat : Int))) zcW (H.ext hx).sub rfl hc2 rfl) <| tp (zcE u107 u22 rfl (zbT _)) <| tp (zaC q1) <| tp (r_rem (r := Int.tmod s1.1 4) rfl rfl (by decide) rfl) <| tp (r_mulI rfl rfl) <| tp (r_shl rfl rfl (Int.not_lt.2 (of_decide_eq_true (zdT e3))) (i64_shl _ _)) ?_
  refine tp (zbJ (bo := .or) (by simp) rfl rfl (i64_or _ _)) <| tp (zaQ (i := ((w64 (Int.tdiv s1.1 4)) : Int).toNat) u24 sz22 q4 rfl rfl (by have h1_ := (zaD e4).1; omega) (by have h1_ := (zaD e4).1; have h2_ := zbA e4; simp only [List.length_cons, List.length_nil] at h2_; omega)) ?_
  refine zbP <| H.tn fun w5 H => bn hb1 fun y5 e5 hb1 => zdB (a_storeA (0 : UInt64) (cf := fun a_ : UInt64 => Value.int .u64 (((a_).toNat : Int))) (u := (y1 ||| (i64 (shlI .u64 (((i64 ((y2).toNat : Int))).toNat : Int) (w64 ((16 : Int) * (Int.tmod s1.1 4))))))) (o := 0) (n := 4) (k := 0) tsz22 H rfl rfl rfl (rfl) e5 rfl rfl (Nat.le_of_ble_eq_true rfl)) fun w6 H => wpList_nil <| zaP <| zaS <| xn hK7 ?_
  refine wp_region_lit <| p_mv q1 <| zaA (zcH rfl rfl) <| asI rfl <| wpList_nil <| zaG ?_
  obtain rfl := osi hb1
  exact ⟨((w64 (s1.1 + 1)), (y5.getD 0 (0 : UInt64)), (y5.getD 1 (0 : UInt64)), (y5.getD 2 (0 : UInt64)), (y5.getD 3 (0 : UInt64))), _, rfl, (kS k3 rfl kcx), ⟨rfl, H⟩, hh1⟩
 ·refine wp_exit ?_
  refine zaN <| zaN <| zcK <| zaG ?_
  obtain rfl := osi hb1
  obtain rfl := osi hh1
  obtain rfl := osi hE2
  exact J1 _ _ (kS k3 rfl (kN k2 kcx)) H
def r6_Cmp_b0 (y1 : (List UInt32)) (y2 : (List UInt32)) (s1 : Int) : Option ((Int) ⊕ ((Int) ⊕ (Unit))) :=
  bif decide ((0 : Int) ≤ s1) then (Option.bind (idx y1 s1) fun y3 => Option.bind (idx y2 s1) fun y4 => bif decide (((y3).toNat : Int) < ((y4).toNat : Int)) then (some (.inr (.inl ((-1))))) else (Option.bind (idx y1 s1) fun y5 => Option.bind (idx y2 s1) fun y6 => bif decide (((y6).toNat : Int) < ((y5).toNat : Int)) then (some (.inr (.inl (1)))) else (some (.inl ((w64 (s1 - 1))))))) else (some (.inr (.inr (()))))
def zfC (x0 : List UInt32) (x1 : List UInt32) : Option (Int) :=
  Option.bind (zfS x0) fun y1 => Option.bind (zfS x1) fun y2 => bif (((y1).length : Int) != ((y2).length : Int)) then (bif decide (((y1).length : Int) < ((y2).length : Int)) then (some ((-1))) else (some (1))) else (jn (Option.bind (iter (r6_Cmp_b0 y1 y2) ((w64 (((y1).length : Int) - 1)))) (fun e => jnO e (fun e1 => some (.inr (e1))) (fun e2 => some (.inl (e2))))) (fun t1 => some (0)) (fun e => some (e)))
theorem zjV (hS : Sub S w) {v0_ : Value} {x0 : List UInt32} (h0_ : RdS S v0_ x0) {v1_ : Value} {x1 : List UInt32} (h1_ : RdS S v1_ x1) {r : Int} (hF : zfC x0 x1 = some r) :
    Calls Tryz.prog 69 #[v0_, v1_] w fun e w' => e = .returned (.int .i64 (r)) ∧ Ext w w' := by
 refine enter (n := 45) Tryz.func69 rfl rfl rfl ?_
 have H := HS.start hS
 refine sr fun K1 hK1 => asI rfl <| xk hK1 <| sr fun K2 hK2 => p_mv (v := v0_) rfl <| bn hF fun y1 e1 hF => zaF is84 rfl <| (ziT H.sub h0_ e1).mono <| H.ye fun w1 v1 S1 hle1 H g1 => ?_
 replace h0_ := h0_.mono hle1
 replace h1_ := h1_.mono hle1
 refine p_mv (v := v1_) rfl <| bn hF fun y2 e2 hF => zaF is84 rfl <| (ziT H.sub h1_ e2).mono <| H.ye fun w2 v2 S2 hle2 H g2 => ?_
 replace h0_ := h0_.mono hle2
 replace h1_ := h1_.mono hle2
 replace g1 := g1.mono hle2
 refine p_as (v := v1) rfl <| p_as (v := v2) rfl <| xk hK2 <| wp_seq_k fun K3 hK3 => sr fun K4 hK4 => p_mv (v := v1) rfl <| zaA (r_lenR' u63 rfl g1 H.sub) <| p_mv (v := v2) rfl <| zaA (r_lenR' u63 rfl g2 H.sub) ?_
 refine zaA (r_neqI rfl rfl) <| xk hK4 ?_
 refine zbR hF rfl (fun hF hc1 => ?_) fun hF hc1 => ?_
 ·refine wp_seq_k fun K5 hK5 => ?_
  refine sr fun K6 hK6 => p_mv (v := v1) rfl <| zaA (r_lenR' u63 rfl g1 H.sub) <| p_mv (v := v2) rfl <| zaA (r_lenR' u63 rfl g2 H.sub) <| zaA (zcR rfl rfl) <| xk hK6 ?_
  refine zbR hF rfl (fun hF hc2 => ?_) fun hF hc2 => ?_
  ·refine sr fun K7 hK7 => ?_
   refine asI rfl <| xk hK7 <| wp_ret <| zdC <| zdC ?_
   obtain rfl := osi hF
   refine e_1 rfl (zbD rfl) ?_
   exact ⟨rfl, H.toExt⟩
  ·refine wp_skip ?_
   refine xn hK5 <| sr fun K8 hK8 => asI rfl <| xk hK8 <| wp_ret <| zdC ?_
   obtain rfl := osi hF
   refine e_1 rfl (zbD rfl) ?_
   exact ⟨rfl, H.toExt⟩
 ·refine wp_skip ?_
  refine xn hK3 <| wp_seq_k fun K9 hK9 => zaY fun m1 k1 => ?_
  obtain ⟨o1, hE1, hF1⟩ := jn_some hF
  have J1 : ∀ (t1 : Unit) (m4 : FM) (w6 : World), o1 = .inl t1 → Kp (4 :: 5 :: rg 20 25 []) m4 m1 → HS ⟨S, [], w⟩ S2 w6 [] → K9 (fr 45 m4) w6 := by
   clear H; intro t1 m4 w6 ho k5 H
   replace hF1 := jnO_l hF1 ho
   refine hK9 _ _ <| sr fun K19 hK19 => asI rfl <| xk hK19 <| wp_ret ?_
   obtain rfl := osi hF1
   refine e_1 rfl (zbD rfl) ?_
   exact ⟨rfl, H.toExt⟩
  refine sr fun K10 hK10 => p_mv (v := v1) (k1 0) <| zaA (r_lenR' u63 rfl g1 H.sub) <| zaA (zdQ rfl rfl) <| asI rfl <| xk hK10 <| wp_block <| zaY fun m2 k2 => bn hE1 fun out1 hL1 hE2 => ?_
  refine zdL (4 :: 5 :: rg 23 22 []) (fun (s1 : Int) (m3 : FM) (w3 : World) => look m3 5 = .int .i64 (s1) ∧ HS ⟨S, [], w⟩ S2 w3 []) hL1 ⟨(k2 5), H⟩ ?_
  clear H; intro k4 s1 m3 w3 k3 hI1 o2 hb1 hh1; obtain ⟨q1, H⟩ := hI1
  have q2 : look m3 0 = v1 := (k3 0 rfl).trans ((k2 0).trans (k1 0))
  have q3 : look m3 1 = v2 := (k3 1 rfl).trans ((k2 1).trans (k1 1))
  refine wp_seq_k fun K11 hK11 => sr fun K12 hK12 => p_mv q1 <| zaA (r_geqI rfl rfl) <| xk hK12 ?_
  refine zbR hb1 rfl (fun hb1 hc3 => ?_) fun hb1 hc3 => ?_
  ·refine wp_skip ?_
   refine xn hK11 <| wp_seq_k fun K13 hK13 => wp_block <| wp_seq_k fun K14 hK14 => wp_seq_k fun K15 hK15 => bn hb1 fun y3 e3 hb1 => ?_
   obtain ⟨b1, o3, N1, c1, cs1, hv1, hi1, hc4, hr1⟩ := g1.get (zaD e3).2
   obtain rfl := zeG hr1
   refine bn hb1 fun y4 e4 hb1 => ?_
   obtain ⟨b2, o4, N2, c2, cs2, hv2, hi2, hc5, hr2⟩ := g2.get (zaD e4).2
   obtain rfl := zeG hr2
   refine wrS H 9 [] fun vs1 H => ?_
   refine tp (zaC (v := v1) q2) <| tp (zaC q1) <| tp (zaU (i := (s1 : Int).toNat) u63 zbG rfl hv1 rfl (zaD e3).1 hi1) <| t_v (fun w hx => zbM (p := (o3 + (s1 : Int).toNat * 1)) (o := 0) (v := .int .u32 (((y3).toNat : Int))) zcW (H.ext hx).sub rfl hc4 rfl) <| tp (zaC (v := v2) q3) <| tp (zaC q1) <| tp (zaU (i := (s1 : Int).toNat) u63 zbG rfl hv2 rfl (zaD e4).1 hi2) ?_
   refine t_v (fun w hx => zbM (p := (o4 + (s1 : Int).toNat * 1)) (o := 0) (v := .int .u32 (((y4).toNat : Int))) zcW (H.ext hx).sub rfl hc5 rfl) <| tp (zcR rfl rfl) <| zbP <| H.tn fun w4 H => wpList_nil <| zaP <| xn hK15 ?_
   refine zbR hb1 rfl (fun hb1 hc6 => ?_) fun hb1 hc6 => ?_
   ·refine sr fun K16 hK16 => ?_
    refine asI rfl <| xk hK16 <| wp_ret <| zdC <| b_ret <| zdC <| zdC <| b_ret <| zdC ?_
    obtain rfl := osi hb1
    obtain rfl := osi hh1
    obtain rfl := osi hE2
    obtain rfl := osi hF1
    refine e_1 rfl (zbD rfl) ?_
    exact ⟨rfl, H.toExt⟩
   ·refine wp_skip ?_
    refine xn hK14 <| wp_seq_k fun K17 hK17 => bn hb1 fun y5 e5 hb1 => ?_
    obtain ⟨b3, o5, N3, c3, cs3, hv3, hi3, hc7, hr3⟩ := g1.get (zaD e5).2
    obtain rfl := zeG hr3
    refine bn hb1 fun y6 e6 hb1 => ?_
    obtain ⟨b4, o6, N4, c4, cs4, hv4, hi4, hc8, hr4⟩ := g2.get (zaD e6).2
    obtain rfl := zeG hr4
    refine wrS H 9 [] fun vs2 H => ?_
    refine tp (zaC (v := v1) q2) <| tp (zaC q1) <| tp (zaU (i := (s1 : Int).toNat) u63 zbG rfl hv3 rfl (zaD e5).1 hi3) <| t_v (fun w hx => zbM (p := (o5 + (s1 : Int).toNat * 1)) (o := 0) (v := .int .u32 (((y5).toNat : Int))) zcW (H.ext hx).sub rfl hc7 rfl) <| tp (zaC (v := v2) q3) <| tp (zaC q1) <| tp (zaU (i := (s1 : Int).toNat) u63 zbG rfl hv4 rfl (zaD e6).1 hi4) ?_
    refine t_v (fun w hx => zbM (p := (o6 + (s1 : Int).toNat * 1)) (o := 0) (v := .int .u32 (((y6).toNat : Int))) zcW (H.ext hx).sub rfl hc8 rfl) <| tp (r_gtrI rfl rfl) <| zbP <| H.tn fun w5 H => wpList_nil <| zaP <| xn hK17 ?_
    refine zbR hb1 rfl (fun hb1 hc9 => ?_) fun hb1 hc9 => ?_
    ·refine sr fun K18 hK18 => ?_
     refine asI rfl <| xk hK18 <| wp_ret <| b_ret <| zdC <| zdC <| b_ret <| zdC ?_
     obtain rfl := osi hb1
     obtain rfl := osi hh1
     obtain rfl := osi hE2
     obtain rfl := osi hF1
     refine e_1 rfl (zbD rfl) ?_
     exact ⟨rfl, H.toExt⟩
    ·refine wp_skip ?_
     refine zaS <| xn hK13 <| wp_region_lit <| p_mv q1 <| zaA (zdQ rfl rfl) <| asI rfl <| wpList_nil <| zaG ?_
     obtain rfl := osi hb1
     exact ⟨(w64 (s1 - 1)), _, rfl, (kS k3 rfl kcx), ⟨rfl, H⟩, hh1⟩
  ·refine wp_exit ?_
   refine zaN <| zaN <| zcK <| zaG ?_
   obtain rfl := osi hb1
   obtain rfl := osi hh1
   obtain rfl := osi hE2
   exact J1 _ _ _ rfl (kS k3 rfl (kN k2 kcx)) H
def r6_Add_b0 (x0 : List UInt32) (x1 : List UInt32) (s1 : UInt32 × Int × (List UInt32)) : Option ((UInt32 × Int × (List UInt32)) ⊕ (UInt32 × (List UInt32))) :=
  bif (bif decide (s1.2.1 < ((x0).length : Int)) then true else decide (s1.2.1 < ((x1).length : Int))) then (Option.bind (bif decide (s1.2.1 < ((x0).length : Int)) then (Option.bind (idx x0 s1.2.1) fun y1 => some ((i32 (((s1.1).toNat : Int) + ((y1).toNat : Int))))) else (some (s1.1))) (fun t2 => Option.bind (bif decide (s1.2.1 < ((x1).length : Int)) then (Option.bind (idx x1 s1.2.1) fun y2 => some ((i32 (((t2).toNat : Int) + ((y2).toNat : Int))))) else (some (t2))) (fun t3 => Option.bind (app s1.2.2 ([(t3 &&& (65535 : UInt32))] : List UInt32)) fun y3 => some (.inl (((i32 (shrI .u32 ((t3).toNat : Int) 16)), (w64 (s1.2.1 + 1)), y3)))))) else (some (.inr ((s1.1, s1.2.2))))
def r6_Add_p (x0 : List UInt32) (x1 : List UInt32) : Option ((List UInt32)) :=
  Option.bind (Option.bind (iter (r6_Add_b0 x0 x1) (((0 : UInt32), 0, ([] : List UInt32)))) (fun e => some (e))) (fun t1 => Option.bind (app t1.2 ([t1.1] : List UInt32)) fun y4 => Option.bind (zfS y4) fun y5 => some (y5))
theorem r6_Add_c (hS : Sub S w) {v0_ : Value} {x0 : List UInt32} (h0_ : RdS S v0_ x0) {v1_ : Value} {x1 : List UInt32} (h1_ : RdS S v1_ x1) {r : (List UInt32)} (hF : r6_Add_p x0 x1 = some r) :
    Calls Tryz.prog 150 #[v0_, v1_] w fun e w' => Ext w w' ∧ ∃ (v0' : Value), e = .returned (v0') ∧ RdS (gr S w w') v0' r := by
 refine enter (n := 53) Tryz.func150 rfl rfl rfl ?_
 have H := HS.start hS
 refine sr fun K1 hK1 => asN rfl <| xk hK1 <| sr fun K2 hK2 => ?_
 have g1 : RL S ([] : List Value) ([] : List UInt32) := RL.nil
 refine p_of1 (zeN (N := 0) (vals := []) (l := ([] : List Value)) tn63 H rfl rfl rfl g1.len) fun w1 v1 H => p_as (v := v1) rfl <| xk hK2 <| sr fun K3 hK3 => asI rfl <| xk hK3 <| wp_seq_k fun K4 hK4 => zaY fun m1 k1 => bn hF fun t1 hE1 hF1 => ?_
 have J4 : ∀ (v5 : Value) (cs7 rs3 : List Value) (m10 : FM) (w7 : World), Kp (5 :: 6 :: 7 :: rg 9 39 []) m10 m1 → look m10 5 = v5 → look m10 6 = .int .u32 (((t1.1).toNat : Int)) → HS ⟨S, [], w⟩ S w7 [.osl (v5) (t1.2).length 1 cs7 rs3 107] → RL S cs7 t1.2 → K4 (fr 53 m10) w7 := by
  clear H; intro v5 cs7 rs3 m10 w7 k11 q22 q23 H g5
  refine hK4 _ _ <| sr fun K15 hK15 => p_mv (v := v5) q22 <| p_mv q23 <| zhD (zbO (N := 1) (xs := ([t1.1] : List UInt32)) (RL.cons zkO RL.nil) tn63 H rfl rfl rfl) fun w8 v6 cs8 H g6 => bn hF1 fun y4 e4 hF1 => zjF (zcX (k := 1) (v2 := v6) tn63 rfl H rfl rfl g5 rfl (H.slW (k := 0) rfl) g6 e4) fun w9 v7 cs9 rs4 H g7 => ?_
  replace H := H.sel [1] rfl
  replace H := hsn H
  obtain ⟨S1, hle1, g8, H1⟩ := H.fixX (k := 0) rfl g7; clear H; have H := H1; clear H1
  replace H := hsn H
  refine bn hF1 fun y5 e5 hF1 => zaF is84 rfl <| (ziT H.sub g8 e5).mono <| H.ye fun w10 v8 S2 hle2 H g9 => ?_
  replace g8 := g8.mono hle2
  refine p_as (v := v8) rfl <| xk hK15 <| wp_ret ?_
  obtain rfl := osi hF1
  refine e_1 rfl (zbD rfl) ?_
  exact ⟨H.toExt, _, rfl, RdS.mono g9 H.gr⟩
 refine sr fun K5 hK5 => asI rfl <| xk hK5 <| wp_block <| zaY fun m2 k2 => bn hE1 fun out1 hL1 hE2 => ?_
 refine zdL (5 :: 6 :: 7 :: rg 9 39 []) (fun (s1 : UInt32 × Int × (List UInt32)) (m3 : FM) (w2 : World) => ∃ (v2 : Value) (cs2 rs1 : List Value), look m3 5 = v2 ∧ look m3 6 = .int .u32 (((s1.1).toNat : Int)) ∧ look m3 7 = .int .i64 (s1.2.1) ∧ HS ⟨S, [], w⟩ S w2 [.osl (v2) (s1.2.2).length 1 cs2 rs1 107] ∧ RL S cs2 s1.2.2) hL1 ⟨_, _, _, (show _ = (v1 : Value) from ((k2 5).trans (k1 5))), ((k2 6).trans (k1 6)), (k2 7), H, g1⟩ ?_
 clear H; intro k4 s1 m3 w2 k3 hI1 o2 hb1 hh1; obtain ⟨v2, cs2, rs1, q1, q2, q3, H, g2⟩ := hI1
 have q4 : look m3 0 = v0_ := (k3 0 rfl).trans ((k2 0).trans (k1 0))
 have q5 : look m3 1 = v1_ := (k3 1 rfl).trans ((k2 1).trans (k1 1))
 refine wp_seq_k fun K6 hK6 => sr fun K7 hK7 => p_mv q3 <| p_mv (v := v0_) q4 <| zaA (r_lenR' u63 rfl h0_ H.sub) <| zaA (zcR rfl rfl) <| mvB rfl <| zkU fun m4 k5 => zkX 5 fun K8 hK8 R2 hR2 => ?_
 have J1 : ∀ (m5 : FM), Kp [14, 15, 16, 17, 18] m5 m4 → look m5 18 = .bool ((bif decide (s1.2.1 < ((x0).length : Int)) then true else decide (s1.2.1 < ((x1).length : Int)))) → K8 m5 w2 := by
  intro m5 k6 q6
  have q7 := (k6 0 rfl).trans ((k5 0).trans q4)
  have q8 := (k6 1 rfl).trans ((k5 1).trans q5)
  have q9 := (k6 5 rfl).trans ((k5 5).trans q1)
  have q10 := (k6 6 rfl).trans ((k5 6).trans q2)
  have q11 := (k6 7 rfl).trans ((k5 7).trans q3)
  refine hK8 _ _ ?_; clear hK8 hR2
  refine xk hK7 ?_
  refine zcG q6 (fun hc1 => ?_) (fun hc1 => ?_)
  ·replace hb1 := zfK hb1 hc1
   refine wp_skip <| xn hK6 <| wp_seq_k fun K9 hK9 => wp_block <| wp_seq_k fun K10 hK10 => zaY fun m6 k7 => bn hb1 fun t2 hE3 hF2 => ?_
   have J3 : ∀ (m7 : FM) (w3 : World), Kp (6 :: rg 21 10 []) m7 m6 → look m7 6 = .int .u32 (((t2).toNat : Int)) → HS ⟨S, [], w⟩ S w3 [.osl (v2) (s1.2.2).length 1 cs2 rs1 107] → K10 (fr 53 m7) w3 := by
    clear H; intro m7 w3 k8 q12 H
    have q13 := (k8 0 rfl).trans ((k7 0).trans q7)
    have q14 := (k8 1 rfl).trans ((k7 1).trans q8)
    have q15 := (k8 5 rfl).trans ((k7 5).trans q9)
    have q16 := (k8 7 rfl).trans ((k7 7).trans q11)
    refine hK10 _ _ <| wp_seq_k fun K12 hK12 => zaY fun m8 k9 => bn hF2 fun t3 hE4 hF3 => ?_
    have J2 : ∀ (m9 : FM) (w4 : World), Kp (6 :: rg 31 10 []) m9 m8 → look m9 6 = .int .u32 (((t3).toNat : Int)) → HS ⟨S, [], w⟩ S w4 [.osl (v2) (s1.2.2).length 1 cs2 rs1 107] → K12 (fr 53 m9) w4 := by
     clear H; intro m9 w4 k10 q17 H
     have q18 := (k10 0 rfl).trans ((k9 0).trans q13)
     have q19 := (k10 1 rfl).trans ((k9 1).trans q14)
     have q20 := (k10 5 rfl).trans ((k9 5).trans q15)
     have q21 := (k10 7 rfl).trans ((k9 7).trans q16)
     refine hK12 _ _ <| sr fun K14 hK14 => p_mv (v := v2) q20 <| p_mv q17 <| zaA (zbJ (bo := .and) (by simp) rfl rfl (ziY _ (65535 : UInt32))) <| zhD (zbO (N := 1) (xs := ([(t3 &&& (65535 : UInt32))] : List UInt32)) (RL.cons zkO RL.nil) tn63 H rfl rfl rfl) fun w5 v3 cs5 H g3 => bn hF3 fun y3 e3 hF3 => ?_
     refine zjF (zcX (k := 1) (v2 := v3) tn63 rfl H rfl rfl g2 rfl (H.slW (k := 0) rfl) g3 e3) fun w6 v4 cs6 rs2 H g4 => ?_
     replace H := H.sel [1] rfl
     replace H := hsn H
     refine p_as (v := v4) rfl <| xk hK14 <| wp_region_lit <| p_mv q17 <| zaA (zeM rfl rfl (by decide) (zjJ _ _)) <| asI rfl <| wpList_nil <| zaS <| xn hK9 ?_
     refine wp_region_lit <| p_mv q21 <| zaA (zcH rfl rfl) <| asI rfl <| wpList_nil <| zaG ?_
     obtain rfl := osi hF3
     exact ⟨((i32 (shrI .u32 ((t3).toNat : Int) 16)), (w64 (s1.2.1 + 1)), y3), _, rfl, (kS k10 rfl (kN k9 (kS k8 rfl (kN k7 (kS k6 rfl (kN k5 (kS k3 rfl kcx))))))), ⟨_, _, _, rfl, rfl, rfl, H, g4⟩, hh1⟩
    refine sr fun K13 hK13 => p_mv ((k9 7).trans q16) <| p_mv (v := v1_) ((k9 1).trans q14) <| zaA (r_lenR' u63 rfl h1_ H.sub) <| zaA (zcR rfl rfl) <| xk hK13 ?_
    refine zbR hE4 rfl (fun hE4 hc4 => ?_) fun hE4 hc4 => ?_
    ·refine wp_region_lit ?_
     refine p_mv ((k9 6).trans q12) <| p_mv (v := v1_) ((k9 1).trans q14) <| p_mv ((k9 7).trans q16) <| bn hE4 fun y2 e2 hE4 => ?_
     obtain ⟨b2, o6, N2, c2, cs4, hv2, hi2, hc5, hr2⟩ := h1_.get (zaD e2).2
     refine zaA (zaU (i := (s1.2.1 : Int).toNat) u63 zbG rfl hv2 rfl (zaD e2).1 hi2) ?_
     obtain rfl := zeG hr2
     refine zaA (zbM (p := (o6 + (s1.2.1 : Int).toNat * 1)) (o := 0) (v := .int .u32 (((y2).toNat : Int))) zcW H.sub rfl hc5 rfl) <| zaA (zcM rfl rfl (zbN _)) <| asI rfl <| wpList_nil <| zaG ?_
     obtain rfl := osi hE4
     exact J2 _ _ kcx rfl H
    ·refine wp_skip ?_
     refine zaG ?_
     obtain rfl := osi hE4
     exact J2 _ _ kcx ((k9 6).trans q12) H
   refine sr fun K11 hK11 => p_mv ((k7 7).trans q11) <| p_mv (v := v0_) ((k7 0).trans q7) <| zaA (r_lenR' u63 rfl h0_ H.sub) <| zaA (zcR rfl rfl) <| xk hK11 ?_
   refine zbR hE3 rfl (fun hE3 hc2 => ?_) fun hE3 hc2 => ?_
   ·refine wp_region_lit ?_
    refine p_mv ((k7 6).trans q10) <| p_mv (v := v0_) ((k7 0).trans q7) <| p_mv ((k7 7).trans q11) <| bn hE3 fun y1 e1 hE3 => ?_
    obtain ⟨b1, o4, N1, c1, cs3, hv1, hi1, hc3, hr1⟩ := h0_.get (zaD e1).2
    refine zaA (zaU (i := (s1.2.1 : Int).toNat) u63 zbG rfl hv1 rfl (zaD e1).1 hi1) ?_
    obtain rfl := zeG hr1
    refine zaA (zbM (p := (o4 + (s1.2.1 : Int).toNat * 1)) (o := 0) (v := .int .u32 (((y1).toNat : Int))) zcW H.sub rfl hc3 rfl) <| zaA (zcM rfl rfl (zbN _)) <| asI rfl <| wpList_nil <| zaG ?_
    obtain rfl := osi hE3
    exact J3 _ _ kcx rfl H
   ·refine wp_skip ?_
    refine zaG ?_
    obtain rfl := osi hE3
    exact J3 _ _ kcx ((k7 6).trans q10) H
  ·replace hb1 := zfR hb1 hc1
   refine wp_exit <| zaN <| zaN <| zcK <| zaG ?_
   obtain rfl := osi hb1
   obtain rfl := osi hh1
   obtain rfl := osi hE2
   exact J4 _ _ _ _ _ (kS k6 rfl (kN k5 (kS k3 rfl (kN k2 kcx)))) (show _ = (v2 : Value) from q9) q10 H g2
 refine p_gs (j := 4) (zaI rfl rfl (k5 13)) (fun hb2 => ?_) (fun hb2 => ?_)
 ·refine zaW (zaI rfl rfl (k5 13)) hb2 ?_
  rw [zaH]
  refine zaW (zaI rfl rfl (k5 13)) hb2 ?_
  rw [zaH]
  refine zaW (zaI rfl rfl (k5 13)) hb2 ?_
  rw [zaH]
  refine zaW (zaI rfl rfl (k5 13)) hb2 ?_
  rw [zaH]
  refine zaA (zbQ (v := .bool (true)) (k5 13) hb2 rfl) <| hR2 _ _ ?_
  exact J1 _ kcx (show (.bool (true) : Value) = .bool ((bif decide (s1.2.1 < ((x0).length : Int)) then true else decide (s1.2.1 < ((x1).length : Int)))) from congrArg Value.bool (by simp only [hb2, cond_true, cond_false]))
 ·refine zaT (zaI rfl rfl (k5 13)) hb2 ?_
  refine p_mv ((k5 7).trans q3) <| zaT (zaI rfl rfl (k5 13)) hb2 <| p_mv (v := v1_) ((k5 1).trans q5) <| zaT (zaI rfl rfl (k5 13)) hb2 <| zaA (r_lenR' u63 rfl h1_ H.sub) <| zaT (zaI rfl rfl (k5 13)) hb2 <| zaA (zcR rfl rfl) <| zaA (zaX (v := .bool (decide (s1.2.1 < ((x1).length : Int)))) (k5 13) hb2 rfl) <| hR2 _ _ ?_
  exact J1 _ kcx (show (.bool (decide (s1.2.1 < ((x1).length : Int))) : Value) = .bool ((bif decide (s1.2.1 < ((x0).length : Int)) then true else decide (s1.2.1 < ((x1).length : Int)))) from congrArg Value.bool (by simp only [hb2, cond_true, cond_false]))
def r6_Sub_b0 (x0 : List UInt32) (x1 : List UInt32) (s1 : UInt32 × Int × (List UInt32)) : Option ((UInt32 × Int × (List UInt32)) ⊕ ((List UInt32))) :=
  bif decide (s1.2.1 < ((x0).length : Int)) then (Option.bind (idx x0 s1.2.1) fun y1 => Option.bind (bif decide (s1.2.1 < ((x1).length : Int)) then (Option.bind (idx x1 s1.2.1) fun y2 => some ((i32 ((((i32 ((((i32 ((65536 : Int) + ((y1).toNat : Int)))).toNat : Int) - ((s1.1).toNat : Int)))).toNat : Int) - ((y2).toNat : Int))))) else (some ((i32 ((((i32 ((65536 : Int) + ((y1).toNat : Int)))).toNat : Int) - ((s1.1).toNat : Int)))))) (fun t2 => Option.bind (app s1.2.2 ([(t2 &&& (65535 : UInt32))] : List UInt32)) fun y3 => some (.inl (((i32 ((1 : Int) - (((i32 (shrI .u32 ((t2).toNat : Int) 16))).toNat : Int))), (w64 (s1.2.1 + 1)), y3))))) else (some (.inr (s1.2.2)))
def r6_Sub_p (x0 : List UInt32) (x1 : List UInt32) : Option ((List UInt32)) :=
  Option.bind (Option.bind (iter (r6_Sub_b0 x0 x1) (((0 : UInt32), 0, ([] : List UInt32)))) (fun e => some (e))) (fun t1 => Option.bind (zfS t1) fun y4 => some (y4))
theorem r6_Sub_c (hS : Sub S w) {v0_ : Value} {x0 : List UInt32} (h0_ : RdS S v0_ x0) {v1_ : Value} {x1 : List UInt32} (h1_ : RdS S v1_ x1) {r : (List UInt32)} (hF : r6_Sub_p x0 x1 = some r) :
    Calls Tryz.prog 121 #[v0_, v1_] w fun e w' => Ext w w' ∧ ∃ (v0' : Value), e = .returned (v0') ∧ RdS (gr S w w') v0' r := by
 refine enter (n := 43) Tryz.func121 rfl rfl rfl ?_
 have H := HS.start hS
 refine sr fun K1 hK1 => asN rfl <| xk hK1 <| sr fun K2 hK2 => ?_
 have g1 : RL S ([] : List Value) ([] : List UInt32) := RL.nil
 refine p_of1 (zeN (N := 0) (vals := []) (l := ([] : List Value)) tn63 H rfl rfl rfl g1.len) fun w1 v1 H => p_as (v := v1) rfl <| xk hK2 <| sr fun K3 hK3 => asI rfl <| xk hK3 <| wp_seq_k fun K4 hK4 => zaY fun m1 k1 => bn hF fun t1 hE1 hF1 => ?_
 have J2 : ∀ (v5 : Value) (cs7 rs3 : List Value) (m6 : FM) (w6 : World), Kp (5 :: 6 :: 7 :: 8 :: rg 10 31 []) m6 m1 → look m6 5 = v5 → HS ⟨S, [], w⟩ S w6 [.osl (v5) (t1).length 1 cs7 rs3 107] → RL S cs7 t1 → K4 (fr 43 m6) w6 := by
  clear H; intro v5 cs7 rs3 m6 w6 k7 q11 H g5
  refine hK4 _ _ <| sr fun K13 hK13 => p_mv (v := v5) q11 ?_
  obtain ⟨S1, hle1, g6, H1⟩ := H.fixX (k := 0) rfl g5; clear H; have H := H1; clear H1
  replace H := hsn H
  refine bn hF1 fun y4 e4 hF1 => zaF is84 rfl <| (ziT H.sub g6 e4).mono <| H.ye fun w7 v6 S2 hle2 H g7 => ?_
  replace g6 := g6.mono hle2
  refine p_as (v := v6) rfl <| xk hK13 <| wp_ret ?_
  obtain rfl := osi hF1
  refine e_1 rfl (zbD rfl) ?_
  exact ⟨H.toExt, _, rfl, RdS.mono g7 H.gr⟩
 refine sr fun K5 hK5 => asI rfl <| xk hK5 <| wp_block <| zaY fun m2 k2 => bn hE1 fun out1 hL1 hE2 => ?_
 refine zdL (5 :: 6 :: 7 :: 8 :: rg 10 31 []) (fun (s1 : UInt32 × Int × (List UInt32)) (m3 : FM) (w2 : World) => ∃ (v2 : Value) (cs2 rs1 : List Value), look m3 5 = v2 ∧ look m3 6 = .int .u32 (((s1.1).toNat : Int)) ∧ look m3 7 = .int .i64 (s1.2.1) ∧ HS ⟨S, [], w⟩ S w2 [.osl (v2) (s1.2.2).length 1 cs2 rs1 107] ∧ RL S cs2 s1.2.2) hL1 ⟨_, _, _, (show _ = (v1 : Value) from ((k2 5).trans (k1 5))), ((k2 6).trans (k1 6)), (k2 7), H, g1⟩ ?_
 clear H; intro k4 s1 m3 w2 k3 hI1 o2 hb1 hh1; obtain ⟨v2, cs2, rs1, q1, q2, q3, H, g2⟩ := hI1
 have q4 : look m3 0 = v0_ := (k3 0 rfl).trans ((k2 0).trans (k1 0))
 have q5 : look m3 1 = v1_ := (k3 1 rfl).trans ((k2 1).trans (k1 1))
 refine wp_seq_k fun K6 hK6 => sr fun K7 hK7 => p_mv q3 <| p_mv (v := v0_) q4 <| zaA (r_lenR' u63 rfl h0_ H.sub) <| zaA (zcR rfl rfl) <| xk hK7 ?_
 refine zbR hb1 rfl (fun hb1 hc1 => ?_) fun hb1 hc1 => ?_
 ·refine wp_skip ?_
  refine xn hK6 <| wp_seq_k fun K8 hK8 => wp_block <| sr fun K9 hK9 => p_mv (v := v0_) q4 <| p_mv q3 <| bn hb1 fun y1 e1 hb1 => ?_
  obtain ⟨b1, o3, N1, c1, cs3, hv1, hi1, hc2, hr1⟩ := h0_.get (zaD e1).2
  refine zaA (zaU (i := (s1.2.1 : Int).toNat) u63 zbG rfl hv1 rfl (zaD e1).1 hi1) ?_
  obtain rfl := zeG hr1
  refine zaA (zbM (p := (o3 + (s1.2.1 : Int).toNat * 1)) (o := 0) (v := .int .u32 (((y1).toNat : Int))) zcW H.sub rfl hc2 rfl) <| zaA (zcM rfl rfl (zbN _)) <| p_mv q2 <| zaA (zgE rfl rfl (zbN _)) <| asI rfl <| xk hK9 <| wp_seq_k fun K10 hK10 => zaY fun m4 k5 => bn hb1 fun t2 hE3 hF2 => ?_
  have J1 : ∀ (m5 : FM) (w3 : World), Kp (8 :: rg 23 10 []) m5 m4 → look m5 8 = .int .u32 (((t2).toNat : Int)) → HS ⟨S, [], w⟩ S w3 [.osl (v2) (s1.2.2).length 1 cs2 rs1 107] → K10 (fr 43 m5) w3 := by
   clear H; intro m5 w3 k6 q6 H
   have q7 := (k6 0 rfl).trans ((k5 0).trans q4)
   have q8 := (k6 1 rfl).trans ((k5 1).trans q5)
   have q9 := (k6 5 rfl).trans ((k5 5).trans q1)
   have q10 := (k6 7 rfl).trans ((k5 7).trans q3)
   refine hK10 _ _ <| sr fun K12 hK12 => p_mv (v := v2) q9 <| p_mv q6 <| zaA (zbJ (bo := .and) (by simp) rfl rfl (ziY _ (65535 : UInt32))) <| zhD (zbO (N := 1) (xs := ([(t2 &&& (65535 : UInt32))] : List UInt32)) (RL.cons zkO RL.nil) tn63 H rfl rfl rfl) fun w4 v3 cs5 H g3 => bn hF2 fun y3 e3 hF2 => ?_
   refine zjF (zcX (k := 1) (v2 := v3) tn63 rfl H rfl rfl g2 rfl (H.slW (k := 0) rfl) g3 e3) fun w5 v4 cs6 rs2 H g4 => ?_
   replace H := H.sel [1] rfl
   replace H := hsn H
   refine p_as (v := v4) rfl <| xk hK12 <| wp_region_lit <| p_mv q6 <| zaA (zeM rfl rfl (by decide) (zjJ _ _)) <| zaA (zgE rfl rfl (zbN _)) <| asI rfl <| wpList_nil <| zaS ?_
   refine xn hK8 <| wp_region_lit <| p_mv q10 <| zaA (zcH rfl rfl) <| asI rfl <| wpList_nil <| zaG ?_
   obtain rfl := osi hF2
   exact ⟨((i32 ((1 : Int) - (((i32 (shrI .u32 ((t2).toNat : Int) 16))).toNat : Int))), (w64 (s1.2.1 + 1)), y3), _, rfl, (kS k6 rfl (kN k5 (kS k3 rfl kcx))), ⟨_, _, _, rfl, rfl, rfl, H, g4⟩, hh1⟩
  refine sr fun K11 hK11 => p_mv ((k5 7).trans q3) <| p_mv (v := v1_) ((k5 1).trans q5) <| zaA (r_lenR' u63 rfl h1_ H.sub) <| zaA (zcR rfl rfl) <| xk hK11 ?_
  refine zbR hE3 rfl (fun hE3 hc3 => ?_) fun hE3 hc3 => ?_
  ·refine wp_region_lit ?_
   refine p_mv (k5 8) <| p_mv (v := v1_) ((k5 1).trans q5) <| p_mv ((k5 7).trans q3) <| bn hE3 fun y2 e2 hE3 => ?_
   obtain ⟨b2, o5, N2, c2, cs4, hv2, hi2, hc4, hr2⟩ := h1_.get (zaD e2).2
   refine zaA (zaU (i := (s1.2.1 : Int).toNat) u63 zbG rfl hv2 rfl (zaD e2).1 hi2) ?_
   obtain rfl := zeG hr2
   refine zaA (zbM (p := (o5 + (s1.2.1 : Int).toNat * 1)) (o := 0) (v := .int .u32 (((y2).toNat : Int))) zcW H.sub rfl hc4 rfl) <| zaA (zgE rfl rfl (zbN _)) <| asI rfl <| wpList_nil <| zaG ?_
   obtain rfl := osi hE3
   exact J1 _ _ kcx rfl H
  ·refine wp_skip ?_
   refine zaG ?_
   obtain rfl := osi hE3
   exact J1 _ _ kcx (k5 8) H
 ·refine wp_exit ?_
  refine zaN <| zaN <| zcK <| zaG ?_
  obtain rfl := osi hb1
  obtain rfl := osi hh1
  obtain rfl := osi hE2
  exact J2 _ _ _ _ _ (kS k3 rfl (kN k2 kcx)) (show _ = (v2 : Value) from q1) H g2
def r6_Mul_b1 (x0 : List UInt32) (x1 : List UInt32) (s1 : Int × (List UInt32)) (s2 : UInt64 × Int × (List UInt32)) : Option ((UInt64 × Int × (List UInt32)) ⊕ (UInt64 × (List UInt32))) :=
  bif decide (s2.2.1 < ((x1).length : Int)) then (Option.bind (idx s2.2.2 (w64 (s1.1 + s2.2.1))) fun y2 => Option.bind (idx x0 s1.1) fun y3 => Option.bind (idx x1 s2.2.1) fun y4 => Option.bind (idx s2.2.2 (w64 (s1.1 + s2.2.1))) fun y5 => Option.bind (setL s2.2.2 ((w64 (s1.1 + s2.2.1)) : Int) (i32 ((((i64 (((s2.1).toNat : Int) + (((i64 ((((i64 ((y2).toNat : Int))).toNat : Int) + (((i64 ((((i64 ((y3).toNat : Int))).toNat : Int) * (((i64 ((y4).toNat : Int))).toNat : Int)))).toNat : Int)))).toNat : Int))) &&& (65535 : UInt64))).toNat : Int))) fun y6 => some (.inl (((i64 (shrI .u64 (((i64 (((s2.1).toNat : Int) + (((i64 ((((i64 ((y2).toNat : Int))).toNat : Int) + (((i64 ((((i64 ((y3).toNat : Int))).toNat : Int) * (((i64 ((y4).toNat : Int))).toNat : Int)))).toNat : Int)))).toNat : Int)))).toNat : Int) 16)), (w64 (s2.2.1 + 1)), y6)))) else (some (.inr ((s2.1, s2.2.2))))
def r6_Mul_b0 (x0 : List UInt32) (x1 : List UInt32) (s1 : Int × (List UInt32)) : Option ((Int × (List UInt32)) ⊕ ((List UInt32))) :=
  bif decide (s1.1 < ((x0).length : Int)) then (Option.bind (Option.bind (Option.bind (iter (r6_Mul_b1 x0 x1 s1) (((0 : UInt64), 0, s1.2))) (fun e => some (e))) (fun t3 => Option.bind (idx t3.2 (w64 (s1.1 + ((x1).length : Int)))) fun y7 => Option.bind (setL t3.2 ((w64 (s1.1 + ((x1).length : Int))) : Int) (i32 ((t3.1).toNat : Int))) fun y8 => some (y8))) (fun t2 => some (.inl (((w64 (s1.1 + 1)), t2))))) else (some (.inr (s1.2)))
def r6_Mul_p (x0 : List UInt32) (x1 : List UInt32) : Option ((List UInt32)) :=
  Option.bind (mkL (w64 (((x0).length : Int) + ((x1).length : Int))) (0 : UInt32)) fun y1 => Option.bind (Option.bind (iter (r6_Mul_b0 x0 x1) ((0, y1))) (fun e => some (e))) (fun t1 => Option.bind (zfS t1) fun y9 => some (y9))
theorem r6_Mul_c (hS : Sub S w) {v0_ : Value} {x0 : List UInt32} (h0_ : RdS S v0_ x0) {v1_ : Value} {x1 : List UInt32} (h1_ : RdS S v1_ x1) {r : (List UInt32)} (hF : r6_Mul_p x0 x1 = some r) :
    Calls Tryz.prog 123 #[v0_, v1_] w fun e w' => Ext w w' ∧ ∃ (v0' : Value), e = .returned (v0') ∧ RdS (gr S w w') v0' r := by
 refine enter (n := 68) Tryz.func123 rfl rfl rfl ?_
 have H := HS.start hS
 refine sr fun K1 hK1 => asN rfl <| xk hK1 <| sr fun K2 hK2 => p_mv (v := v0_) rfl <| zaA (r_lenR' u63 rfl h0_ H.sub) <| p_mv (v := v1_) rfl <| zaA (r_lenR' u63 rfl h1_ H.sub) <| zaA (zcH rfl rfl) ?_
 refine bn hF fun y1 e1 hF => zjF (a_makeX (zx := (0 : UInt32)) tn63 rfl H rfl rfl (zkE (x := (0 : UInt32)) rfl) e1 (Int.le_refl _) (mkL_some e1).2.1) fun w1 v1 cs1 rs1 H g1 => p_as (v := v1) rfl <| xk hK2 <| wp_seq_k fun K3 hK3 => zaY fun m1 k1 => bn hF fun t1 hE1 hF1 => ?_
 have J3 : ∀ (cs11 rs6 : List Value) (m10 : FM) (w9 : World), Kp (6 :: 7 :: 8 :: rg 15 51 []) m10 m1 → HS ⟨S, [], w⟩ S w9 [.osl (v1) (t1).length 1 cs11 rs6 107] → RL S cs11 t1 → K3 (fr 68 m10) w9 := by
  clear H; intro cs11 rs6 m10 w9 k12 H g8
  have q20 : look m10 5 = v1 := (k12 5 rfl).trans (k1 5)
  refine hK3 _ _ <| sr fun K16 hK16 => p_mv (v := v1) q20 ?_
  obtain ⟨S1, hle1, g9, H1⟩ := H.fixX (k := 0) rfl g8; clear H; have H := H1; clear H1
  replace H := hsn H
  refine bn hF1 fun y9 e9 hF1 => zaF is84 rfl <| (ziT H.sub g9 e9).mono <| H.ye fun w10 v7 S2 hle2 H g10 => ?_
  replace g9 := g9.mono hle2
  refine p_as (v := v7) rfl <| xk hK16 <| wp_ret ?_
  obtain rfl := osi hF1
  refine e_1 rfl (zbD rfl) ?_
  exact ⟨H.toExt, _, rfl, RdS.mono g10 H.gr⟩
 refine sr fun K4 hK4 => asI rfl <| xk hK4 <| wp_block <| zaY fun m2 k2 => bn hE1 fun out1 hL1 hE2 => zdL (6 :: 7 :: 8 :: rg 15 51 []) (fun (s1 : Int × (List UInt32)) (m3 : FM) (w2 : World) => ∃ (cs2 rs2 : List Value), look m3 6 = .int .i64 (s1.1) ∧ HS ⟨S, [], w⟩ S w2 [.osl (v1) (s1.2).length 1 cs2 rs2 107] ∧ RL S cs2 s1.2) hL1 ⟨_, _, (k2 6), H, g1⟩ ?_
 clear H; intro k4 s1 m3 w2 k3 hI1 o2 hb1 hh1; obtain ⟨cs2, rs2, q1, H, g2⟩ := hI1
 have q2 : look m3 0 = v0_ := (k3 0 rfl).trans ((k2 0).trans (k1 0))
 have q3 : look m3 1 = v1_ := (k3 1 rfl).trans ((k2 1).trans (k1 1))
 have q4 : look m3 5 = v1 := (k3 5 rfl).trans ((k2 5).trans (k1 5))
 refine wp_seq_k fun K5 hK5 => sr fun K6 hK6 => p_mv q1 <| p_mv (v := v0_) q2 <| zaA (r_lenR' u63 rfl h0_ H.sub) <| zaA (zcR rfl rfl) <| xk hK6 ?_
 refine zbR hb1 rfl (fun hb1 hc1 => ?_) fun hb1 hc1 => ?_
 ·refine wp_skip ?_
  refine xn hK5 <| wp_seq_k fun K7 hK7 => zaY fun m4 k5 => bn hb1 fun t2 hE3 hF2 => ?_
  have J2 : ∀ (cs10 rs5 : List Value) (m9 : FM) (w8 : World), Kp (7 :: 8 :: rg 21 45 []) m9 m4 → HS ⟨S, [], w⟩ S w8 [.osl (v1) (t2).length 1 cs10 rs5 107] → RL S cs10 t2 → K7 (fr 68 m9) w8 := by
   clear H; intro cs10 rs5 m9 w8 k11 H g7
   have q16 := (k11 0 rfl).trans ((k5 0).trans q2)
   have q17 := (k11 1 rfl).trans ((k5 1).trans q3)
   have q18 := (k11 5 rfl).trans ((k5 5).trans q4)
   have q19 := (k11 6 rfl).trans ((k5 6).trans q1)
   refine hK7 _ _ <| wp_region_lit <| p_mv q19 <| zaA (zcH rfl rfl) <| asI rfl <| wpList_nil <| zaG ?_
   obtain rfl := osi hF2
   exact ⟨((w64 (s1.1 + 1)), t2), _, rfl, (kS k11 rfl (kN k5 (kS k3 rfl kcx))), ⟨_, _, rfl, H, g7⟩, hh1⟩
  refine wp_block <| sr fun K8 hK8 => asI rfl <| xk hK8 <| wp_seq_k fun K9 hK9 => zaY fun m5 k6 => bn hE3 fun t3 hE4 hF3 => ?_
  have J1 : ∀ (cs8 rs4 : List Value) (m8 : FM) (w6 : World), Kp (7 :: 8 :: rg 21 37 []) m8 m5 → look m8 7 = .int .u64 (((t3.1).toNat : Int)) → HS ⟨S, [], w⟩ S w6 [.osl (v1) (t3.2).length 1 cs8 rs4 107] → RL S cs8 t3.2 → K9 (fr 68 m8) w6 := by
   clear H; intro cs8 rs4 m8 w6 k10 q11 H g5
   have q12 := (k10 0 rfl).trans ((k6 0).trans ((k5 0).trans q2))
   have q13 := (k10 1 rfl).trans ((k6 1).trans ((k5 1).trans q3))
   have q14 := (k10 5 rfl).trans ((k6 5).trans ((k5 5).trans q4))
   have q15 := (k10 6 rfl).trans ((k6 6).trans ((k5 6).trans q1))
   refine hK9 _ _ <| wp_region_lit <| p_mv (v := v1) q14 <| p_mv q15 <| p_mv (v := v1_) q13 <| zaA (r_lenR' u63 rfl h1_ H.sub) <| zaA (zcH rfl rfl) <| p_mv q11 <| zaA (zcE u22 u107 rfl (zbN _)) ?_
   refine bn hF3 fun y7 e7 hF3 => ?_
   obtain ⟨b5, c5, hv5⟩ := H.ownAt (k := 0) rfl (zbA e7)
   refine zaA (zaU (i := ((w64 (s1.1 + ((x1).length : Int))) : Int).toNat) u63 zbG rfl hv5 rfl (zaD e7).1 (zbA e7)) ?_
   subst hv5
   refine bn hF3 fun y8 e8 hF3 => p_oft (zfE (k := 0) (l := [Value.int .u32 ((((i32 ((t3.1).toNat : Int))).toNat : Int))]) zbG rfl H rfl g5 rfl rfl (cells_one rfl) zkO e8) fun w7 cs9 H g6 => wpList_nil <| zaS <| zaG ?_
   obtain rfl := osi hF3
   exact J2 _ _ _ _ (kS k10 rfl (kN k6 kcx)) H g6
  refine sr fun K10 hK10 => asI rfl <| xk hK10 <| wp_block <| zaY fun m6 k7 => bn hE4 fun out2 hL2 hE5 => ?_
  refine zdL (7 :: 8 :: rg 21 37 []) (fun (s2 : UInt64 × Int × (List UInt32)) (m7 : FM) (w3 : World) => ∃ (cs3 rs3 : List Value), look m7 7 = .int .u64 (((s2.1).toNat : Int)) ∧ look m7 8 = .int .i64 (s2.2.1) ∧ HS ⟨S, [], w⟩ S w3 [.osl (v1) (s2.2.2).length 1 cs3 rs3 107] ∧ RL S cs3 s2.2.2) hL2 ⟨_, _, ((k7 7).trans (k6 7)), (k7 8), H, g2⟩ ?_
  clear H; intro k9 s2 m7 w3 k8 hI2 o5 hb2 hh2; obtain ⟨cs3, rs3, q5, q6, H, g3⟩ := hI2
  have q7 := (k8 0 rfl).trans ((k7 0).trans ((k6 0).trans ((k5 0).trans q2)))
  have q8 := (k8 1 rfl).trans ((k7 1).trans ((k6 1).trans ((k5 1).trans q3)))
  have q9 := (k8 5 rfl).trans ((k7 5).trans ((k6 5).trans ((k5 5).trans q4)))
  have q10 := (k8 6 rfl).trans ((k7 6).trans ((k6 6).trans ((k5 6).trans q1)))
  refine wp_seq_k fun K11 hK11 => sr fun K12 hK12 => p_mv q6 <| p_mv (v := v1_) q8 <| zaA (r_lenR' u63 rfl h1_ H.sub) <| zaA (zcR rfl rfl) <| xk hK12 ?_
  refine zbR hb2 rfl (fun hb2 hc2 => ?_) fun hb2 hc2 => ?_
  ·refine wp_skip ?_
   refine xn hK11 <| wp_seq_k fun K13 hK13 => wp_block <| wp_seq_k fun K14 hK14 => bn hb2 fun y2 e2 hb2 => ?_
   obtain ⟨b1, c1, hv1⟩ := H.ownAt (k := 0) rfl (zbA e2)
   subst hv1
   have hr1 := RL.get g3 (zaD e2).2; generalize hghr1 : piece cs3 _ _ = cs4 at hr1
   obtain rfl := zeG hr1
   refine bn hb2 fun y3 e3 hb2 => ?_
   obtain ⟨b2, o6, N1, c2, cs5, hv2, hi1, hc3, hr2⟩ := h0_.get (zaD e3).2
   obtain rfl := zeG hr2
   refine bn hb2 fun y4 e4 hb2 => ?_
   obtain ⟨b3, o7, N2, c3, cs6, hv3, hi2, hc4, hr3⟩ := h1_.get (zaD e4).2
   obtain rfl := zeG hr3
   refine wrS H 21 [] fun vs1 H => ?_
   refine tp (zaC q5) <| tp (zaC (v := (sl b1 0 (s2.2.2).length c1)) q9) <| tp (zaC q10) <| tp (zaC q6) <| tp (zcH rfl rfl) <| tp (zaU (i := ((w64 (s1.1 + s2.2.1)) : Int).toNat) u63 zbG rfl rfl rfl (zaD e2).1 (zbA e2)) <| t_v (fun w hx => zeJ (v := .int .u32 (((y2).toNat : Int))) zcW (H.ext hx) (k := 0) rfl rfl (zbA e2) hghr1) <| tp (zcE u107 u22 rfl (zbT _)) ?_
   refine tp (zaC (v := v0_) q7) <| tp (zaC q10) <| tp (zaU (i := (s1.1 : Int).toNat) u63 zbG rfl hv2 rfl (zaD e3).1 hi1) <| t_v (fun w hx => zbM (p := (o6 + (s1.1 : Int).toNat * 1)) (o := 0) (v := .int .u32 (((y3).toNat : Int))) zcW (H.ext hx).sub rfl hc3 rfl) <| tp (zcE u107 u22 rfl (zbT _)) <| tp (zaC (v := v1_) q8) <| tp (zaC q6) ?_
   refine tp (zaU (i := (s2.2.1 : Int).toNat) u63 zbG rfl hv3 rfl (zaD e4).1 hi2) <| t_v (fun w hx => zbM (p := (o7 + (s2.2.1 : Int).toNat * 1)) (o := 0) (v := .int .u32 (((y4).toNat : Int))) zcW (H.ext hx).sub rfl hc4 rfl) <| tp (zcE u107 u22 rfl (zbT _)) <| tp (zgW rfl rfl (zbT _)) <| tp (zcM rfl rfl (zbT _)) <| tp (zcM rfl rfl (zbT _)) ?_
   refine zbP <| H.tn fun w4 H => asI rfl <| wpList_nil <| zaP <| xn hK14 <| sr fun K15 hK15 => p_mv (v := sl b1 0 (s2.2.2).length c1) q9 <| p_mv q10 <| p_mv q6 <| zaA (zcH rfl rfl) ?_
   refine mvI rfl <| zaA (zbJ (bo := .and) (by simp) rfl rfl (zjO _ (65535 : UInt64))) <| zaA (zcE u22 u107 rfl (zbN _)) <| bn hb2 fun y5 e5 hb2 => zaA (zaU (i := ((w64 (s1.1 + s2.2.1)) : Int).toNat) u63 zbG rfl (HS.ownV H (k := 0) rfl) rfl (zaD e5).1 (zbA e5)) <| bn hb2 fun y6 e6 hb2 => ?_
   refine p_oft (zfE (k := 0) (l := [Value.int .u32 ((((i32 ((((i64 (((s2.1).toNat : Int) + (((i64 ((((i64 ((y2).toNat : Int))).toNat : Int) + (((i64 ((((i64 ((y3).toNat : Int))).toNat : Int) * (((i64 ((y4).toNat : Int))).toNat : Int)))).toNat : Int)))).toNat : Int))) &&& (65535 : UInt64))).toNat : Int))).toNat : Int))]) zbG rfl H rfl g3 rfl rfl (cells_one rfl) zkO e6) fun w5 cs7 H g4 => xk hK15 ?_
   refine wp_region_lit <| mvI rfl <| zaA (zeM rfl rfl (by decide) (zjC _ _)) <| asI rfl <| wpList_nil <| zaS <| xn hK13 <| wp_region_lit <| p_mv q6 ?_
   refine zaA (zcH rfl rfl) <| asI rfl <| wpList_nil <| zaG ?_
   obtain rfl := osi hb2
   exact ⟨((i64 (shrI .u64 (((i64 (((s2.1).toNat : Int) + (((i64 ((((i64 ((y2).toNat : Int))).toNat : Int) + (((i64 ((((i64 ((y3).toNat : Int))).toNat : Int) * (((i64 ((y4).toNat : Int))).toNat : Int)))).toNat : Int)))).toNat : Int)))).toNat : Int) 16)), (w64 (s2.2.1 + 1)), y6), _, rfl, (kS k8 rfl kcx), ⟨_, _, rfl, rfl, H, g4⟩, hh2⟩
  ·refine wp_exit ?_
   refine zaN <| zaN <| zcK <| zaG ?_
   obtain rfl := osi hb2
   obtain rfl := osi hh2
   obtain rfl := osi hE5
   exact J1 _ _ _ _ (kS k8 rfl (kN k7 kcx)) q5 H g3
 ·refine wp_exit ?_
  refine zaN <| zaN <| zcK <| zaG ?_
  obtain rfl := osi hb1
  obtain rfl := osi hh1
  obtain rfl := osi hE2
  exact J3 _ _ _ _ (kS k3 rfl (kN k2 kcx)) H g2
theorem is69 : IsFn Tryz.prog 69 := isFn Tryz.func69
theorem is70 : IsFn Tryz.prog 70 := isFn Tryz.func70
theorem is71 : IsFn Tryz.prog 71 := isFn Tryz.func71
theorem is121 : IsFn Tryz.prog 121 := isFn Tryz.func121
theorem is123 : IsFn Tryz.prog 123 := isFn Tryz.func123
theorem is150 : IsFn Tryz.prog 150 := isFn Tryz.func150
def zlF (s2 : Int × (List UInt32)) : Option ((Int × (List UInt32)) ⊕ ((List UInt32))) :=
  bif decide ((0 : Int) < s2.1) then (Option.bind (idx s2.2 (w64 (s2.1 - 1))) fun y2 => Option.bind (idx s2.2 s2.1) fun y3 => Option.bind (setL s2.2 (s2.1 : Int) y2) fun y4 => some (.inl (((w64 (s2.1 - 1)), y4)))) else (some (.inr (s2.2)))
def zjP (x1 : List UInt32) (t5 : UInt32) (s4 : UInt64 × Int × (List UInt32)) : Option ((UInt64 × Int × (List UInt32)) ⊕ ((List UInt32))) :=
  bif decide (s4.2.1 ≤ ((x1).length : Int)) then (Option.bind (bif decide (s4.2.1 < ((x1).length : Int)) then (Option.bind (idx x1 s4.2.1) fun y12 => some ((i64 (((s4.1).toNat : Int) + (((i64 ((((i64 ((t5).toNat : Int))).toNat : Int) * (((i64 ((y12).toNat : Int))).toNat : Int)))).toNat : Int))))) else (some (s4.1))) (fun t6 => Option.bind (idx s4.2.2 s4.2.1) fun y13 => Option.bind (idx s4.2.2 s4.2.1) fun y14 => Option.bind (setL s4.2.2 (s4.2.1 : Int) (i32 ((((i64 ((((i64 ((((i64 ((y13).toNat : Int))).toNat : Int) + 1099511627776))).toNat : Int) - ((t6).toNat : Int))) &&& (65535 : UInt64))).toNat : Int))) fun y15 => some (.inl (((i64 ((16777216 : Int) - (((i64 (shrI .u64 (((i64 ((((i64 ((((i64 ((y13).toNat : Int))).toNat : Int) + 1099511627776))).toNat : Int) - ((t6).toNat : Int)))).toNat : Int) 16))).toNat : Int))), (w64 (s4.2.1 + 1)), y15))))) else (some (.inr (s4.2.2)))
def r6_Left_b2 (x1 : List UInt32) (s3 : (List UInt32)) : Option (((List UInt32)) ⊕ ((List UInt32))) :=
  Option.bind (idx s3 ((x1).length : Int)) fun y8 => Option.bind (bif decide ((0 : Int) < ((y8).toNat : Int)) then (some (true)) else (Option.bind (subH s3 ((x1).length : Int)) fun y9 => Option.bind (zfC y9 x1) fun y10 => some (decide ((0 : Int) ≤ y10)))) (fun t4 => bif t4 then (Option.bind (idx s3 ((x1).length : Int)) fun y11 => Option.bind (bif (((y11).toNat : Int) == 0) then (some ((1 : UInt32))) else (some (y11))) (fun t5 => Option.bind (iter (zjP x1 t5) (((0 : UInt64), 0, s3))) (fun e => some (.inl (e))))) else (some (.inr (s3))))
def r6_Left_b0 (x0 : List UInt32) (x1 : List UInt32) (s1 : Int × (List UInt32)) : Option ((Int × (List UInt32)) ⊕ ((List UInt32))) :=
  bif decide ((0 : Int) ≤ s1.1) then (Option.bind (Option.bind (Option.bind (iter (zlF) ((((x1).length : Int), s1.2))) (fun e => some (e))) (fun t3 => Option.bind (idx x0 s1.1) fun y5 => Option.bind (idx t3 0) fun y6 => Option.bind (setL t3 (0 : Int) y5) fun y7 => Option.bind (iter (r6_Left_b2 x1) (y7)) (fun e => some (e)))) (fun t2 => some (.inl (((w64 (s1.1 - 1)), t2))))) else (some (.inr (s1.2)))
def zhV (x0 : List UInt32) (x1 : List UInt32) : Option ((List UInt32)) :=
  Option.bind (mkL (w64 (((x1).length : Int) + 1)) (0 : UInt32)) fun y1 => Option.bind (Option.bind (iter (r6_Left_b0 x0 x1) (((w64 (((x0).length : Int) - 1)), y1))) (fun e => some (e))) (fun t1 => Option.bind (zfS t1) fun y16 => some (y16))
theorem r6_Left_c (hS : Sub S w) {v0_ : Value} {x0 : List UInt32} (h0_ : RdS S v0_ x0) {v1_ : Value} {x1 : List UInt32} (h1_ : RdS S v1_ x1) {r : (List UInt32)} (hF : zhV x0 x1 = some r) :
    Calls Tryz.prog 70 #[v0_, v1_] w fun e w' => Ext w w' ∧ ∃ (v0' : Value), e = .returned (v0') ∧ RdS (gr S w w') v0' r := by
 refine enter (n := 102) Tryz.func70 rfl rfl rfl ?_
 have H := HS.start hS
 refine sr fun K1 hK1 => asN rfl <| xk hK1 <| sr fun K2 hK2 => p_mv (v := v1_) rfl <| zaA (r_lenR' u63 rfl h1_ H.sub) <| asI rfl <| xk hK2 <| sr fun K3 hK3 => ?_
 refine mvI rfl <| zaA (zcH rfl rfl) <| bn hF fun y1 e1 hF => zjF (a_makeX (zx := (0 : UInt32)) tn63 rfl H rfl rfl (zkE (x := (0 : UInt32)) rfl) e1 (Int.le_refl _) (mkL_some e1).2.1) fun w1 v1 cs1 rs1 H g1 => p_as (v := v1) rfl <| xk hK3 <| wp_seq_k fun K4 hK4 => zaY fun m1 k1 => bn hF fun t1 hE1 hF1 => ?_
 have J6 : ∀ (cs17 rs8 : List Value) (m20 : FM) (w15 : World), Kp (rg 7 7 (rg 19 81 [])) m20 m1 → HS ⟨S, [], w⟩ S w15 [.osl (v1) (t1).length 1 cs17 rs8 107] → RL S cs17 t1 → K4 (fr 102 m20) w15 := by
  clear H; intro cs17 rs8 m20 w15 k24 H g12
  have q55 : look m20 6 = v1 := (k24 6 rfl).trans (k1 6)
  refine hK4 _ _ <| sr fun K31 hK31 => p_mv (v := v1) q55 ?_
  obtain ⟨S1, hle1, g13, H1⟩ := H.fixX (k := 0) rfl g12; clear H; have H := H1; clear H1
  replace H := hsn H
  refine bn hF1 fun y16 e16 hF1 => zaF is84 rfl <| (ziT H.sub g13 e16).mono <| H.ye fun w16 v9 S2 hle2 H g14 => ?_
  replace g13 := g13.mono hle2
  refine p_as (v := v9) rfl <| xk hK31 <| wp_ret ?_
  obtain rfl := osi hF1
  refine e_1 rfl (zbD rfl) ?_
  exact ⟨H.toExt, _, rfl, RdS.mono g14 H.gr⟩
 refine sr fun K5 hK5 => p_mv (v := v0_) (k1 0) <| zaA (r_lenR' u63 rfl h0_ H.sub) <| zaA (zdQ rfl rfl) <| asI rfl <| xk hK5 <| wp_block <| zaY fun m2 k2 => bn hE1 fun out1 hL1 hE2 => ?_
 refine zdL (rg 7 7 (rg 22 78 [])) (fun (s1 : Int × (List UInt32)) (m3 : FM) (w2 : World) => ∃ (cs2 rs2 : List Value), look m3 7 = .int .i64 (s1.1) ∧ HS ⟨S, [], w⟩ S w2 [.osl (v1) (s1.2).length 1 cs2 rs2 107] ∧ RL S cs2 s1.2) hL1 ⟨_, _, (k2 7), H, g1⟩ ?_
 clear H; intro k4 s1 m3 w2 k3 hI1 o2 hb1 hh1; obtain ⟨cs2, rs2, q1, H, g2⟩ := hI1
 have q2 : look m3 0 = v0_ := (k3 0 rfl).trans ((k2 0).trans (k1 0))
 have q3 : look m3 1 = v1_ := (k3 1 rfl).trans ((k2 1).trans (k1 1))
 have q4 : look m3 5 = .int .i64 (((x1).length : Int)) := (k3 5 rfl).trans ((k2 5).trans (k1 5))
 have q5 : look m3 6 = v1 := (k3 6 rfl).trans ((k2 6).trans (k1 6))
 refine wp_seq_k fun K6 hK6 => sr fun K7 hK7 => p_mv q1 <| zaA (r_geqI rfl rfl) <| xk hK7 ?_
 refine zbR hb1 rfl (fun hb1 hc1 => ?_) fun hb1 hc1 => ?_
 ·refine wp_skip ?_
  refine xn hK6 <| wp_seq_k fun K8 hK8 => zaY fun m4 k5 => bn hb1 fun t2 hE3 hF2 => ?_
  have J5 : ∀ (cs16 rs7 : List Value) (m19 : FM) (w14 : World), Kp (rg 8 6 (rg 26 74 [])) m19 m4 → HS ⟨S, [], w⟩ S w14 [.osl (v1) (t2).length 1 cs16 rs7 107] → RL S cs16 t2 → K8 (fr 102 m19) w14 := by
   clear H; intro cs16 rs7 m19 w14 k23 H g11
   have q50 := (k23 0 rfl).trans ((k5 0).trans q2)
   have q51 := (k23 1 rfl).trans ((k5 1).trans q3)
   have q52 := (k23 5 rfl).trans ((k5 5).trans q4)
   have q53 := (k23 6 rfl).trans ((k5 6).trans q5)
   have q54 := (k23 7 rfl).trans ((k5 7).trans q1)
   refine hK8 _ _ <| wp_region_lit <| p_mv q54 <| zaA (zdQ rfl rfl) <| asI rfl <| wpList_nil <| zaG ?_
   obtain rfl := osi hF2
   exact ⟨((w64 (s1.1 - 1)), t2), _, rfl, (kS k23 rfl (kN k5 (kS k3 rfl kcx))), ⟨_, _, rfl, H, g11⟩, hh1⟩
  refine wp_block <| wp_seq_k fun K9 hK9 => zaY fun m5 k6 => bn hE3 fun t3 hE4 hF3 => ?_
  have J4 : ∀ (cs6 rs4 : List Value) (m8 : FM) (w5 : World), Kp (8 :: rg 26 13 []) m8 m5 → HS ⟨S, [], w⟩ S w5 [.osl (v1) (t3).length 1 cs6 rs4 107] → RL S cs6 t3 → K9 (fr 102 m8) w5 := by
   clear H; intro cs6 rs4 m8 w5 k10 H g5
   have q12 := (k10 0 rfl).trans ((k6 0).trans ((k5 0).trans q2))
   have q13 := (k10 1 rfl).trans ((k6 1).trans ((k5 1).trans q3))
   have q14 := (k10 5 rfl).trans ((k6 5).trans ((k5 5).trans q4))
   have q15 := (k10 6 rfl).trans ((k6 6).trans ((k5 6).trans q5))
   have q16 := (k10 7 rfl).trans ((k6 7).trans ((k5 7).trans q1))
   refine hK9 _ _ <| sr fun K14 hK14 => p_mv (v := v1) q15 <| p_mv (v := v0_) q12 <| p_mv q16 <| bn hF3 fun y5 e5 hF3 => ?_
   obtain ⟨b3, o6, N1, c3, cs7, hv3, hi1, hc3, hr2⟩ := h0_.get (zaD e5).2
   refine zaA (zaU (i := (s1.1 : Int).toNat) u63 zbG rfl hv3 rfl (zaD e5).1 hi1) ?_
   obtain rfl := zeG hr2
   refine zaA (zbM (p := (o6 + (s1.1 : Int).toNat * 1)) (o := 0) (v := .int .u32 (((y5).toNat : Int))) zcW H.sub rfl hc3 rfl) <| bn hF3 fun y6 e6 hF3 => ?_
   obtain ⟨b4, c4, hv4⟩ := H.ownAt (k := 0) rfl (zbA e6)
   refine zaA (zaU (i := (0 : Int).toNat) u63 zbG rfl hv4 rfl (zaD e6).1 (zbA e6)) ?_
   subst hv4
   refine bn hF3 fun y7 e7 hF3 => p_oft (zfE (k := 0) (l := [Value.int .u32 (((y5).toNat : Int))]) zbG rfl H rfl g5 rfl rfl (cells_one rfl) zkO e7) fun w6 cs8 H g6 => xk hK14 <| wp_block <| zaY fun m9 k11 => bn hF3 fun out3 hL3 hE6 => ?_
   refine zdL (9 :: 10 :: 11 :: 12 :: 13 :: rg 45 55 []) (fun (s3 : (List UInt32)) (m10 : FM) (w7 : World) => ∃ (cs9 rs5 : List Value), HS ⟨S, [], w⟩ S w7 [.osl (sl b4 0 (t3).length c4) (s3).length 1 cs9 rs5 107] ∧ RL S cs9 s3) hL3 ⟨_, _, H, g6⟩ ?_
   clear H; intro k13 s3 m10 w7 k12 hI3 o7 hb3 hh3; obtain ⟨cs9, rs5, H, g7⟩ := hI3
   have q17 := (k12 0 rfl).trans ((k11 0).trans q12)
   have q18 := (k12 1 rfl).trans ((k11 1).trans q13)
   have q19 := (k12 5 rfl).trans ((k11 5).trans q14)
   have q20 := (k12 6 rfl).trans ((k11 6).trans q15)
   have q21 := (k12 7 rfl).trans ((k11 7).trans q16)
   refine wp_seq_k fun K15 hK15 => sr fun K16 hK16 => p_mv (v := sl b4 0 (t3).length c4) q20 <| p_mv q19 <| bn hb3 fun y8 e8 hb3 => zaA (zaU (i := (((x1).length : Int) : Int).toNat) u63 zbG rfl (HS.ownV H (k := 0) rfl) rfl (zaD e8).1 (zbA e8)) ?_
   have hr3 := RL.get g7 (zaD e8).2; generalize hghr3 : piece cs9 _ _ = cs10 at hr3
   obtain rfl := zeG hr3
   refine zaA (zeJ (v := .int .u32 (((y8).toNat : Int))) zcW H (k := 0) rfl rfl (zbA e8) hghr3) <| zaA (r_gtrI rfl rfl) <| mvB rfl <| zkU fun m11 k14 => zkX 7 fun K17 hK17 R2 hR2 => bn hb3 fun t4 hE7 hF4 => ?_
   have J3 : ∀ (m12 : FM) (w9 : World), Kp (rg 51 7 []) m12 m11 → look m12 57 = .bool (t4) → HS ⟨S, [], w⟩ S w9 [.osl (sl b4 0 (t3).length c4) (s3).length 1 cs9 rs5 107] → K17 m12 w9 := by
    clear H; intro m12 w9 k15 q22 H
    have q23 := (k15 0 rfl).trans ((k14 0).trans q17)
    have q24 := (k15 1 rfl).trans ((k14 1).trans q18)
    have q25 := (k15 5 rfl).trans ((k14 5).trans q19)
    have q26 := (k15 6 rfl).trans ((k14 6).trans q20)
    have q27 := (k15 7 rfl).trans ((k14 7).trans q21)
    refine hK17 _ _ <| xk hK16 ?_
    refine zcG q22 (fun hc4 => ?_) (fun hc4 => ?_)
    ·replace hF4 := zfK hF4 hc4
     refine wp_skip <| xn hK15 <| wp_block <| sr fun K18 hK18 => p_mv (v := sl b4 0 (t3).length c4) q26 <| p_mv q25 <| bn hF4 fun y11 e11 hF4 => zaA (zaU (i := (((x1).length : Int) : Int).toNat) u63 zbG rfl (HS.ownV H (k := 0) rfl) rfl (zaD e11).1 (zbA e11)) ?_
     have hr4 := RL.get g7 (zaD e11).2; generalize hghr4 : piece cs9 _ _ = cs11 at hr4
     obtain rfl := zeG hr4
     refine zaA (zeJ (v := .int .u32 (((y11).toNat : Int))) zcW H (k := 0) rfl rfl (zbA e11) hghr4) <| asI rfl <| xk hK18 <| wp_seq_k fun K19 hK19 => zaY fun m13 k16 => bn hF4 fun t5 hE8 hF5 => ?_
     have J2 : ∀ (m14 : FM) (w10 : World), Kp [9, 62, 63] m14 m13 → look m14 9 = .int .u32 (((t5).toNat : Int)) → HS ⟨S, [], w⟩ S w10 [.osl (sl b4 0 (t3).length c4) (s3).length 1 cs9 rs5 107] → K19 (fr 102 m14) w10 := by
      clear H; intro m14 w10 k17 q28 H
      have q29 := (k17 0 rfl).trans ((k16 0).trans q23)
      have q30 := (k17 1 rfl).trans ((k16 1).trans q24)
      have q31 := (k17 5 rfl).trans ((k16 5).trans q25)
      have q32 := (k17 6 rfl).trans ((k16 6).trans q26)
      have q33 := (k17 7 rfl).trans ((k16 7).trans q27)
      refine hK19 _ _ <| sr fun K21 hK21 => asI rfl <| xk hK21 <| sr fun K22 hK22 => asI rfl <| xk hK22 <| wp_block <| zaY fun m15 k18 => ?_
      refine bn hF5 fun out4 hL4 hE9 => zdL (10 :: 11 :: 12 :: 13 :: rg 64 36 []) (fun (s4 : UInt64 × Int × (List UInt32)) (m16 : FM) (w11 : World) => ∃ (cs12 rs6 : List Value), look m16 10 = .int .u64 (((s4.1).toNat : Int)) ∧ look m16 11 = .int .i64 (s4.2.1) ∧ HS ⟨S, [], w⟩ S w11 [.osl (sl b4 0 (t3).length c4) (s4.2.2).length 1 cs12 rs6 107] ∧ RL S cs12 s4.2.2) hL4 ⟨_, _, (k18 10), (k18 11), H, g7⟩ ?_
      clear H; intro k20 s4 m16 w11 k19 hI4 o10 hb5 hh4; obtain ⟨cs12, rs6, q34, q35, H, g9⟩ := hI4
      have q36 := (k19 0 rfl).trans ((k18 0).trans q29)
      have q37 := (k19 1 rfl).trans ((k18 1).trans q30)
      have q38 := (k19 5 rfl).trans ((k18 5).trans q31)
      have q39 := (k19 6 rfl).trans ((k18 6).trans q32)
      have q40 := (k19 7 rfl).trans ((k18 7).trans q33)
      have q41 := (k19 9 rfl).trans ((k18 9).trans q28)
      refine wp_seq_k fun K23 hK23 => sr fun K24 hK24 => p_mv q35 <| p_mv q38 <| zaA (r_leqI rfl rfl) <| xk hK24 ?_
      refine zbR hb5 rfl (fun hb5 hc6 => ?_) fun hb5 hc6 => ?_
      ·refine wp_skip ?_
       refine xn hK23 <| wp_seq_k fun K25 hK25 => wp_block <| sr fun K26 hK26 => p_mv q34 <| asI rfl <| xk hK26 <| wp_seq_k fun K27 hK27 => zaY fun m17 k21 => ?_
       refine bn hb5 fun t6 hE10 hF6 => ?_
       have J1 : ∀ (m18 : FM) (w12 : World), Kp (12 :: rg 70 13 []) m18 m17 → look m18 12 = .int .u64 (((t6).toNat : Int)) → HS ⟨S, [], w⟩ S w12 [.osl (sl b4 0 (t3).length c4) (s4.2.2).length 1 cs12 rs6 107] → K27 (fr 102 m18) w12 := by
        clear H; intro m18 w12 k22 q42 H
        have q43 := (k22 0 rfl).trans ((k21 0).trans q36)
        have q44 := (k22 1 rfl).trans ((k21 1).trans q37)
        have q45 := (k22 5 rfl).trans ((k21 5).trans q38)
        have q46 := (k22 6 rfl).trans ((k21 6).trans q39)
        have q47 := (k22 7 rfl).trans ((k21 7).trans q40)
        have q48 := (k22 9 rfl).trans ((k21 9).trans q41)
        have q49 := (k22 11 rfl).trans ((k21 11).trans q35)
        refine hK27 _ _ <| sr fun K29 hK29 => p_mv (v := sl b4 0 (t3).length c4) q46 <| p_mv q49 <| bn hF6 fun y13 e13 hF6 => zaA (zaU (i := (s4.2.1 : Int).toNat) u63 zbG rfl (HS.ownV H (k := 0) rfl) rfl (zaD e13).1 (zbA e13)) ?_
        have hr6 := RL.get g9 (zaD e13).2; generalize hghr6 : piece cs12 _ _ = cs14 at hr6
        obtain rfl := zeG hr6
        refine zaA (zeJ (v := .int .u32 (((y13).toNat : Int))) zcW H (k := 0) rfl rfl (zbA e13) hghr6) <| zaA (zcE u107 u22 rfl (zbT _)) <| zaA (zcM rfl rfl (zbT _)) <| p_mv q42 <| zaA (zgE rfl rfl (zbT _)) <| asI rfl <| xk hK29 <| sr fun K30 hK30 => p_mv (v := sl b4 0 (t3).length c4) q46 ?_
        refine p_mv q49 <| mvI rfl <| zaA (zbJ (bo := .and) (by simp) rfl rfl (zjO _ (65535 : UInt64))) <| zaA (zcE u22 u107 rfl (zbN _)) <| bn hF6 fun y14 e14 hF6 => zaA (zaU (i := (s4.2.1 : Int).toNat) u63 zbG rfl (HS.ownV H (k := 0) rfl) rfl (zaD e14).1 (zbA e14)) <| bn hF6 fun y15 e15 hF6 => ?_
        refine p_oft (zfE (k := 0) (l := [Value.int .u32 ((((i32 ((((i64 ((((i64 ((((i64 ((y13).toNat : Int))).toNat : Int) + 1099511627776))).toNat : Int) - ((t6).toNat : Int))) &&& (65535 : UInt64))).toNat : Int))).toNat : Int))]) zbG rfl H rfl g9 rfl rfl (cells_one rfl) zkO e15) fun w13 cs15 H g10 => xk hK30 <| wp_region_lit <| mvI rfl <| zaA (zeM rfl rfl (by decide) (zjC _ _)) ?_
        refine zaA (zgE rfl rfl (zbT _)) <| asI rfl <| wpList_nil <| zaS <| xn hK25 <| wp_region_lit <| p_mv q49 <| zaA (zcH rfl rfl) <| asI rfl ?_
        refine wpList_nil <| zaG ?_
        obtain rfl := osi hF6
        exact ⟨((i64 ((16777216 : Int) - (((i64 (shrI .u64 (((i64 ((((i64 ((((i64 ((y13).toNat : Int))).toNat : Int) + 1099511627776))).toNat : Int) - ((t6).toNat : Int)))).toNat : Int) 16))).toNat : Int))), (w64 (s4.2.1 + 1)), y15), _, rfl, (kS k22 rfl (kN k21 (kS k19 rfl kcx))), ⟨_, _, rfl, rfl, H, g10⟩, hh4⟩
       refine sr fun K28 hK28 => p_mv ((k21 11).trans q35) <| p_mv ((k21 5).trans q38) <| zaA (zcR rfl rfl) <| xk hK28 ?_
       refine zbR hE10 rfl (fun hE10 hc7 => ?_) fun hE10 hc7 => ?_
       ·refine wp_region_lit ?_
        refine p_mv (k21 12) <| p_mv ((k21 9).trans q41) <| zaA (zcE u107 u22 rfl (zbT _)) <| p_mv (v := v1_) ((k21 1).trans q37) <| p_mv ((k21 11).trans q35) <| bn hE10 fun y12 e12 hE10 => ?_
        obtain ⟨b7, o12, N2, c7, cs13, hv7, hi2, hc8, hr5⟩ := h1_.get (zaD e12).2
        refine zaA (zaU (i := (s4.2.1 : Int).toNat) u63 zbG rfl hv7 rfl (zaD e12).1 hi2) ?_
        obtain rfl := zeG hr5
        refine zaA (zbM (p := (o12 + (s4.2.1 : Int).toNat * 1)) (o := 0) (v := .int .u32 (((y12).toNat : Int))) zcW H.sub rfl hc8 rfl) <| zaA (zcE u107 u22 rfl (zbT _)) <| zaA (zgW rfl rfl (zbT _)) <| zaA (zcM rfl rfl (zbT _)) <| asI rfl <| wpList_nil <| zaG ?_
        obtain rfl := osi hE10
        exact J1 _ _ kcx rfl H
       ·refine wp_skip ?_
        refine zaG ?_
        obtain rfl := osi hE10
        exact J1 _ _ kcx (k21 12) H
      ·refine wp_exit ?_
       refine zaN <| zaN <| zcK <| zaS <| zaG ?_
       obtain rfl := osi hb5
       obtain rfl := osi hh4
       obtain rfl := osi hE9
       exact ⟨s4.2.2, _, rfl, (kS k19 rfl (kN k18 (kS k17 rfl (kN k16 (kS k15 rfl (kN k14 (kS k12 rfl kcx))))))), ⟨_, _, H, g9⟩, hh3⟩
     refine sr fun K20 hK20 => p_mv (k16 9) <| zaA (zdS rfl rfl) <| xk hK20 ?_
     refine zbR hE8 rfl (fun hE8 hc5 => ?_) fun hE8 hc5 => ?_
     ·refine wp_region_lit ?_
      refine asI rfl <| wpList_nil <| zaG ?_
      obtain rfl := osi hE8
      exact J2 _ _ kcx rfl H
     ·refine wp_skip ?_
      refine zaG ?_
      obtain rfl := osi hE8
      exact J2 _ _ kcx (k16 9) H
    ·replace hF4 := zfR hF4 hc4
     refine wp_exit <| zaN <| zaN <| zcK <| zaS <| zaG ?_
     obtain rfl := osi hF4
     obtain rfl := osi hh3
     obtain rfl := osi hE6
     exact J5 _ _ _ _ (kS k15 rfl (kN k14 (kS k12 rfl (kN k11 (kS k10 rfl (kN k6 kcx)))))) H g7
   refine p_gs (j := 5) (zaI rfl rfl (k14 50)) (fun hb4 => ?_) (fun hb4 => ?_)
   ·replace hE7 := zfK hE7 hb4
    refine zaW (zaI rfl rfl (k14 50)) hb4 ?_
    rw [zaH]
    refine zaW (zaI rfl rfl (k14 50)) hb4 ?_
    rw [zaH]
    refine zaW (zaI rfl rfl (k14 50)) hb4 ?_
    rw [zaH]
    refine zaW (zaI rfl rfl (k14 50)) hb4 ?_
    rw [zaH]
    refine zaW (zaI rfl rfl (k14 50)) hb4 ?_
    rw [zaH]
    refine zaW (zaI rfl rfl (k14 50)) hb4 ?_
    rw [zaH]
    refine zaA (zbQ (v := .bool (true)) (k14 50) hb4 rfl) <| hR2 _ _ ?_
    obtain rfl := osi hE7
    exact J3 _ _ kcx rfl H
   ·replace hE7 := zfR hE7 hb4
    refine zaT (zaI rfl rfl (k14 50)) hb4 <| p_mv (v := sl b4 0 (t3).length c4) ((k14 6).trans q20) <| zaT (zaI rfl rfl (k14 50)) hb4 <| p_mv ((k14 5).trans q19) <| zaT (zaI rfl rfl (k14 50)) hb4 <| bn hE7 fun y9 e9 hE7 => zaA (r_subH (h := (((x1).length : Int) : Int).toNat) u63 zbG rfl rfl (zeI e9).1 (RdS.ofOwn H (k := 0) rfl g7) (zeI e9).2.1) ?_
    refine zaT (zaI rfl rfl (k14 50)) hb4 <| p_mv (v := v1_) ((k14 1).trans q18) <| zaT (zaI rfl rfl (k14 50)) hb4 <| bn hE7 fun y10 e10 hE7 => zaF is69 rfl <| (zjV (subMem w7) (RdS.subH (RdS.ofOwn H (k := 0) rfl g7) e9) (h1_.mono H.sub) e10).mono <| H.xe fun w8 H => zaT (zaI rfl rfl (k14 50)) hb4 <| zaA (r_geqI rfl rfl) ?_
    refine zaA (zaX (v := .bool (decide ((0 : Int) ≤ y10))) (k14 50) hb4 rfl) <| hR2 _ _ ?_
    obtain rfl := osi hE7
    exact J3 _ _ kcx rfl H
  refine sr fun K10 hK10 => p_mv ((k6 5).trans ((k5 5).trans q4)) <| asI rfl <| xk hK10 <| wp_block <| zaY fun m6 k7 => bn hE4 fun out2 hL2 hE5 => zdL (8 :: rg 27 12 []) (fun (s2 : Int × (List UInt32)) (m7 : FM) (w3 : World) => ∃ (cs3 rs3 : List Value), look m7 8 = .int .i64 (s2.1) ∧ HS ⟨S, [], w⟩ S w3 [.osl (v1) (s2.2).length 1 cs3 rs3 107] ∧ RL S cs3 s2.2) hL2 ⟨_, _, (k7 8), H, g2⟩ ?_
  clear H; intro k9 s2 m7 w3 k8 hI2 o5 hb2 hh2; obtain ⟨cs3, rs3, q6, H, g3⟩ := hI2
  have q7 := (k8 0 rfl).trans ((k7 0).trans ((k6 0).trans ((k5 0).trans q2)))
  have q8 := (k8 1 rfl).trans ((k7 1).trans ((k6 1).trans ((k5 1).trans q3)))
  have q9 := (k8 5 rfl).trans ((k7 5).trans ((k6 5).trans ((k5 5).trans q4)))
  have q10 := (k8 6 rfl).trans ((k7 6).trans ((k6 6).trans ((k5 6).trans q5)))
  have q11 := (k8 7 rfl).trans ((k7 7).trans ((k6 7).trans ((k5 7).trans q1)))
  refine wp_seq_k fun K11 hK11 => sr fun K12 hK12 => p_mv q6 <| zaA (r_gtrI rfl rfl) <| xk hK12 ?_
  refine zbR hb2 rfl (fun hb2 hc2 => ?_) fun hb2 hc2 => ?_
  ·refine wp_skip ?_
   refine xn hK11 <| wp_seq_k fun K13 hK13 => wp_block <| wp_region_lit <| p_mv (v := v1) q10 <| p_mv q6 <| p_mv (v := v1) q10 <| p_mv q6 <| zaA (zdQ rfl rfl) ?_
   refine bn hb2 fun y2 e2 hb2 => ?_
   obtain ⟨b1, c1, hv1⟩ := H.ownAt (k := 0) rfl (zbA e2)
   refine zaA (zaU (i := ((w64 (s2.1 - 1)) : Int).toNat) u63 zbG rfl hv1 rfl (zaD e2).1 (zbA e2)) ?_
   subst hv1
   have hr1 := RL.get g3 (zaD e2).2; generalize hghr1 : piece cs3 _ _ = cs4 at hr1
   obtain rfl := zeG hr1
   refine zaA (zeJ (v := .int .u32 (((y2).toNat : Int))) zcW H (k := 0) rfl rfl (zbA e2) hghr1) <| bn hb2 fun y3 e3 hb2 => zaA (zaU (i := (s2.1 : Int).toNat) u63 zbG rfl (HS.ownV H (k := 0) rfl) rfl (zaD e3).1 (zbA e3)) <| bn hb2 fun y4 e4 hb2 => ?_
   refine p_oft (zfE (k := 0) (l := [Value.int .u32 (((y2).toNat : Int))]) zbG rfl H rfl g3 rfl rfl (cells_one rfl) zkO e4) fun w4 cs5 H g4 => wpList_nil <| zaS <| xn hK13 <| wp_region_lit <| p_mv q6 <| zaA (zdQ rfl rfl) <| asI rfl <| wpList_nil ?_
   refine zaG ?_
   obtain rfl := osi hb2
   exact ⟨((w64 (s2.1 - 1)), y4), _, rfl, (kS k8 rfl kcx), ⟨_, _, rfl, H, g4⟩, hh2⟩
  ·refine wp_exit ?_
   refine zaN <| zaN <| zcK <| zaG ?_
   obtain rfl := osi hb2
   obtain rfl := osi hh2
   obtain rfl := osi hE5
   exact J4 _ _ _ _ (kS k8 rfl (kN k7 kcx)) H g3
 ·refine wp_exit ?_
  refine zaN <| zaN <| zcK <| zaG ?_
  obtain rfl := osi hb1
  obtain rfl := osi hh1
  obtain rfl := osi hE2
  exact J6 _ _ _ _ (kS k3 rfl (kN k2 kcx)) H g2
def zdN (x0 : Int) : Option ((List UInt32)) :=
  bif (x0 == 0) then (some (([65535, 65535, 65535, 65535, 65535, 65535, 0, 0, 0, 0, 0, 0, 1, 0, 65535, 65535] : List UInt32))) else (some (([9553, 64611, 51906, 62393, 40580, 42775, 64173, 48358, 65535, 65535, 65535, 65535, 0, 0, 65535, 65535] : List UInt32)))
theorem zeV (hS : Sub S w) {x0 : Int} {r : (List UInt32)} (hF : zdN x0 = some r) :
    Calls Tryz.prog 71 #[.int .i64 (x0)] w fun e w' => Ext w w' ∧ ∃ (v0' : Value), e = .returned (v0') ∧ RdS (gr S w w') v0' r := by
 refine enter (n := 7) Tryz.func71 rfl rfl rfl ?_
 have H := HS.start hS
 refine sr fun K1 hK1 => asN rfl <| xk hK1 <| wp_seq_k fun K2 hK2 => sr fun K3 hK3 => mvI rfl <| zaA (zdS rfl rfl) <| xk hK3 ?_
 refine zbR hF rfl (fun hF hc1 => ?_) fun hF hc1 => ?_
 ·refine sr fun K4 hK4 => ?_
  refine zhD (zbO (N := 16) (xs := [65535, 65535, 65535, 65535, 65535, 65535, 0, 0, 0, 0, 0, 0, 1, 0, 65535, 65535]) (RL.u32s _) tn63 H rfl (by kernel_rfl) rfl) fun w1 v1 cs1 H g1 => p_as (v := v1) rfl <| xk hK4 <| wp_ret <| zdC ?_
  obtain ⟨S1, hle1, g3, H1⟩ := H.fixX (k := 0) rfl g1; clear H; have H := H1; clear H1
  replace H := hsn H
  obtain rfl := osi hF
  refine e_1 rfl (zbD rfl) ?_
  exact ⟨H.toExt, _, rfl, RdS.mono g3 H.gr⟩
 ·refine wp_skip ?_
  refine xn hK2 <| sr fun K5 hK5 => zhD (zbO (N := 16) (xs := [9553, 64611, 51906, 62393, 40580, 42775, 64173, 48358, 65535, 65535, 65535, 65535, 0, 0, 65535, 65535]) (RL.u32s _) tn63 H rfl (by kernel_rfl) rfl) fun w2 v2 cs2 H g2 => p_as (v := v2) rfl <| xk hK5 <| wp_ret ?_
  obtain ⟨S2, hle2, g4, H1⟩ := H.fixX (k := 0) rfl g2; clear H; have H := H1; clear H1
  replace H := hsn H
  obtain rfl := osi hF
  refine e_1 rfl (zbD rfl) ?_
  exact ⟨H.toExt, _, rfl, RdS.mono g4 H.gr⟩
def r6_Sum_p (x0 : Int) (x1 : List UInt32) (x2 : List UInt32) : Option ((List UInt32)) :=
  Option.bind (r6_Add_p x1 x2) fun y1 => Option.bind (zdN x0) fun y2 => Option.bind (zhV y1 y2) fun y3 => some (y3)
theorem r6_Sum_c (hS : Sub S w) {x0 : Int} {v1_ : Value} {x1 : List UInt32} (h1_ : RdS S v1_ x1) {v2_ : Value} {x2 : List UInt32} (h2_ : RdS S v2_ x2) {r : (List UInt32)} (hF : r6_Sum_p x0 x1 x2 = some r) :
    Calls Tryz.prog 106 #[.int .i64 (x0), v1_, v2_] w fun e w' => Ext w w' ∧ ∃ (v0' : Value), e = .returned (v0') ∧ RdS (gr S w w') v0' r := by
 refine enter (n := 13) Tryz.func106 rfl rfl rfl ?_
 have H := HS.start hS
 refine sr fun K1 hK1 => asN rfl <| xk hK1 <| sr fun K2 hK2 => p_mv (v := v1_) rfl <| p_mv (v := v2_) rfl <| bn hF fun y1 e1 hF => zaF is150 rfl <| (r6_Add_c H.sub h1_ h2_ e1).mono <| H.ye fun w1 v1 S1 hle1 H g1 => ?_
 replace h1_ := h1_.mono hle1
 replace h2_ := h2_.mono hle1
 refine mvI rfl <| bn hF fun y2 e2 hF => zaF is71 rfl <| (zeV H.sub e2).mono <| H.ye fun w2 v2 S2 hle2 H g2 => ?_
 replace g1 := g1.mono hle2
 refine bn hF fun y3 e3 hF => zaF is70 rfl <| (r6_Left_c H.sub g1 g2 e3).mono <| H.ye fun w3 v3 S3 hle3 H g3 => ?_
 replace g1 := g1.mono hle3
 replace g2 := g2.mono hle3
 refine p_as (v := v3) rfl <| xk hK2 <| wp_ret ?_
 obtain rfl := osi hF
 refine e_1 rfl (zbD rfl) ?_
 exact ⟨H.toExt, _, rfl, RdS.mono g3 H.gr⟩
def ziI (x0 : Int) (x1 : List UInt32) (x2 : List UInt32) : Option ((List UInt32)) :=
  Option.bind (r6_Mul_p x1 x2) fun y1 => Option.bind (zdN x0) fun y2 => Option.bind (zhV y1 y2) fun y3 => some (y3)
theorem r6_Product_c (hS : Sub S w) {x0 : Int} {v1_ : Value} {x1 : List UInt32} (h1_ : RdS S v1_ x1) {v2_ : Value} {x2 : List UInt32} (h2_ : RdS S v2_ x2) {r : (List UInt32)} (hF : ziI x0 x1 x2 = some r) :
    Calls Tryz.prog 65 #[.int .i64 (x0), v1_, v2_] w fun e w' => Ext w w' ∧ ∃ (v0' : Value), e = .returned (v0') ∧ RdS (gr S w w') v0' r := by
 refine enter (n := 13) Tryz.func65 rfl rfl rfl ?_
 have H := HS.start hS
 refine sr fun K1 hK1 => asN rfl <| xk hK1 <| sr fun K2 hK2 => p_mv (v := v1_) rfl <| p_mv (v := v2_) rfl <| bn hF fun y1 e1 hF => zaF is123 rfl <| (r6_Mul_c H.sub h1_ h2_ e1).mono <| H.ye fun w1 v1 S1 hle1 H g1 => ?_
 replace h1_ := h1_.mono hle1
 replace h2_ := h2_.mono hle1
 refine mvI rfl <| bn hF fun y2 e2 hF => zaF is71 rfl <| (zeV H.sub e2).mono <| H.ye fun w2 v2 S2 hle2 H g2 => ?_
 replace g1 := g1.mono hle2
 refine bn hF fun y3 e3 hF => zaF is70 rfl <| (r6_Left_c H.sub g1 g2 e3).mono <| H.ye fun w3 v3 S3 hle3 H g3 => ?_
 replace g1 := g1.mono hle3
 replace g2 := g2.mono hle3
 refine p_as (v := v3) rfl <| xk hK2 <| wp_ret ?_
 obtain rfl := osi hF
 refine e_1 rfl (zbD rfl) ?_
 exact ⟨H.toExt, _, rfl, RdS.mono g3 H.gr⟩
def zgF (x0 : Int) (x1 : List UInt32) : Option ((List UInt32)) :=
  Option.bind (zdN x0) fun y1 => Option.bind (zdN x0) fun y2 => Option.bind (zhV x1 y2) fun y3 => Option.bind (r6_Sub_p y1 y3) fun y4 => Option.bind (zdN x0) fun y5 => Option.bind (zhV y4 y5) fun y6 => some (y6)
theorem r6_Opposite_c (hS : Sub S w) {x0 : Int} {v1_ : Value} {x1 : List UInt32} (h1_ : RdS S v1_ x1) {r : (List UInt32)} (hF : zgF x0 x1 = some r) :
    Calls Tryz.prog 152 #[.int .i64 (x0), v1_] w fun e w' => Ext w w' ∧ ∃ (v0' : Value), e = .returned (v0') ∧ RdS (gr S w w') v0' r := by
 refine enter (n := 15) Tryz.func152 rfl rfl rfl ?_
 have H := HS.start hS
 refine sr fun K1 hK1 => asN rfl <| xk hK1 <| sr fun K2 hK2 => mvI rfl <| bn hF fun y1 e1 hF => zaF is71 rfl <| (zeV H.sub e1).mono <| H.ye fun w1 v1 S1 hle1 H g1 => ?_
 replace h1_ := h1_.mono hle1
 refine p_mv (v := v1_) rfl <| mvI rfl <| bn hF fun y2 e2 hF => zaF is71 rfl <| (zeV H.sub e2).mono <| H.ye fun w2 v2 S2 hle2 H g2 => ?_
 replace h1_ := h1_.mono hle2
 replace g1 := g1.mono hle2
 refine bn hF fun y3 e3 hF => zaF is70 rfl <| (r6_Left_c H.sub h1_ g2 e3).mono <| H.ye fun w3 v3 S3 hle3 H g3 => ?_
 replace h1_ := h1_.mono hle3
 replace g1 := g1.mono hle3
 replace g2 := g2.mono hle3
 refine bn hF fun y4 e4 hF => zaF is121 rfl <| (r6_Sub_c H.sub g1 g3 e4).mono <| H.ye fun w4 v4 S4 hle4 H g4 => ?_
 replace g1 := g1.mono hle4
 replace g3 := g3.mono hle4
 refine mvI rfl <| bn hF fun y5 e5 hF => zaF is71 rfl <| (zeV H.sub e5).mono <| H.ye fun w5 v5 S5 hle5 H g5 => ?_
 replace g4 := g4.mono hle5
 refine bn hF fun y6 e6 hF => zaF is70 rfl <| (r6_Left_c H.sub g4 g5 e6).mono <| H.ye fun w6 v6 S6 hle6 H g6 => ?_
 replace g4 := g4.mono hle6
 replace g5 := g5.mono hle6
 refine p_as (v := v6) rfl <| xk hK2 <| wp_ret ?_
 obtain rfl := osi hF
 refine e_1 rfl (zbD rfl) ?_
 exact ⟨H.toExt, _, rfl, RdS.mono g6 H.gr⟩
theorem is118 : IsFn Tryz.prog 118 := isFn Tryz.func118
theorem is119 : IsFn Tryz.prog 119 := isFn Tryz.func119
theorem is120 : IsFn Tryz.prog 120 := isFn Tryz.func120
theorem is122 : IsFn Tryz.prog 122 := isFn Tryz.func122
def r6_half_b0 (x0 : List UInt32) (s1 : UInt32 × Int × (List UInt32)) : Option ((UInt32 × Int × (List UInt32)) ⊕ ((List UInt32))) :=
  bif decide ((0 : Int) ≤ s1.2.1) then (Option.bind (idx x0 s1.2.1) fun y2 => Option.bind (idx s1.2.2 s1.2.1) fun y3 => Option.bind (setL s1.2.2 (s1.2.1 : Int) (i32 (shrI .u32 ((((i32 (shlI .u32 ((s1.1).toNat : Int) 16)) ||| y2)).toNat : Int) 1))) fun y4 => some (.inl (((((i32 (shlI .u32 ((s1.1).toNat : Int) 16)) ||| y2) &&& (1 : UInt32)), (w64 (s1.2.1 - 1)), y4)))) else (some (.inr (s1.2.2)))
def zjB (x0 : List UInt32) : Option ((List UInt32)) :=
  Option.bind (mkL ((x0).length : Int) (0 : UInt32)) fun y1 => Option.bind (Option.bind (iter (r6_half_b0 x0) (((0 : UInt32), (w64 (((x0).length : Int) - 1)), y1))) (fun e => some (e))) (fun t1 => Option.bind (zfS t1) fun y5 => some (y5))
theorem r6_half_c (hS : Sub S w) {v0_ : Value} {x0 : List UInt32} (h0_ : RdS S v0_ x0) {r : (List UInt32)} (hF : zjB x0 = some r) :
    Calls Tryz.prog 119 #[v0_] w fun e w' => Ext w w' ∧ ∃ (v0' : Value), e = .returned (v0') ∧ RdS (gr S w w') v0' r := by
 refine enter (n := 33) Tryz.func119 rfl rfl rfl ?_
 have H := HS.start hS
 refine sr fun K1 hK1 => asN rfl <| xk hK1 <| sr fun K2 hK2 => p_mv (v := v0_) rfl <| zaA (r_lenR' u63 rfl h0_ H.sub) <| bn hF fun y1 e1 hF => zjF (a_makeX (zx := (0 : UInt32)) tn63 rfl H rfl rfl (zkE (x := (0 : UInt32)) rfl) e1 (Int.le_refl _) (mkL_some e1).2.1) fun w1 v1 cs1 rs1 H g1 => p_as (v := v1) rfl ?_
 refine xk hK2 <| sr fun K3 hK3 => asI rfl <| xk hK3 <| wp_seq_k fun K4 hK4 => zaY fun m1 k1 => bn hF fun t1 hE1 hF1 => ?_
 have J1 : ∀ (cs5 rs3 : List Value) (m4 : FM) (w4 : World), Kp (4 :: 5 :: 6 :: rg 10 21 []) m4 m1 → HS ⟨S, [], w⟩ S w4 [.osl (v1) (t1).length 1 cs5 rs3 107] → RL S cs5 t1 → K4 (fr 33 m4) w4 := by
  clear H; intro cs5 rs3 m4 w4 k5 H g4
  have q5 : look m4 3 = v1 := (k5 3 rfl).trans (k1 3)
  refine hK4 _ _ <| sr fun K11 hK11 => p_mv (v := v1) q5 ?_
  obtain ⟨S1, hle1, g5, H1⟩ := H.fixX (k := 0) rfl g4; clear H; have H := H1; clear H1
  replace H := hsn H
  refine bn hF1 fun y5 e5 hF1 => zaF is84 rfl <| (ziT H.sub g5 e5).mono <| H.ye fun w5 v4 S2 hle2 H g6 => ?_
  replace g5 := g5.mono hle2
  refine p_as (v := v4) rfl <| xk hK11 <| wp_ret ?_
  obtain rfl := osi hF1
  refine e_1 rfl (zbD rfl) ?_
  exact ⟨H.toExt, _, rfl, RdS.mono g6 H.gr⟩
 refine sr fun K5 hK5 => p_mv (v := v0_) (k1 0) <| zaA (r_lenR' u63 rfl h0_ H.sub) <| zaA (zdQ rfl rfl) <| asI rfl <| xk hK5 <| wp_block <| zaY fun m2 k2 => bn hE1 fun out1 hL1 hE2 => ?_
 refine zdL (4 :: 5 :: 6 :: rg 13 18 []) (fun (s1 : UInt32 × Int × (List UInt32)) (m3 : FM) (w2 : World) => ∃ (cs2 rs2 : List Value), look m3 4 = .int .u32 (((s1.1).toNat : Int)) ∧ look m3 5 = .int .i64 (s1.2.1) ∧ HS ⟨S, [], w⟩ S w2 [.osl (v1) (s1.2.2).length 1 cs2 rs2 107] ∧ RL S cs2 s1.2.2) hL1 ⟨_, _, ((k2 4).trans (k1 4)), (k2 5), H, g1⟩ ?_
 clear H; intro k4 s1 m3 w2 k3 hI1 o2 hb1 hh1; obtain ⟨cs2, rs2, q1, q2, H, g2⟩ := hI1
 have q3 : look m3 0 = v0_ := (k3 0 rfl).trans ((k2 0).trans (k1 0))
 have q4 : look m3 3 = v1 := (k3 3 rfl).trans ((k2 3).trans (k1 3))
 refine wp_seq_k fun K6 hK6 => sr fun K7 hK7 => p_mv q2 <| zaA (r_geqI rfl rfl) <| xk hK7 ?_
 refine zbR hb1 rfl (fun hb1 hc1 => ?_) fun hb1 hc1 => ?_
 ·refine wp_skip ?_
  refine xn hK6 <| wp_seq_k fun K8 hK8 => wp_block <| sr fun K9 hK9 => p_mv q1 <| zaA (r_shl rfl rfl (by decide) (i32_shl _ _)) <| p_mv (v := v0_) q3 <| p_mv q2 <| bn hb1 fun y2 e2 hb1 => ?_
  obtain ⟨b1, o3, N1, c1, cs3, hv1, hi1, hc2, hr1⟩ := h0_.get (zaD e2).2
  refine zaA (zaU (i := (s1.2.1 : Int).toNat) u63 zbG rfl hv1 rfl (zaD e2).1 hi1) ?_
  obtain rfl := zeG hr1
  refine zaA (zbM (p := (o3 + (s1.2.1 : Int).toNat * 1)) (o := 0) (v := .int .u32 (((y2).toNat : Int))) zcW H.sub rfl hc2 rfl) <| zaA (zbJ (bo := .or) (by simp) rfl rfl (i32_or _ _)) <| asI rfl <| xk hK9 <| sr fun K10 hK10 => p_mv (v := v1) q4 <| p_mv q2 <| mvI rfl <| zaA (zeM rfl rfl (by decide) (zjJ _ _)) ?_
  refine bn hb1 fun y3 e3 hb1 => ?_
  obtain ⟨b2, c2, hv2⟩ := H.ownAt (k := 0) rfl (zbA e3)
  refine zaA (zaU (i := (s1.2.1 : Int).toNat) u63 zbG rfl hv2 rfl (zaD e3).1 (zbA e3)) ?_
  subst hv2
  refine bn hb1 fun y4 e4 hb1 => p_oft (zfE (k := 0) (l := [Value.int .u32 ((((i32 (shrI .u32 ((((i32 (shlI .u32 ((s1.1).toNat : Int) 16)) ||| y2)).toNat : Int) 1))).toNat : Int))]) zbG rfl H rfl g2 rfl rfl (cells_one rfl) zkO e4) fun w3 cs4 H g3 => xk hK10 <| wp_region_lit <| mvI rfl <| zaA (zbJ (bo := .and) (by simp) rfl rfl (ziY _ (1 : UInt32))) <| asI rfl <| wpList_nil <| zaS ?_
  refine xn hK8 <| wp_region_lit <| p_mv q2 <| zaA (zdQ rfl rfl) <| asI rfl <| wpList_nil <| zaG ?_
  obtain rfl := osi hb1
  exact ⟨((((i32 (shlI .u32 ((s1.1).toNat : Int) 16)) ||| y2) &&& (1 : UInt32)), (w64 (s1.2.1 - 1)), y4), _, rfl, (kS k3 rfl kcx), ⟨_, _, rfl, rfl, H, g3⟩, hh1⟩
 ·refine wp_exit ?_
  refine zaN <| zaN <| zcK <| zaG ?_
  obtain rfl := osi hb1
  obtain rfl := osi hh1
  obtain rfl := osi hE2
  exact J1 _ _ _ _ (kS k3 rfl (kN k2 kcx)) H g2
def zkY (x0 : List UInt32) : Option (Bool) :=
  Option.bind (bif decide ((0 : Int) < ((x0).length : Int)) then (Option.bind (idx x0 0) fun y1 => some (((((i32 (Int.tmod ((y1).toNat : Int) 2))).toNat : Int) == 1))) else (some (false))) (fun t1 => some (t1))
theorem r6_odd_c (hS : Sub S w) {v0_ : Value} {x0 : List UInt32} (h0_ : RdS S v0_ x0) {r : Bool} (hF : zkY x0 = some r) :
    Calls Tryz.prog 118 #[v0_] w fun e w' => e = .returned (.bool (r)) ∧ Ext w w' := by
 refine enter (n := 13) Tryz.func118 rfl rfl rfl ?_
 have H := HS.start hS
 refine sr fun K1 hK1 => asB rfl <| xk hK1 <| sr fun K2 hK2 => p_mv (v := v0_) rfl <| zaA (r_lenR' u63 rfl h0_ H.sub) <| zaA (r_gtrI rfl rfl) <| mvB rfl <| zkU fun m1 k1 => ?_
 refine zkX 6 fun K3 hK3 R1 hR1 => bn hF fun t1 hE1 hF1 => ?_
 have J1 : ∀ (m2 : FM) (w1 : World), Kp (rg 7 6 []) m2 m1 → look m2 12 = .bool (t1) → HS ⟨S, [], w⟩ S w1 [] → K3 m2 w1 := by
  clear H; intro m2 w1 k2 q1 H
  refine hK3 _ _ <| p_as q1 <| xk hK2 <| wp_ret ?_
  obtain rfl := osi hF1
  refine e_1 rfl (zbD rfl) ?_
  exact ⟨rfl, H.toExt⟩
 refine p_gs (j := 3) (zaI rfl rfl (k1 6)) (fun hb1 => ?_) (fun hb1 => ?_)
 ·replace hE1 := zfK hE1 hb1
  refine zaT (zaI rfl rfl (k1 6)) hb1 <| p_mv (v := v0_) (k1 0) <| zaT (zaI rfl rfl (k1 6)) hb1 <| bn hE1 fun y1 e1 hE1 => ?_
  obtain ⟨b1, o2, N1, c1, cs1, hv1, hi1, hc1, hr1⟩ := h0_.get (zaD e1).2
  refine zaA (zaU (i := (0 : Int).toNat) u63 zbG rfl hv1 rfl (zaD e1).1 hi1) ?_
  obtain rfl := zeG hr1
  refine zaT (zaI rfl rfl (k1 6)) hb1 <| zaA (zbM (p := (o2 + (0 : Int).toNat * 1)) (o := 0) (v := .int .u32 (((y1).toNat : Int))) zcW H.sub rfl hc1 rfl) <| zaT (zaI rfl rfl (k1 6)) hb1 <| zaA (r_rem (r := (((i32 (Int.tmod ((y1).toNat : Int) 2))).toNat : Int)) rfl rfl (by decide) (i32_rem _ _ (by omega))) <| zaT (zaI rfl rfl (k1 6)) hb1 <| zaA (zdS rfl rfl) ?_
  refine zaA (zbQ (v := .bool (((((i32 (Int.tmod ((y1).toNat : Int) 2))).toNat : Int) == 1))) (k1 6) hb1 rfl) <| hR1 _ _ ?_
  obtain rfl := osi hE1
  exact J1 _ _ kcx rfl H
 ·replace hE1 := zfR hE1 hb1
  refine zaW (zaI rfl rfl (k1 6)) hb1 ?_
  rw [zaH]
  refine zaW (zaI rfl rfl (k1 6)) hb1 ?_
  rw [zaH]
  refine zaW (zaI rfl rfl (k1 6)) hb1 ?_
  rw [zaH]
  refine zaW (zaI rfl rfl (k1 6)) hb1 ?_
  rw [zaH]
  refine zaW (zaI rfl rfl (k1 6)) hb1 ?_
  rw [zaH]
  refine zaA (zaX (v := .bool (false)) (k1 6) hb1 rfl) <| hR1 _ _ ?_
  obtain rfl := osi hE1
  exact J1 _ _ kcx rfl H
def zgX (x0 : List UInt32) (x1 : List UInt32) : Option ((List UInt32)) :=
  Option.bind (Option.bind (zkY x0) fun y1 => bif y1 then (Option.bind (r6_Add_p x0 x1) fun y2 => some (y2)) else (some (x0))) (fun t1 => Option.bind (zjB t1) fun y3 => some (y3))
theorem r6_halved_c (hS : Sub S w) {v0_ : Value} {x0 : List UInt32} (h0_ : RdS S v0_ x0) {v1_ : Value} {x1 : List UInt32} (h1_ : RdS S v1_ x1) {r : (List UInt32)} (hF : zgX x0 x1 = some r) :
    Calls Tryz.prog 120 #[v0_, v1_] w fun e w' => Ext w w' ∧ ∃ (v0' : Value), e = .returned (v0') ∧ RdS (gr S w w') v0' r := by
 refine enter (n := 12) Tryz.func120 rfl rfl rfl ?_
 have H := HS.start hS
 refine sr fun K1 hK1 => asN rfl <| xk hK1 <| wp_seq_k fun K2 hK2 => zaY fun m1 k1 => bn hF fun t1 hE1 hF1 => ?_
 have J1 : ∀ (v2 : Value) (S2 : Mem) (m2 : FM) (w3 : World), Kp [0, 5, 6, 7, 8, 9] m2 m1 → look m2 0 = v2 → Mem.le S S2 → HS ⟨S, [], w⟩ S2 w3 [] → RdS S2 v2 t1 → K2 (fr 12 m2) w3 := by
  clear H; intro v2 S2 m2 w3 k2 q1 hle2 H g2
  replace h0_ := h0_.mono hle2
  replace h1_ := h1_.mono hle2
  refine hK2 _ _ <| sr fun K4 hK4 => p_mv (v := v2) q1 <| bn hF1 fun y3 e3 hF1 => zaF is119 rfl <| (r6_half_c H.sub g2 e3).mono <| H.ye fun w4 v3 S3 hle3 H g3 => ?_
  replace g2 := g2.mono hle3
  refine p_as (v := v3) rfl <| xk hK4 <| wp_ret ?_
  obtain rfl := osi hF1
  refine e_1 rfl (zbD rfl) ?_
  exact ⟨H.toExt, _, rfl, RdS.mono g3 H.gr⟩
 refine sr fun K3 hK3 => p_mv (v := v0_) (k1 0) <| bn hE1 fun y1 e1 hE1 => zaF is118 rfl <| (r6_odd_c H.sub h0_ e1).mono <| H.xe fun w1 H => xk hK3 ?_
 refine zbR hE1 rfl (fun hE1 hc1 => ?_) fun hE1 hc1 => ?_
 ·refine wp_region_lit ?_
  refine p_mv (v := v0_) (k1 0) <| p_mv (v := v1_) (k1 1) <| bn hE1 fun y2 e2 hE1 => zaF is150 rfl <| (r6_Add_c H.sub h0_ h1_ e2).mono <| H.ye fun w2 v1 S1 hle1 H g1 => ?_
  replace h0_ := h0_.mono hle1
  replace h1_ := h1_.mono hle1
  refine p_as (v := v1) rfl <| wpList_nil <| zaG ?_
  obtain rfl := osi hE1
  exact J1 _ _ _ _ kcx rfl hle1 H g1
 ·refine wp_skip ?_
  refine zaG ?_
  obtain rfl := osi hE1
  exact J1 _ _ _ _ kcx (show _ = (v0_ : Value) from (k1 0)) (Mem.le_refl _) H h0_
def r6_less_p (x0 : List UInt32) (x1 : List UInt32) (x2 : List UInt32) : Option ((List UInt32)) :=
  Option.bind (Option.bind (zfC x0 x1) fun y1 => bif decide (y1 < 0) then (Option.bind (r6_Add_p x0 x2) fun y2 => some (y2)) else (some (x0))) (fun t1 => Option.bind (r6_Sub_p t1 x1) fun y3 => some (y3))
theorem r6_less_c (hS : Sub S w) {v0_ : Value} {x0 : List UInt32} (h0_ : RdS S v0_ x0) {v1_ : Value} {x1 : List UInt32} (h1_ : RdS S v1_ x1) {v2_ : Value} {x2 : List UInt32} (h2_ : RdS S v2_ x2) {r : (List UInt32)} (hF : r6_less_p x0 x1 x2 = some r) :
    Calls Tryz.prog 122 #[v0_, v1_, v2_] w fun e w' => Ext w w' ∧ ∃ (v0' : Value), e = .returned (v0') ∧ RdS (gr S w w') v0' r := by
 refine enter (n := 17) Tryz.func122 rfl rfl rfl ?_
 have H := HS.start hS
 refine sr fun K1 hK1 => asN rfl <| xk hK1 <| wp_seq_k fun K2 hK2 => zaY fun m1 k1 => bn hF fun t1 hE1 hF1 => ?_
 have J1 : ∀ (v2 : Value) (S2 : Mem) (m2 : FM) (w3 : World), Kp (0 :: rg 7 7 []) m2 m1 → look m2 0 = v2 → Mem.le S S2 → HS ⟨S, [], w⟩ S2 w3 [] → RdS S2 v2 t1 → K2 (fr 17 m2) w3 := by
  clear H; intro v2 S2 m2 w3 k2 q1 hle2 H g2
  replace h0_ := h0_.mono hle2
  replace h1_ := h1_.mono hle2
  replace h2_ := h2_.mono hle2
  have q2 : look m2 1 = v1_ := (k2 1 rfl).trans (k1 1)
  refine hK2 _ _ <| sr fun K4 hK4 => p_mv (v := v2) q1 <| p_mv (v := v1_) q2 <| bn hF1 fun y3 e3 hF1 => zaF is121 rfl <| (r6_Sub_c H.sub g2 h1_ e3).mono <| H.ye fun w4 v3 S3 hle3 H g3 => ?_
  replace h1_ := h1_.mono hle3
  replace g2 := g2.mono hle3
  refine p_as (v := v3) rfl <| xk hK4 <| wp_ret ?_
  obtain rfl := osi hF1
  refine e_1 rfl (zbD rfl) ?_
  exact ⟨H.toExt, _, rfl, RdS.mono g3 H.gr⟩
 refine sr fun K3 hK3 => p_mv (v := v0_) (k1 0) <| p_mv (v := v1_) (k1 1) <| bn hE1 fun y1 e1 hE1 => zaF is69 rfl <| (zjV H.sub h0_ h1_ e1).mono <| H.xe fun w1 H => zaA (zcR rfl rfl) <| xk hK3 ?_
 refine zbR hE1 rfl (fun hE1 hc1 => ?_) fun hE1 hc1 => ?_
 ·refine wp_region_lit ?_
  refine p_mv (v := v0_) (k1 0) <| p_mv (v := v2_) (k1 2) <| bn hE1 fun y2 e2 hE1 => zaF is150 rfl <| (r6_Add_c H.sub h0_ h2_ e2).mono <| H.ye fun w2 v1 S1 hle1 H g1 => ?_
  replace h0_ := h0_.mono hle1
  replace h1_ := h1_.mono hle1
  replace h2_ := h2_.mono hle1
  refine p_as (v := v1) rfl <| wpList_nil <| zaG ?_
  obtain rfl := osi hE1
  exact J1 _ _ _ _ kcx rfl hle1 H g1
 ·refine wp_skip ?_
  refine zaG ?_
  obtain rfl := osi hE1
  exact J1 _ _ _ _ kcx (show _ = (v0_ : Value) from (k1 0)) (Mem.le_refl _) H h0_
def r6_Inverse_b1 (y1 : (List UInt32)) (s2 : (List UInt32) × (List UInt32)) : Option (((List UInt32) × (List UInt32)) ⊕ ((List UInt32) × (List UInt32))) :=
  Option.bind (zkY s2.1) fun y5 => bif (!y5) then (Option.bind (zjB s2.1) fun y6 => Option.bind (zgX s2.2 y1) fun y7 => some (.inl ((y6, y7)))) else (some (.inr ((s2.1, s2.2))))
def r6_Inverse_b2 (y1 : (List UInt32)) (s3 : (List UInt32) × (List UInt32)) : Option (((List UInt32) × (List UInt32)) ⊕ ((List UInt32) × (List UInt32))) :=
  Option.bind (zkY s3.1) fun y8 => bif (!y8) then (Option.bind (zjB s3.1) fun y9 => Option.bind (zgX s3.2 y1) fun y10 => some (.inl ((y9, y10)))) else (some (.inr ((s3.1, s3.2))))
def ziW (y1 : (List UInt32)) (s1 : (List UInt32) × (List UInt32) × (List UInt32) × (List UInt32)) : Option (((List UInt32) × (List UInt32) × (List UInt32) × (List UInt32)) ⊕ ((List UInt32) × (List UInt32) × (List UInt32))) :=
  Option.bind (zfC s1.1 ([1] : List UInt32)) fun y3 => Option.bind (bif (y3 != 0) then (Option.bind (zfC s1.2.1 ([1] : List UInt32)) fun y4 => some ((y4 != 0))) else (some (false))) (fun t2 => bif t2 then (Option.bind (Option.bind (iter (r6_Inverse_b1 y1) ((s1.1, s1.2.2.1))) (fun e => some (e))) (fun t3 => Option.bind (Option.bind (iter (r6_Inverse_b2 y1) ((s1.2.1, s1.2.2.2))) (fun e => some (e))) (fun t4 => Option.bind (zfC t3.1 t4.1) fun y11 => bif decide ((0 : Int) ≤ y11) then (Option.bind (r6_Sub_p t3.1 t4.1) fun y12 => Option.bind (r6_less_p t3.2 t4.2 y1) fun y13 => some (.inl ((y12, t4.1, y13, t4.2)))) else (Option.bind (r6_Sub_p t4.1 t3.1) fun y14 => Option.bind (r6_less_p t4.2 t3.2 y1) fun y15 => some (.inl ((t3.1, y14, t3.2, y15))))))) else (some (.inr ((s1.1, s1.2.2.1, s1.2.2.2)))))
def zeU (x0 : Int) (x1 : List UInt32) : Option ((List UInt32)) :=
  Option.bind (zdN x0) fun y1 => Option.bind (zhV x1 y1) fun y2 => Option.bind (Option.bind (iter (ziW y1) ((y2, y1, ([1] : List UInt32), ([] : List UInt32)))) (fun e => some (e))) (fun t1 => Option.bind (zfC t1.1 ([1] : List UInt32)) fun y16 => bif (y16 == 0) then (some (t1.2.1)) else (some (t1.2.2)))
theorem r6_Inverse_c (hS : Sub S w) {x0 : Int} {v1_ : Value} {x1 : List UInt32} (h1_ : RdS S v1_ x1) {r : (List UInt32)} (hF : zeU x0 x1 = some r) :
    Calls Tryz.prog 64 #[.int .i64 (x0), v1_] w fun e w' => Ext w w' ∧ ∃ (v0' : Value), e = .returned (v0') ∧ RdS (gr S w w') v0' r := by
 refine enter (n := 68) Tryz.func64 rfl rfl rfl ?_
 have H := HS.start hS
 refine sr fun K1 hK1 => asN rfl <| xk hK1 <| sr fun K2 hK2 => mvI rfl <| bn hF fun y1 e1 hF => zaF is71 rfl <| (zeV H.sub e1).mono <| H.ye fun w1 v1 S1 hle1 H g1 => ?_
 replace h1_ := h1_.mono hle1
 refine p_as (v := v1) rfl <| xk hK2 <| sr fun K3 hK3 => p_mv (v := v1_) rfl <| p_mv (v := v1) rfl <| bn hF fun y2 e2 hF => zaF is70 rfl <| (r6_Left_c H.sub h1_ g1 e2).mono <| H.ye fun w2 v2 S2 hle2 H g2 => ?_
 replace h1_ := h1_.mono hle2
 replace g1 := g1.mono hle2
 refine p_mv (v := v1) rfl <| p_as (v := v2) rfl <| p_as (v := v1) rfl <| xk hK3 <| sr fun K4 hK4 => zhD (zbO (N := 1) (xs := ([1] : List UInt32)) (RL.cons (zkE (x := (1 : UInt32)) rfl) RL.nil) tn63 H rfl rfl rfl) fun w3 v3 cs1 H g3 => ?_
 have g4 : RL S2 ([] : List Value) ([] : List UInt32) := RL.nil
 refine p_of1 (zeN (N := 0) (vals := []) (l := ([] : List Value)) tn63 H rfl rfl rfl g4.len) fun w4 v4 H => p_as (v := v3) rfl <| p_as (v := v4) rfl <| xk hK4 <| wp_seq_k fun K5 hK5 => ?_
 obtain ⟨S3, hle3, g5, H1⟩ := H.fixX (k := 0) rfl g4; clear H; have H := H1; clear H1
 replace h1_ := h1_.mono hle3
 replace g1 := g1.mono hle3
 replace g2 := g2.mono hle3
 replace g3 := g3.mono hle3
 obtain ⟨S4, hle4, g6, H1⟩ := H.fixX (k := 0) rfl g3; clear H; have H := H1; clear H1
 replace h1_ := h1_.mono hle4
 replace g1 := g1.mono hle4
 replace g2 := g2.mono hle4
 replace g5 := g5.mono hle4
 refine zaY fun m1 k1 => bn hF fun t1 hE1 hF1 => ?_
 have J4 : ∀ (v27 : Value) (v28 : Value) (v29 : Value) (S18 : Mem) (m14 : FM) (w26 : World), Kp (6 :: 7 :: 8 :: 9 :: rg 18 44 []) m14 m1 → look m14 6 = v27 → look m14 8 = v28 → look m14 9 = v29 → Mem.le S4 S18 → HS ⟨S, [], w⟩ S18 w26 [] → RdS S18 v27 t1.1 → RdS S18 v28 t1.2.1 → RdS S18 v29 t1.2.2 → K5 (fr 68 m14) w26 := by
  clear H; intro v27 v28 v29 S18 m14 w26 k17 q32 q33 q34 hle18 H g29 g30 g31
  replace h1_ := h1_.mono hle18
  replace g1 := g1.mono hle18
  replace g2 := g2.mono hle18
  replace g5 := g5.mono hle18
  replace g6 := g6.mono hle18
  refine hK5 _ _ <| wp_seq_k fun K20 hK20 => sr fun K21 hK21 => p_mv (v := v27) q32 <| zhD (zbO (N := 1) (xs := ([1] : List UInt32)) (RL.cons (zkE (x := (1 : UInt32)) rfl) RL.nil) tn63 H rfl rfl rfl) fun w27 v30 cs5 H g32 => bn hF1 fun y16 e16 hF1 => zaF is69 rfl <| (zjV (subMem w27) (g29.mono H.sub) (RdS.ofOwn H (k := 0) rfl g32) e16).mono <| H.xe fun w28 H => ?_
  refine zaA (zdS rfl rfl) <| xk hK21 ?_
  refine zbR hF1 rfl (fun hF1 hc5 => ?_) fun hF1 hc5 => ?_
  ·refine sr fun K22 hK22 => ?_
   refine p_mv (v := v28) q33 <| p_as (v := v28) rfl <| xk hK22 <| wp_ret <| zdC ?_
   obtain rfl := osi hF1
   refine e_1 rfl (zbD rfl) ?_
   exact ⟨H.toExt, _, rfl, RdS.mono g30 H.gr⟩
  ·refine wp_skip ?_
   refine xn hK20 <| sr fun K23 hK23 => p_mv (v := v29) q34 <| p_as (v := v29) rfl <| xk hK23 <| wp_ret ?_
   obtain rfl := osi hF1
   refine e_1 rfl (zbD rfl) ?_
   exact ⟨H.toExt, _, rfl, RdS.mono g31 H.gr⟩
 refine wp_block <| zaY fun m2 k2 => bn hE1 fun out1 hL1 hE2 => ?_
 refine zdL (6 :: 7 :: 8 :: 9 :: rg 18 44 []) (fun (s1 : (List UInt32) × (List UInt32) × (List UInt32) × (List UInt32)) (m3 : FM) (w5 : World) => ∃ (S5 : Mem) (v5 : Value) (v6 : Value) (v7 : Value) (v8 : Value), look m3 6 = v5 ∧ look m3 7 = v6 ∧ look m3 8 = v7 ∧ look m3 9 = v8 ∧ Mem.le S4 S5 ∧ HS ⟨S, [], w⟩ S5 w5 [] ∧ RdS S5 v5 s1.1 ∧ RdS S5 v6 s1.2.1 ∧ RdS S5 v7 s1.2.2.1 ∧ RdS S5 v8 s1.2.2.2) hL1 ⟨_, _, _, _, _, (show _ = (v2 : Value) from ((k2 6).trans (k1 6))), (show _ = (v1 : Value) from ((k2 7).trans (k1 7))), (show _ = (v3 : Value) from ((k2 8).trans (k1 8))), (show _ = (v4 : Value) from ((k2 9).trans (k1 9))), (Mem.le_refl _), H, g2, g1, g6, g5⟩ ?_
 clear H; intro k4 s1 m3 w5 k3 hI1 o2 hb1 hh1; obtain ⟨S5, v5, v6, v7, v8, q1, q2, q3, q4, hle5, H, g7, g8, g9, g10⟩ := hI1
 replace h1_ := h1_.mono hle5
 replace g1 := g1.mono hle5
 replace g2 := g2.mono hle5
 replace g5 := g5.mono hle5
 replace g6 := g6.mono hle5
 have q5 : look m3 5 = v1 := (k3 5 rfl).trans ((k2 5).trans (k1 5))
 refine wp_seq_k fun K6 hK6 => sr fun K7 hK7 => p_mv (v := v5) q1 <| zhD (zbO (N := 1) (xs := ([1] : List UInt32)) (RL.cons (zkE (x := (1 : UInt32)) rfl) RL.nil) tn63 H rfl rfl rfl) fun w6 v9 cs3 H g11 => bn hb1 fun y3 e3 hb1 => zaF is69 rfl <| (zjV (subMem w6) (g7.mono H.sub) (RdS.ofOwn H (k := 0) rfl g11) e3).mono <| H.xe fun w7 H => zaA (r_neqI rfl rfl) <| mvB rfl ?_
 refine zkU fun m4 k5 => zkX 5 fun K8 hK8 R4 hR4 => bn hb1 fun t2 hE3 hF2 => ?_
 have J3 : ∀ (m5 : FM) (w10 : World), Kp [23, 24, 25, 26, 27] m5 m4 → look m5 27 = .bool (t2) → HS ⟨S, [], w⟩ S5 w10 [.osl (v9) (([1] : List UInt32)).length 1 cs3 [] 107] → K8 m5 w10 := by
  clear H; intro m5 w10 k6 q6 H
  have q7 := (k6 5 rfl).trans ((k5 5).trans q5)
  have q8 := (k6 6 rfl).trans ((k5 6).trans q1)
  have q9 := (k6 7 rfl).trans ((k5 7).trans q2)
  have q10 := (k6 8 rfl).trans ((k5 8).trans q3)
  have q11 := (k6 9 rfl).trans ((k5 9).trans q4)
  refine hK8 _ _ <| xk hK7 ?_
  refine zcG q6 (fun hc1 => ?_) (fun hc1 => ?_)
  ·replace hF2 := zfK hF2 hc1
   refine wp_skip <| xn hK6 <| wp_block <| wp_seq_k fun K9 hK9 => zaY fun m6 k7 => bn hF2 fun t3 hE4 hF3 => ?_
   have J2 : ∀ (v15 : Value) (v16 : Value) (S9 : Mem) (m9 : FM) (w15 : World), Kp (6 :: 8 :: rg 28 8 []) m9 m6 → look m9 6 = v15 → look m9 8 = v16 → Mem.le S5 S9 → HS ⟨S, [], w⟩ S9 w15 [.osl (v9) (([1] : List UInt32)).length 1 cs3 [] 107] → RdS S9 v15 t3.1 → RdS S9 v16 t3.2 → K9 (fr 68 m9) w15 := by
    clear H; intro v15 v16 S9 m9 w15 k11 q17 q18 hle9 H g17 g18
    replace h1_ := h1_.mono hle9
    replace g1 := g1.mono hle9
    replace g2 := g2.mono hle9
    replace g5 := g5.mono hle9
    replace g6 := g6.mono hle9
    replace g7 := g7.mono hle9
    replace g8 := g8.mono hle9
    replace g9 := g9.mono hle9
    replace g10 := g10.mono hle9
    replace g11 := g11.mono hle9
    have q19 := (k11 5 rfl).trans ((k7 5).trans q7)
    have q20 := (k11 7 rfl).trans ((k7 7).trans q9)
    have q21 := (k11 9 rfl).trans ((k7 9).trans q11)
    refine hK9 _ _ <| wp_seq_k fun K13 hK13 => zaY fun m10 k12 => bn hF3 fun t4 hE6 hF4 => ?_
    have J1 : ∀ (v21 : Value) (v22 : Value) (S13 : Mem) (m13 : FM) (w20 : World), Kp (7 :: 9 :: rg 36 8 []) m13 m10 → look m13 7 = v21 → look m13 9 = v22 → Mem.le S9 S13 → HS ⟨S, [], w⟩ S13 w20 [.osl (v9) (([1] : List UInt32)).length 1 cs3 [] 107] → RdS S13 v21 t4.1 → RdS S13 v22 t4.2 → K13 (fr 68 m13) w20 := by
     clear H; intro v21 v22 S13 m13 w20 k16 q27 q28 hle13 H g23 g24
     replace h1_ := h1_.mono hle13
     replace g1 := g1.mono hle13
     replace g2 := g2.mono hle13
     replace g5 := g5.mono hle13
     replace g6 := g6.mono hle13
     replace g7 := g7.mono hle13
     replace g8 := g8.mono hle13
     replace g9 := g9.mono hle13
     replace g10 := g10.mono hle13
     replace g11 := g11.mono hle13
     replace g17 := g17.mono hle13
     replace g18 := g18.mono hle13
     have q29 := (k16 5 rfl).trans ((k12 5).trans q19)
     have q30 := (k16 6 rfl).trans ((k12 6).trans q17)
     have q31 := (k16 8 rfl).trans ((k12 8).trans q18)
     refine hK13 _ _ <| sr fun K17 hK17 => p_mv (v := v15) q30 <| p_mv (v := v21) q27 <| bn hF4 fun y11 e11 hF4 => zaF is69 rfl <| (zjV H.sub g17 g23 e11).mono <| H.xe fun w21 H => zaA (r_geqI rfl rfl) <| xk hK17 ?_
     refine zbR hF4 rfl (fun hF4 hc4 => ?_) fun hF4 hc4 => ?_
     ·refine sr fun K18 hK18 => ?_
      refine p_mv (v := v15) q30 <| p_mv (v := v21) q27 <| bn hF4 fun y12 e12 hF4 => zaF is121 rfl <| (r6_Sub_c H.sub g17 g23 e12).mono <| H.ye fun w22 v23 S14 hle14 H g25 => ?_
      replace g1 := g1.mono hle14
      replace g11 := g11.mono hle14
      replace g17 := g17.mono hle14
      replace g18 := g18.mono hle14
      replace g23 := g23.mono hle14
      replace g24 := g24.mono hle14
      refine p_as (v := v23) rfl <| xk hK18 <| wp_region_lit <| p_mv (v := v16) q31 <| p_mv (v := v22) q28 <| p_mv (v := v1) q29 <| bn hF4 fun y13 e13 hF4 => zaF is122 rfl <| (r6_less_c H.sub g18 g24 g1 e13).mono <| H.ye fun w23 v24 S15 hle15 H g26 => ?_
      replace g1 := g1.mono hle15
      replace g11 := g11.mono hle15
      replace g18 := g18.mono hle15
      replace g23 := g23.mono hle15
      replace g24 := g24.mono hle15
      replace g25 := g25.mono hle15
      refine p_as (v := v24) rfl <| wpList_nil <| zaS <| zaG ?_
      replace H := H.sel [] rfl
      replace H := hsn H
      obtain rfl := osi hF4
      exact ⟨(y12, t4.1, y13, t4.2), _, rfl, (kS k16 rfl (kN k12 (kS k11 rfl (kN k7 (kS k6 rfl (kN k5 (kS k3 rfl kcx))))))), ⟨_, _, _, _, _, rfl, (show _ = (v21 : Value) from q27), rfl, (show _ = (v22 : Value) from q28), (Mem.le_trans hle5 (Mem.le_trans hle9 (Mem.le_trans hle13 (Mem.le_trans hle14 hle15)))), H, g25, g23, g26, g24⟩, hh1⟩
     ·refine sr fun K19 hK19 => ?_
      refine p_mv (v := v21) q27 <| p_mv (v := v15) q30 <| bn hF4 fun y14 e14 hF4 => zaF is121 rfl <| (r6_Sub_c H.sub g23 g17 e14).mono <| H.ye fun w24 v25 S16 hle16 H g27 => ?_
      replace g1 := g1.mono hle16
      replace g11 := g11.mono hle16
      replace g17 := g17.mono hle16
      replace g18 := g18.mono hle16
      replace g23 := g23.mono hle16
      replace g24 := g24.mono hle16
      refine p_as (v := v25) rfl <| xk hK19 <| wp_region_lit <| p_mv (v := v22) q28 <| p_mv (v := v16) q31 <| p_mv (v := v1) q29 <| bn hF4 fun y15 e15 hF4 => zaF is122 rfl <| (r6_less_c H.sub g24 g18 g1 e15).mono <| H.ye fun w25 v26 S17 hle17 H g28 => ?_
      replace g1 := g1.mono hle17
      replace g11 := g11.mono hle17
      replace g17 := g17.mono hle17
      replace g18 := g18.mono hle17
      replace g24 := g24.mono hle17
      replace g27 := g27.mono hle17
      refine p_as (v := v26) rfl <| wpList_nil <| zaS <| zaG ?_
      replace H := H.sel [] rfl
      replace H := hsn H
      obtain rfl := osi hF4
      exact ⟨(t3.1, y14, t3.2, y15), _, rfl, (kS k16 rfl (kN k12 (kS k11 rfl (kN k7 (kS k6 rfl (kN k5 (kS k3 rfl kcx))))))), ⟨_, _, _, _, _, (show _ = (v15 : Value) from q30), rfl, (show _ = (v16 : Value) from q31), rfl, (Mem.le_trans hle5 (Mem.le_trans hle9 (Mem.le_trans hle13 (Mem.le_trans hle16 hle17)))), H, g17, g27, g18, g28⟩, hh1⟩
    refine wp_block <| zaY fun m11 k13 => bn hE6 fun out3 hL3 hE7 => ?_
    refine zdL (7 :: 9 :: rg 36 8 []) (fun (s3 : (List UInt32) × (List UInt32)) (m12 : FM) (w16 : World) => ∃ (S10 : Mem) (v17 : Value) (v18 : Value), look m12 7 = v17 ∧ look m12 9 = v18 ∧ Mem.le S9 S10 ∧ HS ⟨S, [], w⟩ S10 w16 [.osl (v9) (([1] : List UInt32)).length 1 cs3 [] 107] ∧ RdS S10 v17 s3.1 ∧ RdS S10 v18 s3.2) hL3 ⟨_, _, _, (show _ = (v6 : Value) from ((k13 7).trans ((k12 7).trans q20))), (show _ = (v8 : Value) from ((k13 9).trans ((k12 9).trans q21))), (Mem.le_refl _), H, g8, g10⟩ ?_
    clear H; intro k15 s3 m12 w16 k14 hI3 o7 hb4 hh3; obtain ⟨S10, v17, v18, q22, q23, hle10, H, g19, g20⟩ := hI3
    replace h1_ := h1_.mono hle10
    replace g1 := g1.mono hle10
    replace g2 := g2.mono hle10
    replace g5 := g5.mono hle10
    replace g6 := g6.mono hle10
    replace g7 := g7.mono hle10
    replace g8 := g8.mono hle10
    replace g9 := g9.mono hle10
    replace g10 := g10.mono hle10
    replace g11 := g11.mono hle10
    replace g17 := g17.mono hle10
    replace g18 := g18.mono hle10
    have q24 := (k14 5 rfl).trans ((k13 5).trans ((k12 5).trans q19))
    have q25 := (k14 6 rfl).trans ((k13 6).trans ((k12 6).trans q17))
    have q26 := (k14 8 rfl).trans ((k13 8).trans ((k12 8).trans q18))
    refine wp_seq_k fun K14 hK14 => sr fun K15 hK15 => p_mv (v := v17) q22 <| bn hb4 fun y8 e8 hb4 => zaF is118 rfl <| (r6_odd_c H.sub g19 e8).mono <| H.xe fun w17 H => zaA (zlK (t := (!y8)) rfl rfl) <| xk hK15 ?_
    refine zbR hb4 rfl (fun hb4 hc3 => ?_) fun hb4 hc3 => ?_
    ·refine wp_skip ?_
     refine xn hK14 <| wp_block <| sr fun K16 hK16 => p_mv (v := v17) q22 <| bn hb4 fun y9 e9 hb4 => zaF is119 rfl <| (r6_half_c H.sub g19 e9).mono <| H.ye fun w18 v19 S11 hle11 H g21 => ?_
     replace g1 := g1.mono hle11
     replace g11 := g11.mono hle11
     replace g17 := g17.mono hle11
     replace g18 := g18.mono hle11
     replace g19 := g19.mono hle11
     replace g20 := g20.mono hle11
     refine p_as (v := v19) rfl <| xk hK16 <| wp_region_lit <| p_mv (v := v18) q23 <| p_mv (v := v1) q24 <| bn hb4 fun y10 e10 hb4 => zaF is120 rfl <| (r6_halved_c H.sub g20 g1 e10).mono <| H.ye fun w19 v20 S12 hle12 H g22 => ?_
     replace g1 := g1.mono hle12
     replace g11 := g11.mono hle12
     replace g17 := g17.mono hle12
     replace g18 := g18.mono hle12
     replace g20 := g20.mono hle12
     replace g21 := g21.mono hle12
     refine p_as (v := v20) rfl <| wpList_nil <| zaS <| zaG ?_
     obtain rfl := osi hb4
     exact ⟨(y9, y10), _, rfl, (kS k14 rfl kcx), ⟨_, _, _, rfl, rfl, (Mem.le_trans hle10 (Mem.le_trans hle11 hle12)), H, g21, g22⟩, hh3⟩
    ·refine wp_exit ?_
     refine zaN <| zaN <| zcK <| zaG ?_
     obtain rfl := osi hb4
     obtain rfl := osi hh3
     obtain rfl := osi hE7
     exact J1 _ _ _ _ _ (kS k14 rfl (kN k13 kcx)) (show _ = (v17 : Value) from q22) (show _ = (v18 : Value) from q23) hle10 H g19 g20
   refine wp_block <| zaY fun m7 k8 => bn hE4 fun out2 hL2 hE5 => ?_
   refine zdL (6 :: 8 :: rg 28 8 []) (fun (s2 : (List UInt32) × (List UInt32)) (m8 : FM) (w11 : World) => ∃ (S6 : Mem) (v11 : Value) (v12 : Value), look m8 6 = v11 ∧ look m8 8 = v12 ∧ Mem.le S5 S6 ∧ HS ⟨S, [], w⟩ S6 w11 [.osl (v9) (([1] : List UInt32)).length 1 cs3 [] 107] ∧ RdS S6 v11 s2.1 ∧ RdS S6 v12 s2.2) hL2 ⟨_, _, _, (show _ = (v5 : Value) from ((k8 6).trans ((k7 6).trans q8))), (show _ = (v7 : Value) from ((k8 8).trans ((k7 8).trans q10))), (Mem.le_refl _), H, g7, g9⟩ ?_
   clear H; intro k10 s2 m8 w11 k9 hI2 o5 hb3 hh2; obtain ⟨S6, v11, v12, q12, q13, hle6, H, g13, g14⟩ := hI2
   replace h1_ := h1_.mono hle6
   replace g1 := g1.mono hle6
   replace g2 := g2.mono hle6
   replace g5 := g5.mono hle6
   replace g6 := g6.mono hle6
   replace g7 := g7.mono hle6
   replace g8 := g8.mono hle6
   replace g9 := g9.mono hle6
   replace g10 := g10.mono hle6
   replace g11 := g11.mono hle6
   have q14 := (k9 5 rfl).trans ((k8 5).trans ((k7 5).trans q7))
   have q15 := (k9 7 rfl).trans ((k8 7).trans ((k7 7).trans q9))
   have q16 := (k9 9 rfl).trans ((k8 9).trans ((k7 9).trans q11))
   refine wp_seq_k fun K10 hK10 => sr fun K11 hK11 => p_mv (v := v11) q12 <| bn hb3 fun y5 e5 hb3 => zaF is118 rfl <| (r6_odd_c H.sub g13 e5).mono <| H.xe fun w12 H => zaA (zlK (t := (!y5)) rfl rfl) <| xk hK11 ?_
   refine zbR hb3 rfl (fun hb3 hc2 => ?_) fun hb3 hc2 => ?_
   ·refine wp_skip ?_
    refine xn hK10 <| wp_block <| sr fun K12 hK12 => p_mv (v := v11) q12 <| bn hb3 fun y6 e6 hb3 => zaF is119 rfl <| (r6_half_c H.sub g13 e6).mono <| H.ye fun w13 v13 S7 hle7 H g15 => ?_
    replace g1 := g1.mono hle7
    replace g8 := g8.mono hle7
    replace g10 := g10.mono hle7
    replace g11 := g11.mono hle7
    replace g13 := g13.mono hle7
    replace g14 := g14.mono hle7
    refine p_as (v := v13) rfl <| xk hK12 <| wp_region_lit <| p_mv (v := v12) q13 <| p_mv (v := v1) q14 <| bn hb3 fun y7 e7 hb3 => zaF is120 rfl <| (r6_halved_c H.sub g14 g1 e7).mono <| H.ye fun w14 v14 S8 hle8 H g16 => ?_
    replace g1 := g1.mono hle8
    replace g8 := g8.mono hle8
    replace g10 := g10.mono hle8
    replace g11 := g11.mono hle8
    replace g14 := g14.mono hle8
    replace g15 := g15.mono hle8
    refine p_as (v := v14) rfl <| wpList_nil <| zaS <| zaG ?_
    obtain rfl := osi hb3
    exact ⟨(y6, y7), _, rfl, (kS k9 rfl kcx), ⟨_, _, _, rfl, rfl, (Mem.le_trans hle6 (Mem.le_trans hle7 hle8)), H, g15, g16⟩, hh2⟩
   ·refine wp_exit ?_
    refine zaN <| zaN <| zcK <| zaG ?_
    obtain rfl := osi hb3
    obtain rfl := osi hh2
    obtain rfl := osi hE5
    exact J2 _ _ _ _ _ (kS k9 rfl (kN k8 kcx)) (show _ = (v11 : Value) from q12) (show _ = (v12 : Value) from q13) hle6 H g13 g14
  ·replace hF2 := zfR hF2 hc1
   refine wp_exit <| zaN <| zaN <| zcK <| zaG ?_
   replace H := H.sel [] rfl
   replace H := hsn H
   obtain rfl := osi hF2
   obtain rfl := osi hh1
   obtain rfl := osi hE2
   exact J4 _ _ _ _ _ _ (kS k6 rfl (kN k5 (kS k3 rfl (kN k2 kcx)))) (show _ = (v5 : Value) from q8) (show _ = (v7 : Value) from q10) (show _ = (v8 : Value) from q11) hle5 H g7 g9 g10
 refine p_gs (j := 4) (zaI rfl rfl (k5 22)) (fun hb2 => ?_) (fun hb2 => ?_)
 ·replace hE3 := zfK hE3 hb2
  refine zaT (zaI rfl rfl (k5 22)) hb2 <| p_mv (v := v6) ((k5 7).trans q2) <| zaT (zaI rfl rfl (k5 22)) hb2 <| zhD (zbO (N := 1) (xs := ([1] : List UInt32)) (RL.cons (zkE (x := (1 : UInt32)) rfl) RL.nil) tn63 H rfl rfl rfl) fun w8 v10 cs4 H g12 => zaT (zaI rfl rfl (k5 22)) hb2 <| bn hE3 fun y4 e4 hE3 => zaF is69 rfl ?_
  refine (zjV (subMem w8) (g8.mono H.sub) (RdS.ofOwn H (k := 0) rfl g12) e4).mono <| H.xe fun w9 H => zaT (zaI rfl rfl (k5 22)) hb2 <| zaA (r_neqI rfl rfl) <| zaA (zbQ (v := .bool ((y4 != 0))) (k5 22) hb2 rfl) <| hR4 _ _ ?_
  replace H := H.sel [1] rfl
  replace H := hsn H
  obtain rfl := osi hE3
  exact J3 _ _ kcx rfl H
 ·replace hE3 := zfR hE3 hb2
  refine zaW (zaI rfl rfl (k5 22)) hb2 ?_
  rw [zaH]
  refine zaW (zaI rfl rfl (k5 22)) hb2 ?_
  rw [zaH]
  refine zaW (zaI rfl rfl (k5 22)) hb2 ?_
  rw [zaH]
  refine zaW (zaI rfl rfl (k5 22)) hb2 ?_
  rw [zaH]
  refine zaA (zaX (v := .bool (false)) (k5 22) hb2 rfl) <| hR4 _ _ ?_
  obtain rfl := osi hE3
  exact J3 _ _ kcx rfl H
theorem is38 : IsFn Tryz.prog 38 := isFn Tryz.func38
theorem is65 : IsFn Tryz.prog 65 := isFn Tryz.func65
theorem is106 : IsFn Tryz.prog 106 := isFn Tryz.func106
theorem is114 : IsFn Tryz.prog 114 := isFn Tryz.func114
theorem is115 : IsFn Tryz.prog 115 := isFn Tryz.func115
theorem zhP : IsFn Tryz.prog 116 := isFn Tryz.func116
theorem is152 : IsFn Tryz.prog 152 := isFn Tryz.func152
def r7_Base_p  : Option (Qp) :=
  some ((((17627433388654248598, 8575836109218198432, 17923454489921339634, 7716867327612699207) : Qw), ((14678990851816772085, 3156516839386865358, 10297457778147434006, 5756518291402817435) : Qw), false))
theorem r7_Base_c (hS : Sub S w)  {r : Qp} (hF : r7_Base_p = some r) :
    Calls Tryz.prog 83 #[] w fun e w' => e = .returned (.agg ((cl26 r)).toArray) ∧ Ext w w' := by
 refine enter (n := 4) Tryz.func83 rfl rfl rfl ?_
 have H := HS.start hS
 refine sr fun K1 hK1 => zdI (zcP (l := (cl26 (((0, 0, 0, 0) : Qw), ((0, 0, 0, 0) : Qw), false))) H tz26 rfl) fun w1 b1 H => xk hK1 <| sr fun K2 hK2 => ?_
 refine zaA (zbC (vals := [(0, .int .u64 (17627433388654248598)), (1, .int .u64 (8575836109218198432)), (2, .int .u64 (17923454489921339634)), (3, .int .u64 (7716867327612699207))]) (l := (cl24 ((17627433388654248598, 8575836109218198432, 17923454489921339634, 7716867327612699207) : Qw))) tb24 rfl rfl) ?_
 refine zaA (zbC (vals := [(0, .int .u64 (14678990851816772085)), (1, .int .u64 (3156516839386865358)), (2, .int .u64 (10297457778147434006)), (3, .int .u64 (5756518291402817435))]) (l := (cl24 ((14678990851816772085, 3156516839386865358, 10297457778147434006, 5756518291402817435) : Qw))) tb24 rfl rfl) ?_
 refine zaA (zbC (vals := [(0, .agg ((cl24 ((17627433388654248598, 8575836109218198432, 17923454489921339634, 7716867327612699207) : Qw))).toArray), (1, .agg ((cl24 ((14678990851816772085, 3156516839386865358, 10297457778147434006, 5756518291402817435) : Qw))).toArray)]) (l := (cl26 (((17627433388654248598, 8575836109218198432, 17923454489921339634, 7716867327612699207) : Qw), ((14678990851816772085, 3156516839386865358, 10297457778147434006, 5756518291402817435) : Qw), false))) tb26 rfl rfl) ?_
 refine zdB (zbE (k := 0) (l := (cl26 (((17627433388654248598, 8575836109218198432, 17923454489921339634, 7716867327612699207) : Qw), ((14678990851816772085, 3156516839386865358, 10297457778147434006, 5756518291402817435) : Qw), false))) tsz26 H rfl rfl rfl (zaV _) rfl (onz rfl) rfl) fun w2 H => xk hK2 <| wp_ret ?_
 obtain rfl := osi hF
 refine e_1 rfl (zeD (l := (cl26 (((17627433388654248598, 8575836109218198432, 17923454489921339634, 7716867327612699207) : Qw), ((14678990851816772085, 3156516839386865358, 10297457778147434006, 5756518291402817435) : Qw), false))) tg26 H rfl (k := 0) rfl rfl rfl) ?_
 exact ⟨rfl, H.toExt⟩
def zaZ (x0 : List UInt32) (x1 : List UInt32) : Option ((List UInt32)) :=
  Option.bind (ziI 0 x0 x1) fun y1 => some (y1)
theorem zbI (hS : Sub S w) {v0_ : Value} {x0 : List UInt32} (h0_ : RdS S v0_ x0) {v1_ : Value} {x1 : List UInt32} (h1_ : RdS S v1_ x1) {r : (List UInt32)} (hF : zaZ x0 x1 = some r) :
    Calls Tryz.prog 116 #[v0_, v1_] w fun e w' => Ext w w' ∧ ∃ (v0' : Value), e = .returned (v0') ∧ RdS (gr S w w') v0' r := by
 refine enter (n := 8) Tryz.func116 rfl rfl rfl ?_
 have H := HS.start hS
 refine sr fun K1 hK1 => asN rfl <| xk hK1 <| sr fun K2 hK2 => p_mv (v := v0_) rfl <| p_mv (v := v1_) rfl <| bn hF fun y1 e1 hF => zaF is65 rfl <| (r6_Product_c H.sub h0_ h1_ e1).mono <| H.ye fun w1 v1 S1 hle1 H g1 => ?_
 replace h0_ := h0_.mono hle1
 replace h1_ := h1_.mono hle1
 refine p_as (v := v1) rfl <| xk hK2 <| wp_ret ?_
 obtain rfl := osi hF
 refine e_1 rfl (zbD rfl) ?_
 exact ⟨H.toExt, _, rfl, RdS.mono g1 H.gr⟩
def ziQ (x0 : List UInt32) (x1 : List UInt32) : Option ((List UInt32)) :=
  Option.bind (r6_Sum_p 0 x0 x1) fun y1 => some (y1)
theorem r7_plus_c (hS : Sub S w) {v0_ : Value} {x0 : List UInt32} (h0_ : RdS S v0_ x0) {v1_ : Value} {x1 : List UInt32} (h1_ : RdS S v1_ x1) {r : (List UInt32)} (hF : ziQ x0 x1 = some r) :
    Calls Tryz.prog 114 #[v0_, v1_] w fun e w' => Ext w w' ∧ ∃ (v0' : Value), e = .returned (v0') ∧ RdS (gr S w w') v0' r := by
 refine enter (n := 8) Tryz.func114 rfl rfl rfl ?_
 have H := HS.start hS
 refine sr fun K1 hK1 => asN rfl <| xk hK1 <| sr fun K2 hK2 => p_mv (v := v0_) rfl <| p_mv (v := v1_) rfl <| bn hF fun y1 e1 hF => zaF is106 rfl <| (r6_Sum_c H.sub h0_ h1_ e1).mono <| H.ye fun w1 v1 S1 hle1 H g1 => ?_
 replace h0_ := h0_.mono hle1
 replace h1_ := h1_.mono hle1
 refine p_as (v := v1) rfl <| xk hK2 <| wp_ret ?_
 obtain rfl := osi hF
 refine e_1 rfl (zbD rfl) ?_
 exact ⟨H.toExt, _, rfl, RdS.mono g1 H.gr⟩
def zcF (x0 : List UInt32) (x1 : List UInt32) : Option ((List UInt32)) :=
  Option.bind (zgF 0 x1) fun y1 => Option.bind (r6_Sum_p 0 x0 y1) fun y2 => some (y2)
theorem zdH (hS : Sub S w) {v0_ : Value} {x0 : List UInt32} (h0_ : RdS S v0_ x0) {v1_ : Value} {x1 : List UInt32} (h1_ : RdS S v1_ x1) {r : (List UInt32)} (hF : zcF x0 x1 = some r) :
    Calls Tryz.prog 115 #[v0_, v1_] w fun e w' => Ext w w' ∧ ∃ (v0' : Value), e = .returned (v0') ∧ RdS (gr S w w') v0' r := by
 refine enter (n := 9) Tryz.func115 rfl rfl rfl ?_
 have H := HS.start hS
 refine sr fun K1 hK1 => asN rfl <| xk hK1 <| sr fun K2 hK2 => p_mv (v := v0_) rfl <| p_mv (v := v1_) rfl <| bn hF fun y1 e1 hF => zaF is152 rfl <| (r6_Opposite_c H.sub h1_ e1).mono <| H.ye fun w1 v1 S1 hle1 H g1 => ?_
 replace h0_ := h0_.mono hle1
 replace h1_ := h1_.mono hle1
 refine bn hF fun y2 e2 hF => zaF is106 rfl <| (r6_Sum_c H.sub h0_ g1 e2).mono <| H.ye fun w2 v2 S2 hle2 H g2 => ?_
 replace h0_ := h0_.mono hle2
 replace g1 := g1.mono hle2
 refine p_as (v := v2) rfl <| xk hK2 <| wp_ret ?_
 obtain rfl := osi hF
 refine e_1 rfl (zbD rfl) ?_
 exact ⟨H.toExt, _, rfl, RdS.mono g2 H.gr⟩
end
end Go.Proofs.YtmbcolbbekbccaaGreat
