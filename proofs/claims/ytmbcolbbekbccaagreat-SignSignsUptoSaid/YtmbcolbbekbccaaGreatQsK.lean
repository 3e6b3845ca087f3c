/- What some functions compute, and that they do. Package hash: what its sums and macs are: plain laws. Base64 texts: what package codec and its reference write. Package sign: what its keys and rings are: plain laws. Package sign: the calls whose answers the document fixes, and what the laws ask of them: plain laws. What the calls of awake (layer 6) answer: plain lemmas. Points and their bytes, there and back; what the calls of awake (layer 7) answer: plain lemmas. The way over three numbers and the points that it stands for: plain lemmas. The order of the group: N times any point is far out. Plain lemmas. Signatures of the curve: what is signed fits, and so does its twin: plain laws over points. Package sign: private and public keys: plain laws. Conditions: as each theorem says. -/
import Derived.KernelRfl
import Derived.Test.YtmbcolbbekbccaaGreatQsJ
namespace Go.Proofs.YtmbcolbbekbccaaGreat
open Go Go.RowKit
section
attribute [local irreducible] wpList wpT Code.wp Calls Code.rounds
variable {S : Mem} {w : World}
theorem is52 : IsFn Tryz.prog 52 := isFn Tryz.func52
theorem is53 : IsFn Tryz.prog 53 := isFn Tryz.func53
theorem is54 : IsFn Tryz.prog 54 := isFn Tryz.func54
theorem is55 : IsFn Tryz.prog 55 := isFn Tryz.func55
theorem is56 : IsFn Tryz.prog 56 := isFn Tryz.func56
theorem is57 : IsFn Tryz.prog 57 := isFn Tryz.func57
theorem is59 : IsFn Tryz.prog 59 := isFn Tryz.func59
theorem is103 : IsFn Tryz.prog 103 := isFn Tryz.func103
def zlC (x0 : List UInt32) : Option ((List UInt8)) :=
  Option.bind (r6_Out_p x0) fun y1 => Option.bind (r6_Bytes_p y1) fun y2 => some (y2)
theorem r8_bytes_c (hS : Sub S w) {v0_ : Value} {x0 : List UInt32} (h0_ : RdS S v0_ x0) {r : (List UInt8)} (hF : zlC x0 = some r) :
    Calls Tryz.prog 54 #[v0_] w fun e w' => e = .returned (str (r)) ∧ Ext w w' := by
 refine enter (n := 6) Tryz.func54 rfl rfl rfl ?_
 have H := HS.start hS
 refine sr fun K1 hK1 => asT rfl <| xk hK1 <| sr fun K2 hK2 => p_mv (v := v0_) rfl <| bn hF fun y1 e1 hF => zaF is85 rfl <| (r6_Out_c H.sub h0_ e1).mono <| H.xe fun w1 H => bn hF fun y2 e2 hF => ?_
 refine zaF is53 rfl <| (r6_Bytes_c H.sub e2).mono <| H.xe fun w2 H => asT rfl <| xk hK2 <| wp_ret ?_
 obtain rfl := osi hF
 refine e_1 rfl (zbD rfl) ?_
 exact ⟨rfl, H.toExt⟩
def r8_many_b0 (x0 : UInt8) (x1 : Int) (s1 : Int × (List UInt8)) : Option ((Int × (List UInt8)) ⊕ ((List UInt8))) :=
  bif decide (s1.1 < x1) then (Option.bind (app s1.2 ([x0] : List UInt8)) fun y1 => some (.inl (((w64 (s1.1 + 1)), y1)))) else (some (.inr (s1.2)))
def r8_many_p (x0 : UInt8) (x1 : Int) : Option ((List UInt8)) :=
  Option.bind (Option.bind (iter (r8_many_b0 x0 x1) ((0, ([] : List UInt8)))) (fun e => some (e))) (fun t1 => some (t1))
theorem r8_many_c (hS : Sub S w) {x0 : UInt8} {x1 : Int} {r : (List UInt8)} (hF : r8_many_p x0 x1 = some r) :
    Calls Tryz.prog 55 #[.int .u8 (((x0).toNat : Int)), .int .i64 (x1)] w fun e w' => e = .returned (str (r)) ∧ Ext w w' := by
 refine enter (n := 19) Tryz.func55 rfl rfl rfl ?_
 have H := HS.start hS
 refine sr fun K1 hK1 => asT rfl <| xk hK1 <| sr fun K2 hK2 => ?_
 have g1 : RL S ([] : List Value) ([] : List UInt8) := RL.nil
 refine p_of1 (zeN (N := 0) (vals := []) (l := ([] : List Value)) zhR H rfl rfl rfl g1.len) fun w1 v1 H => p_as (v := v1) rfl <| xk hK2 <| wp_seq_k fun K3 hK3 => zaY fun m1 k1 => bn hF fun t1 hE1 hF1 => ?_
 have J1 : ∀ (v5 : Value) (cs5 rs3 : List Value) (m4 : FM) (w5 : World), Kp (5 :: 6 :: rg 8 9 []) m4 m1 → look m4 5 = v5 → HS ⟨S, [], w⟩ S w5 [.osl (v5) (t1).length 1 cs5 rs3 5] → RL S cs5 t1 → K3 (fr 19 m4) w5 := by
  clear H; intro v5 cs5 rs3 m4 w5 k5 q5 H g5
  refine hK3 _ _ <| sr fun K8 hK8 => p_mv (v := v5) q5 <| zaA (r_strO u127 u5 u9 rfl H (k := 0) rfl g5) <| asT rfl <| xk hK8 <| wp_ret ?_
  obtain rfl := osi hF1
  refine e_1 rfl (zbD rfl) ?_
  exact ⟨rfl, H.toExt⟩
 refine sr fun K4 hK4 => asI rfl <| xk hK4 <| wp_block <| zaY fun m2 k2 => bn hE1 fun out1 hL1 hE2 => ?_
 refine zdL (5 :: 6 :: rg 8 9 []) (fun (s1 : Int × (List UInt8)) (m3 : FM) (w2 : World) => ∃ (v2 : Value) (cs2 rs1 : List Value), look m3 5 = v2 ∧ look m3 6 = .int .i64 (s1.1) ∧ HS ⟨S, [], w⟩ S w2 [.osl (v2) (s1.2).length 1 cs2 rs1 5] ∧ RL S cs2 s1.2) hL1 ⟨_, _, _, (show _ = (v1 : Value) from ((k2 5).trans (k1 5))), (k2 6), H, g1⟩ ?_
 clear H; intro k4 s1 m3 w2 k3 hI1 o2 hb1 hh1; obtain ⟨v2, cs2, rs1, q1, q2, H, g2⟩ := hI1
 have q3 : look m3 0 = .int .u8 (((x0).toNat : Int)) := (k3 0 rfl).trans ((k2 0).trans (k1 0))
 have q4 : look m3 1 = .int .i64 (x1) := (k3 1 rfl).trans ((k2 1).trans (k1 1))
 refine wp_seq_k fun K5 hK5 => sr fun K6 hK6 => p_mv q2 <| p_mv q4 <| zaA (zcR rfl rfl) <| xk hK6 ?_
 refine zbR hb1 rfl (fun hb1 hc1 => ?_) fun hb1 hc1 => ?_
 ·refine wp_skip ?_
  refine xn hK5 <| wp_seq_k fun K7 hK7 => wp_block <| wp_region_lit <| p_mv (v := v2) q1 <| p_mv q3 <| zhD (zbO (N := 1) (xs := ([x0] : List UInt8)) (RL.cons rpU8 RL.nil) zhR H rfl rfl rfl) fun w3 v3 cs3 H g3 => bn hb1 fun y1 e1 hb1 => zjF (zcX (k := 1) (v2 := v3) zhR rfl H rfl rfl g2 rfl (H.slW (k := 0) rfl) g3 e1) fun w4 v4 cs4 rs2 H g4 => ?_
  replace H := H.sel [1] rfl
  replace H := hsn H
  refine p_as (v := v4) rfl <| wpList_nil <| zaS <| xn hK7 <| wp_region_lit <| p_mv q2 <| zaA (zcH rfl rfl) <| asI rfl <| wpList_nil ?_
  refine zaG ?_
  obtain rfl := osi hb1
  exact ⟨((w64 (s1.1 + 1)), y1), _, rfl, (kS k3 rfl kcx), ⟨_, _, _, rfl, rfl, H, g4⟩, hh1⟩
 ·refine wp_exit ?_
  refine zaN <| zaN <| zcK <| zaG ?_
  obtain rfl := osi hb1
  obtain rfl := osi hh1
  obtain rfl := osi hE2
  exact J1 _ _ _ _ _ (kS k3 rfl (kN k2 kcx)) (show _ = (v2 : Value) from q1) H g2
def r8_half_p (x0 : List UInt32) (x1 : List UInt32) (x2 : List UInt32) : Option ((List UInt8) × Bool) :=
  Option.bind (r8_Point_p x1) fun y1 => bif y1.1 then (some ((([] : List UInt8), false))) else (Option.bind (zdN 1) fun y2 => Option.bind (zhV y1.2.1 y2) fun y3 => Option.bind (ziI 1 y3 x0) fun y4 => Option.bind (r6_Sum_p 1 x2 y4) fun y5 => Option.bind (zeU 1 x1) fun y6 => Option.bind (ziI 1 y5 y6) fun y7 => Option.bind (zlM y3) fun y8 => Option.bind (bif (!y8) then (some (true)) else (Option.bind (zlM y7) fun y9 => some ((!y9)))) (fun t1 => bif t1 then (some ((([] : List UInt8), false))) else (Option.bind (zlC y3) fun y10 => Option.bind (zlC y7) fun y11 => Option.bind (app y10 y11) fun y12 => some ((y12, true)))))
theorem r8_half_c (hS : Sub S w) {v0_ : Value} {x0 : List UInt32} (h0_ : RdS S v0_ x0) {v1_ : Value} {x1 : List UInt32} (h1_ : RdS S v1_ x1) {v2_ : Value} {x2 : List UInt32} (h2_ : RdS S v2_ x2) {r : (List UInt8) × Bool} (hF : r8_half_p x0 x1 x2 = some r) :
    Calls Tryz.prog 59 #[v0_, v1_, v2_] w fun e w' => e = .returned (.tuple #[str (r.1), .bool (r.2)]) ∧ Ext w w' := by
 refine enter (n := 40) Tryz.func59 rfl rfl rfl ?_
 have H := HS.start hS
 refine sr fun K1 hK1 => asT rfl <| asB rfl <| xk hK1 <| sr fun K2 hK2 => p_mv (v := v1_) rfl <| bn hF fun y1 e1 hF => zaF is37 rfl <| (r8_Point_c H.sub h1_ e1).mono <| H.yc fun w1 c1 S1 hle1 H g1 => ?_
 replace h0_ := h0_.mono hle1
 replace h1_ := h1_.mono hle1
 replace h2_ := h2_.mono hle1
 obtain ⟨c2, c3, rfl, g2, g3⟩ := elP g1
 obtain rfl := elB g2
 obtain ⟨c4, c5, rfl, g4, g5⟩ := elP g3
 obtain ⟨v1, rfl, g6⟩ := elL g4
 obtain ⟨v2, rfl, g7⟩ := elL g5
 refine zdI (zcP (l := ([Value.bool (false)] ++ ([Value.slice none 0 0] ++ ([Value.slice none 0 0])))) H tz65 rfl) fun w2 b1 H => zdB (zbE (k := 0) (l := ([Value.bool (y1.1)] ++ ([v1] ++ ([v2])))) tsz65 H rfl rfl rfl (zaV _) rfl (Rp.one (rpP rpB (rpP (rpL g6) (rpL g7)))) rfl) fun w3 H => xk hK2 <| wp_seq_k fun K3 hK3 => sr fun K4 hK4 => zaA (zaJ fa65_0 rfl) ?_
 refine zaA (zaR (v := .bool (y1.1)) to4 H rfl (k := 0) rfl rfl) <| xk hK4 ?_
 refine zbR hF rfl (fun hF hc1 => ?_) fun hF hc1 => ?_
 ·refine sr fun K5 hK5 => ?_
  refine asT rfl <| asB rfl <| xk hK5 <| wp_ret <| zdC ?_
  obtain rfl := osi hF
  refine e_2 rfl (zbD rfl) (zbD rfl) ?_
  exact ⟨rfl, H.toExt⟩
 ·refine wp_skip ?_
  refine xn hK3 <| wp_seq_k fun K6 hK6 => bn hF fun y2 e2 hF => bn hF fun y3 e3 hF => wrS H 4 [(2, kR S1 w3.drew y2), (3, kR S1 w3.drew y3)] fun vs1 H => ?_
  refine tp (zaJ fa65_1 rfl) <| t_v (fun w hx => zaR (v := v1) to63 (H.ext hx) rfl (k := 0) rfl rfl) <| tcF is71 (fun w hx => zeV (zdD H.sub hx) e2) <| zgB (l := [v1, (vs1 2).v]) rfl rfl (stRd) is70 rfl (fun w hx hF => zkR hx (r6_Left_c (zdD H.sub hx) (g6.mono (zcZ H.sub)) (RdS.mono (zbH hF 2 rfl rfl) (ziJ hF 2 rfl rfl)) e3)) ?_
  refine zbP <| H.tf fun w4 S2 hle2 H gs => ?_
  have g10 := gs 2 rfl rfl
  have g11 := gs 3 rfl rfl
  replace h0_ := h0_.mono hle2
  replace h1_ := h1_.mono hle2
  replace h2_ := h2_.mono hle2
  replace g6 := g6.mono hle2
  replace g7 := g7.mono hle2
  refine p_as (v := (vs1 3).v) rfl <| wpList_nil <| zaP <| xn hK6 <| sr fun K7 hK7 => p_mv (v := v2_) rfl <| p_mv (v := (vs1 3).v) rfl <| p_mv (v := v0_) rfl <| bn hF fun y4 e4 hF => zaF is65 rfl ?_
  refine (r6_Product_c H.sub g11 h0_ e4).mono <| H.ye fun w5 v3 S3 hle3 H g12 => ?_
  replace h0_ := h0_.mono hle3
  replace h1_ := h1_.mono hle3
  replace h2_ := h2_.mono hle3
  replace g6 := g6.mono hle3
  replace g7 := g7.mono hle3
  replace g11 := g11.mono hle3
  refine bn hF fun y5 e5 hF => zaF is106 rfl <| (r6_Sum_c H.sub h2_ g12 e5).mono <| H.ye fun w6 v4 S4 hle4 H g13 => ?_
  replace h1_ := h1_.mono hle4
  replace h2_ := h2_.mono hle4
  replace g6 := g6.mono hle4
  replace g7 := g7.mono hle4
  replace g11 := g11.mono hle4
  replace g12 := g12.mono hle4
  refine p_mv (v := v1_) rfl <| bn hF fun y6 e6 hF => zaF is64 rfl <| (r6_Inverse_c H.sub h1_ e6).mono <| H.ye fun w7 v5 S5 hle5 H g14 => ?_
  replace h1_ := h1_.mono hle5
  replace g6 := g6.mono hle5
  replace g7 := g7.mono hle5
  replace g11 := g11.mono hle5
  replace g13 := g13.mono hle5
  refine bn hF fun y7 e7 hF => zaF is65 rfl <| (r6_Product_c H.sub g13 g14 e7).mono <| H.ye fun w8 v6 S6 hle6 H g15 => ?_
  replace g6 := g6.mono hle6
  replace g7 := g7.mono hle6
  replace g11 := g11.mono hle6
  replace g13 := g13.mono hle6
  replace g14 := g14.mono hle6
  refine p_as (v := v6) rfl <| xk hK7 <| wp_seq_k fun K8 hK8 => sr fun K9 hK9 => p_mv (v := (vs1 3).v) rfl <| bn hF fun y8 e8 hF => zaF is58 rfl <| (r8_fine_c H.sub g11 e8).mono <| H.xe fun w9 H => zaA (zlK (t := (!y8)) rfl rfl) ?_
  refine mvB rfl <| zkU fun m1 k1 => zkX 4 fun K10 hK10 R2 hR2 => bn hF fun t1 hE1 hF1 => ?_
  have J1 : ∀ (m2 : FM) (w11 : World), Kp [31, 32, 33, 34] m2 m1 → look m2 34 = .bool (t1) → HS ⟨S, [], w⟩ S6 w11 [.blk b1 (([Value.bool (y1.1)] ++ ([v1] ++ ([v2])))) 65] → K10 m2 w11 := by
   clear H; intro m2 w11 k2 q1 H
   have q2 : look m2 9 = (vs1 3).v := (k2 9 rfl).trans (k1 9)
   have q3 : look m2 10 = v6 := (k2 10 rfl).trans (k1 10)
   refine hK10 _ _ <| xk hK9 ?_
   refine zcG q1 (fun hc2 => ?_) (fun hc2 => ?_)
   ·replace hF1 := zfK hF1 hc2
    refine sr fun K11 hK11 => asT rfl <| asB rfl <| xk hK11 <| wp_ret <| zdC ?_
    obtain rfl := osi hF1
    refine e_2 rfl (zbD rfl) (zbD rfl) ?_
    exact ⟨rfl, H.toExt⟩
   ·replace hF1 := zfR hF1 hc2
    refine wp_skip <| xn hK8 <| sr fun K12 hK12 => p_mv (v := (vs1 3).v) q2 <| bn hF1 fun y10 e10 hF1 => zaF is54 rfl <| (r8_bytes_c H.sub g11 e10).mono <| H.xe fun w12 H => p_mv (v := v6) q3 <| bn hF1 fun y11 e11 hF1 => ?_
    refine zaF is54 rfl <| (r8_bytes_c H.sub g15 e11).mono <| H.xe fun w13 H => bn hF1 fun y12 e12 hF1 => zaA (r_cat (r := y12) rfl rfl (by have := (zcC e12).1; omega) (zcC e12).2) ?_
    refine asT rfl <| asB rfl <| xk hK12 <| wp_ret ?_
    obtain rfl := osi hF1
    refine e_2 rfl (zbD rfl) (zbD rfl) ?_
    exact ⟨rfl, H.toExt⟩
  refine p_gs (j := 3) (zaI rfl rfl (k1 30)) (fun hb1 => ?_) (fun hb1 => ?_)
  ·replace hE1 := zfK hE1 hb1
   refine zaW (zaI rfl rfl (k1 30)) hb1 ?_
   rw [zaH]
   refine zaW (zaI rfl rfl (k1 30)) hb1 ?_
   rw [zaH]
   refine zaW (zaI rfl rfl (k1 30)) hb1 ?_
   rw [zaH]
   refine zaA (zbQ (v := .bool (true)) (k1 30) hb1 rfl) <| hR2 _ _ ?_
   obtain rfl := osi hE1
   exact J1 _ _ kcx rfl H
  ·replace hE1 := zfR hE1 hb1
   refine zaT (zaI rfl rfl (k1 30)) hb1 <| p_mv (v := v6) (k1 10) <| zaT (zaI rfl rfl (k1 30)) hb1 <| bn hE1 fun y9 e9 hE1 => zaF is58 rfl <| (r8_fine_c H.sub g15 e9).mono <| H.xe fun w10 H => zaT (zaI rfl rfl (k1 30)) hb1 <| zaA (zlK (t := (!y9)) rfl rfl) <| zaA (zaX (v := .bool ((!y9))) (k1 30) hb1 rfl) ?_
   refine hR2 _ _ ?_
   obtain rfl := osi hE1
   exact J1 _ _ kcx rfl H
def r8_Sum_p (x0 : List UInt8) : Option ((List UInt32)) :=
  Option.bind (r4_Sum_p x0) fun y1 => Option.bind (r6_Read_p y1) fun y2 => Option.bind (zdN 1) fun y3 => Option.bind (zhV y2 y3) fun y4 => some (y4)
theorem r8_Sum_c (hS : Sub S w) {x0 : List UInt8} {r : (List UInt32)} (hF : r8_Sum_p x0 = some r) :
    Calls Tryz.prog 52 #[str (x0)] w fun e w' => Ext w w' ∧ ∃ (v0' : Value), e = .returned (v0') ∧ RdS (gr S w w') v0' r := by
 refine enter (n := 8) Tryz.func52 rfl rfl rfl ?_
 have H := HS.start hS
 refine sr fun K1 hK1 => asN rfl <| xk hK1 <| sr fun K2 hK2 => mvT rfl <| bn hF fun y1 e1 hF => zaF is103 rfl <| (r4_Sum_c H.sub e1).mono <| H.xe fun w1 H => bn hF fun y2 e2 hF => ?_
 refine zaF is57 rfl <| (r6_Read_c H.sub e2).mono <| H.ye fun w2 v1 S1 hle1 H g1 => bn hF fun y3 e3 hF => zaF is71 rfl <| (zeV H.sub e3).mono <| H.ye fun w3 v2 S2 hle2 H g2 => ?_
 replace g1 := g1.mono hle2
 refine bn hF fun y4 e4 hF => zaF is70 rfl <| (r6_Left_c H.sub g1 g2 e4).mono <| H.ye fun w4 v3 S3 hle3 H g3 => ?_
 replace g1 := g1.mono hle3
 replace g2 := g2.mono hle3
 refine p_as (v := v3) rfl <| xk hK2 <| wp_ret ?_
 obtain rfl := osi hF
 refine e_1 rfl (zbD rfl) ?_
 exact ⟨H.toExt, _, rfl, RdS.mono g3 H.gr⟩
def ziG (x0 : Qw) (y2 : (List UInt32)) (s1 : (List UInt8) × (List UInt8) × Int) : Option (((List UInt8) × (List UInt8) × Int) ⊕ (((List UInt8) × Int) ⊕ (Unit))) :=
  bif decide (s1.2.2 < 16) then (Option.bind (zfF s1.2.1 s1.1) fun y16 => Option.bind (r6_Read_p y16) fun y17 => jn (Option.bind (zlM y17) fun y18 => bif y18 then (Option.bind (r6_In_p x0) fun y19 => Option.bind (r8_half_p y19 y17 y2) fun y20 => bif y20.2 then (some (.inr ((y20.1, 0)))) else (some (.inl (())))) else (some (.inl (())))) (fun t2 => Option.bind (app y16 ([0] : List UInt8)) fun y21 => Option.bind (zfF s1.2.1 y21) fun y22 => Option.bind (zfF y22 y16) fun y23 => some (.inl ((y23, y22, (w64 (s1.2.2 + 1)))))) (fun e => some (.inr (.inl (e))))) else (some (.inr (.inr (()))))
def r8_Sign_p (x0 : Qw) (x1 : List UInt8) : Option ((List UInt8) × Int) :=
  Option.bind (r8_Fine_p x0) fun y1 => bif (!y1) then (some ((([] : List UInt8), 80))) else (Option.bind (r8_Sum_p x1) fun y2 => Option.bind (r6_Bytes_p x0) fun y3 => Option.bind (zlC y2) fun y4 => Option.bind (app y3 y4) fun y5 => Option.bind (r8_many_p (1 : UInt8) 32) fun y6 => Option.bind (r8_many_p (0 : UInt8) 32) fun y7 => Option.bind (app y6 ([0] : List UInt8)) fun y8 => Option.bind (app y8 y5) fun y9 => Option.bind (zfF y7 y9) fun y10 => Option.bind (zfF y10 y6) fun y11 => Option.bind (app y11 ([1] : List UInt8)) fun y12 => Option.bind (app y12 y5) fun y13 => Option.bind (zfF y10 y13) fun y14 => Option.bind (zfF y14 y11) fun y15 => jn (Option.bind (iter (ziG x0 y2) ((y15, y14, 0))) (fun e => jnO e (fun e1 => some (.inr (e1))) (fun e2 => some (.inl (e2))))) (fun t1 => some ((([] : List UInt8), 81))) (fun e => some (e)))
theorem r8_Sign_c (hS : Sub S w) {x0 : Qw} {x1 : List UInt8} {r : (List UInt8) × Int} (hF : r8_Sign_p x0 x1 = some r) :
    Calls Tryz.prog 13 #[.agg ((cl24 x0)).toArray, str (x1)] w fun e w' => e = .returned (.tuple #[str (r.1), .int .i64 (r.2)]) ∧ Ext w w' := by
 refine enter (n := 72) Tryz.func13 rfl rfl rfl ?_
 have H := HS.start hS
 refine sr fun K1 hK1 => zdI (zkN (l := (cl24 x0)) H rfl) fun w1 b1 H => asT rfl <| asI rfl <| xk hK1 <| wp_seq_k fun K2 hK2 => sr fun K3 hK3 => zaA (zbL (l := (cl24 x0)) tg24 H rfl (k := 0) rfl rfl rfl) <| bn hF fun y1 e1 hF => ?_
 refine zaF is36 rfl <| (r8_Fine_c H.sub e1).mono <| H.xe fun w2 H => zaA (zlK (t := (!y1)) rfl rfl) <| xk hK3 ?_
 refine zbR hF rfl (fun hF hc1 => ?_) fun hF hc1 => ?_
 ·refine sr fun K4 hK4 => ?_
  refine asT rfl <| asI rfl <| xk hK4 <| wp_ret <| zdC ?_
  obtain rfl := osi hF
  refine e_2 rfl (zbD rfl) (zbD rfl) ?_
  exact ⟨rfl, H.toExt⟩
 ·refine wp_skip ?_
  refine xn hK2 <| sr fun K5 hK5 => mvT rfl <| bn hF fun y2 e2 hF => zaF is52 rfl <| (r8_Sum_c H.sub e2).mono <| H.ye fun w3 v1 S1 hle1 H g1 => p_as (v := v1) rfl <| xk hK5 <| sr fun K6 hK6 => ?_
  refine zaA (zbL (l := (cl24 x0)) tg24 H rfl (k := 0) rfl rfl rfl) <| bn hF fun y3 e3 hF => zaF is53 rfl <| (r6_Bytes_c H.sub e3).mono <| H.xe fun w4 H => p_mv (v := v1) rfl <| bn hF fun y4 e4 hF => zaF is54 rfl <| (r8_bytes_c H.sub g1 e4).mono <| H.xe fun w5 H => bn hF fun y5 e5 hF => ?_
  refine zaA (r_cat (r := y5) rfl rfl (by have := (zcC e5).1; omega) (zcC e5).2) ?_
  refine asT rfl <| xk hK6 <| sr fun K7 hK7 => bn hF fun y6 e6 hF => zaF is55 rfl <| (r8_many_c H.sub e6).mono <| H.xe fun w6 H => bn hF fun y7 e7 hF => zaF is55 rfl <| (r8_many_c H.sub e7).mono <| H.xe fun w7 H => ?_
  refine asT rfl <| asT rfl <| xk hK7 <| sr fun K8 hK8 => mvT rfl <| mvT rfl <| bn hF fun y8 e8 hF => zaA (r_cat (r := y8) rfl rfl (by have := (zcC e8).1; omega) (zcC e8).2) ?_
  refine mvT rfl <| bn hF fun y9 e9 hF => zaA (r_cat (r := y9) rfl rfl (by have := (zcC e9).1; omega) (zcC e9).2) ?_
  refine bn hF fun y10 e10 hF => zaF is56 rfl <| (r4_Mac_c H.sub e10).mono <| H.xe fun w8 H => asT rfl <| xk hK8 <| sr fun K9 hK9 => mvT rfl <| mvT rfl <| bn hF fun y11 e11 hF => ?_
  refine zaF is56 rfl <| (r4_Mac_c H.sub e11).mono <| H.xe fun w9 H => asT rfl <| xk hK9 <| sr fun K10 hK10 => mvT rfl <| mvT rfl <| bn hF fun y12 e12 hF => zaA (r_cat (r := y12) rfl rfl (by have := (zcC e12).1; omega) (zcC e12).2) ?_
  refine mvT rfl <| bn hF fun y13 e13 hF => zaA (r_cat (r := y13) rfl rfl (by have := (zcC e13).1; omega) (zcC e13).2) ?_
  refine bn hF fun y14 e14 hF => zaF is56 rfl <| (r4_Mac_c H.sub e14).mono <| H.xe fun w10 H => asT rfl <| xk hK10 <| sr fun K11 hK11 => mvT rfl <| mvT rfl <| bn hF fun y15 e15 hF => ?_
  refine zaF is56 rfl <| (r4_Mac_c H.sub e15).mono <| H.xe fun w11 H => asT rfl <| xk hK11 <| wp_seq_k fun K12 hK12 => zaY fun m1 k1 => ?_
  obtain ⟨o1, hE1, hF1⟩ := jn_some hF
  have J2 : ∀ (t1 : Unit) (S6 : Mem) (m6 : FM) (w21 : World), o1 = .inl t1 → Kp (4 :: 5 :: rg 8 6 (rg 44 28 [])) m6 m1 → Mem.le S1 S6 → HS ⟨S, [], w⟩ S6 w21 [.blk b1 ((cl24 x0)) 24] → K12 (fr 72 m6) w21 := by
   clear H; intro t1 S6 m6 w21 ho k7 hle6 H
   replace g1 := g1.mono hle6
   replace hF1 := jnO_l hF1 ho
   refine hK12 _ _ <| sr fun K25 hK25 => asT rfl <| asI rfl <| xk hK25 <| wp_ret ?_
   obtain rfl := osi hF1
   refine e_2 rfl (zbD rfl) (zbD rfl) ?_
   exact ⟨rfl, H.toExt⟩
  refine sr fun K13 hK13 => asI rfl <| xk hK13 <| wp_block <| zaY fun m2 k2 => bn hE1 fun out1 hL1 hE2 => ?_
  refine zdL (4 :: 5 :: rg 8 6 (rg 44 28 [])) (fun (s1 : (List UInt8) × (List UInt8) × Int) (m3 : FM) (w12 : World) => ∃ (S2 : Mem), look m3 8 = str (s1.1) ∧ look m3 9 = str (s1.2.1) ∧ look m3 10 = .int .i64 (s1.2.2) ∧ Mem.le S1 S2 ∧ HS ⟨S, [], w⟩ S2 w12 [.blk b1 ((cl24 x0)) 24]) hL1 ⟨_, ((k2 8).trans (k1 8)), ((k2 9).trans (k1 9)), (k2 10), (Mem.le_refl _), H⟩ ?_
  clear H; intro k4 s1 m3 w12 k3 hI1 o2 hb1 hh1; obtain ⟨S2, q1, q2, q3, hle2, H⟩ := hI1
  replace g1 := g1.mono hle2
  have q4 : look m3 2 = .pointer (some ⟨b1, 0, none⟩) := (k3 2 rfl).trans ((k2 2).trans (k1 2))
  have q5 : look m3 6 = v1 := (k3 6 rfl).trans ((k2 6).trans (k1 6))
  refine wp_seq_k fun K14 hK14 => sr fun K15 hK15 => p_mv q3 <| zaA (zcR rfl rfl) <| xk hK15 ?_
  refine zbR hb1 rfl (fun hb1 hc2 => ?_) fun hb1 hc2 => ?_
  ·refine wp_skip ?_
   refine xn hK14 <| wp_seq_k fun K16 hK16 => wp_block <| sr fun K17 hK17 => p_mv q2 <| p_mv q1 <| bn hb1 fun y16 e16 hb1 => zaF is56 rfl <| (r4_Mac_c H.sub e16).mono <| H.xe fun w13 H => ?_
   refine asT rfl <| xk hK17 <| sr fun K18 hK18 => mvT rfl <| bn hb1 fun y17 e17 hb1 => zaF is57 rfl <| (r6_Read_c H.sub e17).mono <| H.ye fun w14 v2 S3 hle3 H g2 => ?_
   replace g1 := g1.mono hle3
   refine p_as (v := v2) rfl <| xk hK18 <| wp_seq_k fun K19 hK19 => zaY fun m4 k5 => ?_
   obtain ⟨o3, hE3, hF2⟩ := jn_some hb1
   have J1 : ∀ (t2 : Unit) (S5 : Mem) (m5 : FM) (w18 : World), o3 = .inl t2 → Kp (4 :: 5 :: 12 :: 13 :: rg 53 12 []) m5 m4 → Mem.le S3 S5 → HS ⟨S, [], w⟩ S5 w18 [.blk b1 ((cl24 x0)) 24] → K19 (fr 72 m5) w18 := by
    clear H; intro t2 S5 m5 w18 ho k6 hle5 H
    replace g1 := g1.mono hle5
    replace g2 := g2.mono hle5
    replace hF2 := jnO_l hF2 ho
    have q6 := (k6 2 rfl).trans ((k5 2).trans q4)
    have q7 := (k6 6 rfl).trans ((k5 6).trans q5)
    have q8 : look m5 8 = str (y16) := (k6 8 rfl).trans (k5 8)
    have q9 := (k6 9 rfl).trans ((k5 9).trans q2)
    have q10 := (k6 10 rfl).trans ((k5 10).trans q3)
    refine hK19 _ _ <| sr fun K24 hK24 => p_mv q9 <| p_mv q8 <| bn hF2 fun y21 e21 hF2 => zaA (r_cat (r := y21) rfl rfl (by have := (zcC e21).1; omega) (zcC e21).2) ?_
    refine bn hF2 fun y22 e22 hF2 => zaF is56 rfl <| (r4_Mac_c H.sub e22).mono <| H.xe fun w19 H => asT rfl <| xk hK24 <| wp_region_lit <| mvT rfl <| p_mv q8 <| bn hF2 fun y23 e23 hF2 => ?_
    refine zaF is56 rfl <| (r4_Mac_c H.sub e23).mono <| H.xe fun w20 H => asT rfl <| wpList_nil <| zaS <| xn hK16 <| wp_region_lit <| p_mv q10 <| zaA (zcH rfl rfl) ?_
    refine asI rfl <| wpList_nil <| zaG ?_
    obtain rfl := osi hF2
    exact ⟨(y23, y22, (w64 (s1.2.2 + 1))), _, rfl, (kS k6 rfl (kN k5 (kS k3 rfl kcx))), ⟨_, rfl, rfl, rfl, (Mem.le_trans hle2 (Mem.le_trans hle3 hle5)), H⟩, hh1⟩
   refine sr fun K20 hK20 => p_mv (v := v2) (k5 11) <| bn hE3 fun y18 e18 hE3 => zaF is58 rfl <| (r8_fine_c H.sub g2 e18).mono <| H.xe fun w15 H => xk hK20 ?_
   refine zbR hE3 rfl (fun hE3 hc3 => ?_) fun hE3 hc3 => ?_
   ·refine sr fun K21 hK21 => ?_
    refine zaA (zbL (l := (cl24 x0)) tg24 H ((k5 2).trans q4) (k := 0) rfl rfl rfl) <| bn hE3 fun y19 e19 hE3 => zaF is38 rfl <| (r6_In_c H.sub e19).mono <| H.ye fun w16 v3 S4 hle4 H g3 => ?_
    replace g1 := g1.mono hle4
    replace g2 := g2.mono hle4
    refine p_mv (v := v2) (k5 11) <| p_mv (v := v1) ((k5 6).trans q5) <| bn hE3 fun y20 e20 hE3 => zaF is59 rfl <| (r8_half_c H.sub g3 g2 g1 e20).mono <| H.xe fun w17 H => mvU rfl <| zaA (zaM (v := str (y20.1)) rfl rfl) <| zaA (zaM (v := .bool (y20.2)) rfl rfl) <| asT rfl ?_
    refine asB rfl <| xk hK21 <| sr fun K22 hK22 => mvB rfl <| xk hK22 ?_
    refine zbR hE3 rfl (fun hE3 hc4 => ?_) fun hE3 hc4 => ?_
    ·refine sr fun K23 hK23 => ?_
     refine mvT rfl <| asT rfl <| asI rfl <| xk hK23 <| wp_ret <| zdC <| b_ret <| zdC <| zdC ?_
     refine b_ret <| zdC ?_
     obtain rfl := osi hE3
     obtain rfl := osi hF2
     obtain rfl := osi hh1
     obtain rfl := osi hE2
     obtain rfl := osi hF1
     refine e_2 rfl (zbD rfl) (zbD rfl) ?_
     exact ⟨rfl, H.toExt⟩
    ·refine wp_skip ?_
     refine zaG ?_
     obtain rfl := osi hE3
     exact J1 _ _ _ _ rfl kcx hle4 H
   ·refine wp_skip ?_
    refine zaG ?_
    obtain rfl := osi hE3
    exact J1 _ _ _ _ rfl kcx (Mem.le_refl _) H
  ·refine wp_exit ?_
   refine zaN <| zaN <| zcK <| zaG ?_
   obtain rfl := osi hb1
   obtain rfl := osi hh1
   obtain rfl := osi hE2
   exact J2 _ _ _ _ rfl (kS k3 rfl (kN k2 kcx)) hle2 H
theorem u37 : Tryz.prog.underlying 37 = some (.pointer 103) := by kernel_rfl
theorem u40 : Tryz.prog.underlying 40 = some (.slice 9) := by kernel_rfl
theorem eg37 : Tryz.prog.eqGuardType Tryz.prog.depth 37 = false := by kernel_rfl
theorem is9 : IsFn Tryz.prog 9 := isFn Tryz.func9
theorem is11 : IsFn Tryz.prog 11 := isFn Tryz.func11
theorem is12 : IsFn Tryz.prog 12 := isFn Tryz.func12
theorem is13 : IsFn Tryz.prog 13 := isFn Tryz.func13
theorem is14 : IsFn Tryz.prog 14 := isFn Tryz.func14
theorem is16 : IsFn Tryz.prog 16 := isFn Tryz.func16
theorem is17 : IsFn Tryz.prog 17 := isFn Tryz.func17
theorem is19 : IsFn Tryz.prog 19 := isFn Tryz.func19
theorem is21 : IsFn Tryz.prog 21 := isFn Tryz.func21
theorem is26 : IsFn Tryz.prog 26 := isFn Tryz.func26
theorem eqt26 (x y : Qp) : EqR Tryz.prog 3 26 (.agg (cl26 x).toArray) (.agg (cl26 y).toArray) (x == y) :=
  EqR.str (fs := fieldsOf Tryz.prog 26) (by kernel_rfl) (by kernel_rfl) (by kernel_rfl) (l := [(24, 0), (24, 4), (4, 8)]) (by kernel_rfl) (EqL.cons (partA tg24 rfl) (partA tg24 rfl) (eqt24 x.1 y.1) (EqL.cons (partA tg24 rfl) (partA tg24 rfl) (eqt24 x.2.1 y.2.1) (EqL.last (part1 (v := Value.bool (x.2.2)) to4 rfl) (part1 (v := Value.bool (y.2.2)) to4 rfl) ((eqB u4).le 2 (Nat.le_of_ble_eq_true rfl)))))
noncomputable def l8_fixed_p  : Option (Bool) :=
  Option.bind (zhK ((1, 0, 0, 0) : Qw)) fun y1 => Option.bind (zhK ((0, 0, 0, 0) : Qw)) fun y2 => Option.bind (zlL 1) fun y3 => Option.bind (ziB y3 ([] : List UInt8)) fun y4 => Option.bind (zjW ([97] : List UInt8)) fun y5 => Option.bind (zdY y5 ([97] : List UInt8)) fun y6 => Option.bind (bif (y6.1 != 80) then (some ((true, y6.2))) else (Option.bind (zdY y6.2 ([98] : List UInt8)) fun y7 => some (((y7.1 != 0), y7.2)))) (fun t1 => Option.bind (bif t1.1 then (some (true)) else (Option.bind (zgM (some t1.2)) fun y8 => some ((((y8).length : Int) != 2)))) (fun t2 => bif t2 then (some (false)) else (Option.bind (zhE (some t1.2) ([115] : List UInt8)) fun y9 => Option.bind (ziN) fun y10 => bif ((y1.1 : Qp) == (y10 : Qp)) then (bif (y1.2 == 0) then (bif (y2.2 == 80) then (bif (y4.2 == 80) then (Option.bind (zdR (some t1.2) y9.1 ([115] : List UInt8) y9.2) fun y11 => bif y11 then (Option.bind (zdR (some t1.2) ([] : List UInt8) ([115] : List UInt8) y9.2) fun y12 => bif (!y12) then (Option.bind (sign_Verify_p y1.1 ([] : List UInt8) ([] : List UInt8)) fun y13 => some ((bif (bif (bif (bif (!y13) then true else false) then true else false) then true else false) then true else false))) else (some (false))) else (some (false))) else (some (false))) else (some (false))) else (some (false))) else (some (false)))))
set_option maxRecDepth 20000 in
set_option maxHeartbeats 2000000 in
theorem l8_fixed_c (hS : Sub S w)  {r : Bool} (hF : l8_fixed_p = some r) :
    Calls Tryz.prog 11 #[] w fun e w' => e = .returned (.bool (r)) ∧ Ext w w' := by
 refine enter (n := 89) Tryz.func11 rfl rfl rfl ?_
 have H := HS.start hS
 refine sr fun K1 hK1 => asB rfl <| xk hK1 <| sr fun K2 hK2 => zaA (zbC (vals := [(0, .int .u64 (1))]) (l := (cl24 ((1, 0, 0, 0) : Qw))) tb24 rfl rfl) <| bn hF fun y1 e1 hF => zaF is9 rfl <| (sign_Public_c H.sub e1).mono <| H.xe fun w1 H => mvU rfl ?_
 refine zaA (zaM (v := .agg ((cl26 y1.1)).toArray) rfl rfl) <| zaA (zaM (v := .int .i64 (y1.2)) rfl rfl) <| zdI (zcP (l := (cl26 (((0, 0, 0, 0) : Qw), ((0, 0, 0, 0) : Qw), false))) H tz26 rfl) fun w2 b1 H => zdB (zbE (k := 0) (l := (cl26 y1.1)) tsz26 H rfl rfl rfl (zaV _) rfl (onz rfl) rfl) fun w3 H => asI rfl <| xk hK2 <| sr fun K3 hK3 => ?_
 refine zaA (zbC (vals := []) (l := (cl24 ((0, 0, 0, 0) : Qw))) tb24 rfl rfl) <| bn hF fun y2 e2 hF => zaF is9 rfl <| (sign_Public_c H.sub e2).mono <| H.xe fun w4 H => mvU rfl <| zaA (zaM (v := .agg ((cl26 y2.1)).toArray) rfl rfl) <| zaA (zaM (v := .int .i64 (y2.2)) rfl rfl) <| zdI (zcP (l := (cl26 (((0, 0, 0, 0) : Qw), ((0, 0, 0, 0) : Qw), false))) H tz26 rfl) fun w5 b2 H => ?_
 refine zdB (zbE (k := 0) (l := (cl26 y2.1)) tsz26 H rfl rfl rfl (zaV _) rfl (onz rfl) rfl) fun w6 H => asI rfl <| xk hK3 <| sr fun K4 hK4 => bn hF fun y3 e3 hF => zaF is40 rfl <| (field_Modulus_c H.sub e3).mono <| H.xe fun w7 H => bn hF fun y4 e4 hF => zaF is12 rfl ?_
 refine (sign_Sign_c H.sub e4).mono <| H.xe fun w8 H => mvU rfl <| zaA (zaM (v := str (y4.1)) rfl rfl) <| zaA (zaM (v := .int .i64 (y4.2)) rfl rfl) <| asT rfl <| asI rfl <| xk hK4 <| sr fun K5 hK5 => bn hF fun y5 e5 hF => ?_
 refine zaF is16 rfl <| (sign_NewRing_c (H.hand [] rfl) e5).mono ?_; rintro _ w9 ⟨S1, pb1, pv1, pcs1, prs1, rfl, H2, pg1⟩
 obtain ⟨H1, hle1⟩ := H.frame [] [0, 1] rfl H2; clear H H2; have H := H1; clear H1
 replace H := hsn H
 refine asP rfl <| xk hK5 <| wp_seq_k fun K6 hK6 => sr fun K7 hK7 => mvP rfl <| zaA (r_eqPn u37 eg37 rfl rfl) <| mvB rfl <| zaT rfl rfl <| mvP rfl ?_
 refine zaT rfl rfl <| bn hF fun y6 e6 hF => zaF is17 rfl <| (sign_Ring_Turn_c (H.hand [0, 1] rfl) pg1 e6).mono ?_; rintro _ w10 ⟨S2, pv2, pcs2, prs2, rfl, H2, pg2⟩
 obtain ⟨H1, hle2⟩ := H.frame [0, 1] [2, 3] rfl H2; clear H H2; have H := H1; clear H1
 replace H := hsn H
 refine zaT rfl rfl <| zaA (r_neqI rfl rfl) <| zaA (zaX (v := .bool ((y6.1 != 80))) rfl rfl rfl) <| mvB rfl <| zkU fun m1 k1 => zkX 4 fun K8 hK8 R6 hR6 => bn hF fun t1 hE1 hF1 => ?_
 have J2 : ∀ (v1 : Value) (cs1 rs1 : List Value) (S4 : Mem) (m2 : FM) (w12 : World), Kp [34, 35, 36, 37] m2 m1 → look m2 37 = .bool (t1.1) → Mem.le S2 S4 → HS ⟨S, [], w⟩ S4 w12 [.blk pb1 (([v1])) 103, .osl (v1) (t1.2).length 1 cs1 rs1 99, .blk b2 ((cl26 y2.1)) 26, .blk b1 ((cl26 y1.1)) 26] → RL S4 cs1 t1.2 → K8 m2 w12 := by
  clear H; intro v1 cs1 rs1 S4 m2 w12 k2 q1 hle4 H g1
  have q2 : look m2 1 = .pointer (some ⟨b1, 0, none⟩) := (k2 1 rfl).trans (k1 1)
  have q3 : look m2 2 = .int .i64 (y1.2) := (k2 2 rfl).trans (k1 2)
  have q4 : look m2 4 = .int .i64 (y2.2) := (k2 4 rfl).trans (k1 4)
  have q5 : look m2 6 = .int .i64 (y4.2) := (k2 6 rfl).trans (k1 6)
  have q6 : look m2 7 = .pointer (some ⟨pb1, 0, none⟩) := (k2 7 rfl).trans (k1 7)
  refine hK8 _ _ <| p_mv q1 <| zkU fun m3 k3 => zkX 5 fun K9 hK9 R8 hR8 => bn hF1 fun t2 hE2 hF2 => ?_
  have J1 : ∀ (m4 : FM) (w14 : World), Kp [39, 40, 41, 42, 43] m4 m3 → look m4 43 = .bool (t2) → HS ⟨S, [], w⟩ S4 w14 [.blk pb1 (([v1])) 103, .osl (v1) (t1.2).length 1 cs1 rs1 99, .blk b2 ((cl26 y2.1)) 26, .blk b1 ((cl26 y1.1)) 26] → K9 m4 w14 := by
   clear H; intro m4 w14 k4 q7 H
   have q8 := (k4 1 rfl).trans ((k3 1).trans q2)
   have q9 := (k4 2 rfl).trans ((k3 2).trans q3)
   have q10 := (k4 4 rfl).trans ((k3 4).trans q4)
   have q11 := (k4 6 rfl).trans ((k3 6).trans q5)
   have q12 := (k4 7 rfl).trans ((k3 7).trans q6)
   refine hK9 _ _ <| xk hK7 ?_
   refine zcG q7 (fun hc1 => ?_) (fun hc1 => ?_)
   ·replace hF2 := zfK hF2 hc1
    refine sr fun K10 hK10 => asB rfl <| xk hK10 <| wp_ret <| zdC ?_
    obtain rfl := osi hF2
    refine e_1 rfl (zbD rfl) ?_
    exact ⟨rfl, H.toExt⟩
   ·replace hF2 := zfR hF2 hc1
    refine wp_skip <| xn hK6 <| sr fun K11 hK11 => p_mv (v := .pointer (some ⟨pb1, 0, none⟩)) q12 <| bn hF2 fun y9 e9 hF2 => zaF is19 rfl <| (sign_Ring_Mac_c (subMem w14) (rpK (HS.blkAt H (k := 0) rfl) (rpL (RdS.ofOwn H (k := 1) rfl g1))) e9).mono <| H.xe fun w15 H => mvU rfl <| zaA (zaM (v := str (y9.1)) rfl rfl) ?_
    refine zaA (zaM (v := str (y9.2)) rfl rfl) <| asT rfl <| asT rfl <| xk hK11 <| wp_seq_k fun K12 hK12 => bn hF2 fun y10 e10 hF2 => ?_
    rcases Bool.eq_false_or_eq_true (((y1.1 : Qp) == (y10 : Qp))) with hb3 | hb3
    ·replace hF2 := zfK hF2 hb3
     rcases Bool.eq_false_or_eq_true ((y1.2 == 0)) with hb4 | hb4
     ·replace hF2 := zfK hF2 hb4
      rcases Bool.eq_false_or_eq_true ((y2.2 == 80)) with hb5 | hb5
      ·replace hF2 := zfK hF2 hb5
       rcases Bool.eq_false_or_eq_true ((y4.2 == 80)) with hb6 | hb6
       ·replace hF2 := zfK hF2 hb6
        refine bn hF2 fun y11 e11 hF2 => ?_
        rcases Bool.eq_false_or_eq_true (y11) with hb7 | hb7
        ·replace hF2 := zfK hF2 hb7
         refine bn hF2 fun y12 e12 hF2 => ?_
         rcases Bool.eq_false_or_eq_true ((!y12)) with hb8 | hb8
         ·replace hF2 := zfK hF2 hb8
          refine bn hF2 fun y13 e13 hF2 => wrS H 40 [(1, .inl (.agg ((cl26 y10)).toArray)), (19, .inl (.bool (y11))), (24, .inl (.bool (y12))), (29, .inl (.bool (y13)))] fun vs1 H => ?_
          refine t_v (fun w hx => zbL (l := (cl26 y1.1)) tg26 (H.ext hx) q8 (k := 3) rfl rfl rfl) <| tcx is41 (fun w hx => zfX (H.ext hx).sub e10) <| tp (r_eqR eg26 (by decide) (eqt26 y1.1 y10) rfl rfl) <| tp (zaC (v := .bool (((y1.1 : Qp) == (y10 : Qp)))) rfl) <| zbX rfl hb3 (fun w hx => zaC q9) rfl rfl <| zbX rfl hb3 (fun w hx => zdS rfl rfl) rfl rfl ?_
          refine tp (zbQ (v := .bool ((y1.2 == 0))) rfl hb3 rfl) <| tp (zaC (v := .bool ((y1.2 == 0))) rfl) <| zbX rfl hb4 (fun w hx => zaC q10) rfl rfl <| zbX rfl hb4 (fun w hx => zdS rfl rfl) rfl rfl <| tp (zbQ (v := .bool ((y2.2 == 80))) rfl hb4 rfl) <| tp (zaC (v := .bool ((y2.2 == 80))) rfl) <| zbX rfl hb5 (fun w hx => zaC q11) rfl rfl ?_
          refine zbX rfl hb5 (fun w hx => zdS rfl rfl) rfl rfl <| tp (zbQ (v := .bool ((y4.2 == 80))) rfl hb5 rfl) <| tp (zaC (v := .bool ((y4.2 == 80))) rfl) <| zbX rfl hb6 (fun w hx => zaC (v := .pointer (some ⟨pb1, 0, none⟩)) q12) rfl rfl <| zbX rfl hb6 (fun w hx => zaC (v := str (y9.1)) rfl) rfl rfl <| zbX rfl hb6 (fun w hx => zaC (v := str (y9.2)) rfl) rfl rfl ?_
          refine zjK rfl hb6 (l := [.pointer (some ⟨pb1, 0, none⟩), str (y9.1), str (([115] : List UInt8)), str (y9.2)]) rfl rfl is21 rfl (fun w hx hF => (zfL (subMem w) (rpK (HS.blkAt (H.ext hx) (k := 0) rfl) (rpL (RdS.ofOwn (H.ext hx) (k := 1) rfl g1))) e11).mono (fun _ _ h => h)) <| tp (zbQ (v := .bool (y11)) rfl hb6 rfl) <| tp (zaC (v := .bool (y11)) rfl) ?_
          refine zbX rfl hb7 (fun w hx => zaC (v := .pointer (some ⟨pb1, 0, none⟩)) q12) rfl rfl <| zbX rfl hb7 (fun w hx => zaC (v := str (y9.2)) rfl) rfl rfl ?_
          refine zjK rfl hb7 (l := [.pointer (some ⟨pb1, 0, none⟩), str (([] : List UInt8)), str (([115] : List UInt8)), str (y9.2)]) rfl rfl is21 rfl (fun w hx hF => (zfL (subMem w) (rpK (HS.blkAt (H.ext hx) (k := 0) rfl) (rpL (RdS.ofOwn (H.ext hx) (k := 1) rfl g1))) e12).mono (fun _ _ h => h)) <| zbX rfl hb7 (fun w hx => zlK (t := (!y12)) rfl rfl) rfl rfl ?_
          refine tp (zbQ (v := .bool ((!y12))) rfl hb7 rfl) <| tp (zaC (v := .bool ((!y12))) rfl) <| zbX rfl hb8 (fun w hx => zbL (l := (cl26 y1.1)) tg26 (H.ext hx) q8 (k := 3) rfl rfl rfl) rfl rfl <| zjK rfl hb8 (l := [.agg ((cl26 y1.1)).toArray, str (([] : List UInt8)), str (([] : List UInt8))]) rfl rfl is14 rfl (fun w hx hF => (sign_Verify_c (H.ext hx).sub e13).mono (fun _ _ h => h)) ?_
          refine zbX rfl hb8 (fun w hx => zlK (t := (!y13)) rfl rfl) rfl rfl <| tp (zbQ (v := .bool ((!y13))) rfl hb8 rfl) <| tp (zaC (v := .bool ((!y13))) rfl) <| tp (r_pick (t := (bif (!y13) then true else false)) rfl rfl rfl rfl) <| tp (zaC (v := .bool ((bif (!y13) then true else false))) rfl) <| tp (r_pick (t := (bif (bif (!y13) then true else false) then true else false)) rfl rfl rfl rfl) ?_
          refine tp (zaC (v := .bool ((bif (bif (!y13) then true else false) then true else false))) rfl) <| tp (r_pick (t := (bif (bif (bif (!y13) then true else false) then true else false) then true else false)) rfl rfl rfl rfl) <| tp (zaC (v := .bool ((bif (bif (bif (!y13) then true else false) then true else false) then true else false))) rfl) ?_
          refine tp (r_pick (t := (bif (bif (bif (bif (!y13) then true else false) then true else false) then true else false) then true else false)) rfl rfl rfl rfl) <| zbP <| H.tn fun w16 H => asB rfl <| wpList_nil <| zaP <| xn hK12 <| wp_ret ?_
          obtain rfl := osi hF2
          refine e_1 rfl (zbD rfl) ?_
          exact ⟨rfl, H.toExt⟩
         ·replace hF2 := zfR hF2 hb8
          refine wrS H 40 [(1, .inl (.agg ((cl26 y10)).toArray)), (19, .inl (.bool (y11))), (24, .inl (.bool (y12)))] fun vs1 H => ?_
          refine t_v (fun w hx => zbL (l := (cl26 y1.1)) tg26 (H.ext hx) q8 (k := 3) rfl rfl rfl) <| tcx is41 (fun w hx => zfX (H.ext hx).sub e10) <| tp (r_eqR eg26 (by decide) (eqt26 y1.1 y10) rfl rfl) <| tp (zaC (v := .bool (((y1.1 : Qp) == (y10 : Qp)))) rfl) <| zbX rfl hb3 (fun w hx => zaC q9) rfl rfl <| zbX rfl hb3 (fun w hx => zdS rfl rfl) rfl rfl ?_
          refine tp (zbQ (v := .bool ((y1.2 == 0))) rfl hb3 rfl) <| tp (zaC (v := .bool ((y1.2 == 0))) rfl) <| zbX rfl hb4 (fun w hx => zaC q10) rfl rfl <| zbX rfl hb4 (fun w hx => zdS rfl rfl) rfl rfl <| tp (zbQ (v := .bool ((y2.2 == 80))) rfl hb4 rfl) <| tp (zaC (v := .bool ((y2.2 == 80))) rfl) <| zbX rfl hb5 (fun w hx => zaC q11) rfl rfl ?_
          refine zbX rfl hb5 (fun w hx => zdS rfl rfl) rfl rfl <| tp (zbQ (v := .bool ((y4.2 == 80))) rfl hb5 rfl) <| tp (zaC (v := .bool ((y4.2 == 80))) rfl) <| zbX rfl hb6 (fun w hx => zaC (v := .pointer (some ⟨pb1, 0, none⟩)) q12) rfl rfl <| zbX rfl hb6 (fun w hx => zaC (v := str (y9.1)) rfl) rfl rfl <| zbX rfl hb6 (fun w hx => zaC (v := str (y9.2)) rfl) rfl rfl ?_
          refine zjK rfl hb6 (l := [.pointer (some ⟨pb1, 0, none⟩), str (y9.1), str (([115] : List UInt8)), str (y9.2)]) rfl rfl is21 rfl (fun w hx hF => (zfL (subMem w) (rpK (HS.blkAt (H.ext hx) (k := 0) rfl) (rpL (RdS.ofOwn (H.ext hx) (k := 1) rfl g1))) e11).mono (fun _ _ h => h)) <| tp (zbQ (v := .bool (y11)) rfl hb6 rfl) <| tp (zaC (v := .bool (y11)) rfl) ?_
          refine zbX rfl hb7 (fun w hx => zaC (v := .pointer (some ⟨pb1, 0, none⟩)) q12) rfl rfl <| zbX rfl hb7 (fun w hx => zaC (v := str (y9.2)) rfl) rfl rfl ?_
          refine zjK rfl hb7 (l := [.pointer (some ⟨pb1, 0, none⟩), str (([] : List UInt8)), str (([115] : List UInt8)), str (y9.2)]) rfl rfl is21 rfl (fun w hx hF => (zfL (subMem w) (rpK (HS.blkAt (H.ext hx) (k := 0) rfl) (rpL (RdS.ofOwn (H.ext hx) (k := 1) rfl g1))) e12).mono (fun _ _ h => h)) <| zbX rfl hb7 (fun w hx => zlK (t := (!y12)) rfl rfl) rfl rfl ?_
          refine tp (zbQ (v := .bool ((!y12))) rfl hb7 rfl) <| tp (zaC (v := .bool ((!y12))) rfl) <| zbB rfl hb8 rfl ?_
          rw [zaH]
          refine zbB rfl hb8 rfl ?_
          rw [zaH]
          refine zbB rfl hb8 rfl ?_
          rw [zaH]
          refine tp (zaX (v := .bool (false)) rfl hb8 rfl) <| tp (zaC (v := .bool (false)) rfl) <| tp (zaX (v := .bool (false)) rfl rfl rfl) <| tp (zaC (v := .bool (false)) rfl) <| tp (zaX (v := .bool (false)) rfl rfl rfl) <| tp (zaC (v := .bool (false)) rfl) <| tp (zaX (v := .bool (false)) rfl rfl rfl) <| tp (zaC (v := .bool (false)) rfl) <| tp (zaX (v := .bool (false)) rfl rfl rfl) ?_
          refine zbP <| H.tn fun w17 H => asB rfl <| wpList_nil <| zaP <| xn hK12 <| wp_ret ?_
          obtain rfl := osi hF2
          refine e_1 rfl (zbD rfl) ?_
          exact ⟨rfl, H.toExt⟩
        ·replace hF2 := zfR hF2 hb7
         refine wrS H 40 [(1, .inl (.agg ((cl26 y10)).toArray)), (19, .inl (.bool (y11)))] fun vs1 H => ?_
         refine t_v (fun w hx => zbL (l := (cl26 y1.1)) tg26 (H.ext hx) q8 (k := 3) rfl rfl rfl) <| tcx is41 (fun w hx => zfX (H.ext hx).sub e10) <| tp (r_eqR eg26 (by decide) (eqt26 y1.1 y10) rfl rfl) <| tp (zaC (v := .bool (((y1.1 : Qp) == (y10 : Qp)))) rfl) <| zbX rfl hb3 (fun w hx => zaC q9) rfl rfl <| zbX rfl hb3 (fun w hx => zdS rfl rfl) rfl rfl ?_
         refine tp (zbQ (v := .bool ((y1.2 == 0))) rfl hb3 rfl) <| tp (zaC (v := .bool ((y1.2 == 0))) rfl) <| zbX rfl hb4 (fun w hx => zaC q10) rfl rfl <| zbX rfl hb4 (fun w hx => zdS rfl rfl) rfl rfl <| tp (zbQ (v := .bool ((y2.2 == 80))) rfl hb4 rfl) <| tp (zaC (v := .bool ((y2.2 == 80))) rfl) <| zbX rfl hb5 (fun w hx => zaC q11) rfl rfl ?_
         refine zbX rfl hb5 (fun w hx => zdS rfl rfl) rfl rfl <| tp (zbQ (v := .bool ((y4.2 == 80))) rfl hb5 rfl) <| tp (zaC (v := .bool ((y4.2 == 80))) rfl) <| zbX rfl hb6 (fun w hx => zaC (v := .pointer (some ⟨pb1, 0, none⟩)) q12) rfl rfl <| zbX rfl hb6 (fun w hx => zaC (v := str (y9.1)) rfl) rfl rfl <| zbX rfl hb6 (fun w hx => zaC (v := str (y9.2)) rfl) rfl rfl ?_
         refine zjK rfl hb6 (l := [.pointer (some ⟨pb1, 0, none⟩), str (y9.1), str (([115] : List UInt8)), str (y9.2)]) rfl rfl is21 rfl (fun w hx hF => (zfL (subMem w) (rpK (HS.blkAt (H.ext hx) (k := 0) rfl) (rpL (RdS.ofOwn (H.ext hx) (k := 1) rfl g1))) e11).mono (fun _ _ h => h)) <| tp (zbQ (v := .bool (y11)) rfl hb6 rfl) <| tp (zaC (v := .bool (y11)) rfl) <| zbB rfl hb7 rfl ?_
         rw [zaH]
         refine zbB rfl hb7 rfl ?_
         rw [zaH]
         refine zbB rfl hb7 rfl ?_
         rw [zaH]
         refine zbB rfl hb7 rfl ?_
         rw [zaH]
         refine tp (zaX (v := .bool (false)) rfl hb7 rfl) <| tp (zaC (v := .bool (false)) rfl) <| zbB rfl rfl rfl ?_
         rw [zaH]
         refine zbB rfl rfl rfl ?_
         rw [zaH]
         refine zbB rfl rfl rfl ?_
         rw [zaH]
         refine tp (zaX (v := .bool (false)) rfl rfl rfl) <| tp (zaC (v := .bool (false)) rfl) <| tp (zaX (v := .bool (false)) rfl rfl rfl) <| tp (zaC (v := .bool (false)) rfl) <| tp (zaX (v := .bool (false)) rfl rfl rfl) <| tp (zaC (v := .bool (false)) rfl) <| tp (zaX (v := .bool (false)) rfl rfl rfl) <| tp (zaC (v := .bool (false)) rfl) <| tp (zaX (v := .bool (false)) rfl rfl rfl) ?_
         refine zbP <| H.tn fun w18 H => asB rfl <| wpList_nil <| zaP <| xn hK12 <| wp_ret ?_
         obtain rfl := osi hF2
         refine e_1 rfl (zbD rfl) ?_
         exact ⟨rfl, H.toExt⟩
       ·replace hF2 := zfR hF2 hb6
        refine wrS H 40 [(1, .inl (.agg ((cl26 y10)).toArray))] fun vs1 H => ?_
        refine t_v (fun w hx => zbL (l := (cl26 y1.1)) tg26 (H.ext hx) q8 (k := 3) rfl rfl rfl) <| tcx is41 (fun w hx => zfX (H.ext hx).sub e10) <| tp (r_eqR eg26 (by decide) (eqt26 y1.1 y10) rfl rfl) <| tp (zaC (v := .bool (((y1.1 : Qp) == (y10 : Qp)))) rfl) <| zbX rfl hb3 (fun w hx => zaC q9) rfl rfl <| zbX rfl hb3 (fun w hx => zdS rfl rfl) rfl rfl ?_
        refine tp (zbQ (v := .bool ((y1.2 == 0))) rfl hb3 rfl) <| tp (zaC (v := .bool ((y1.2 == 0))) rfl) <| zbX rfl hb4 (fun w hx => zaC q10) rfl rfl <| zbX rfl hb4 (fun w hx => zdS rfl rfl) rfl rfl <| tp (zbQ (v := .bool ((y2.2 == 80))) rfl hb4 rfl) <| tp (zaC (v := .bool ((y2.2 == 80))) rfl) <| zbX rfl hb5 (fun w hx => zaC q11) rfl rfl ?_
        refine zbX rfl hb5 (fun w hx => zdS rfl rfl) rfl rfl <| tp (zbQ (v := .bool ((y4.2 == 80))) rfl hb5 rfl) <| tp (zaC (v := .bool ((y4.2 == 80))) rfl) <| zbB rfl hb6 rfl ?_
        rw [zaH]
        refine zbB rfl hb6 rfl ?_
        rw [zaH]
        refine zbB rfl hb6 rfl ?_
        rw [zaH]
        refine zbB rfl hb6 rfl ?_
        rw [zaH]
        refine tp (zaX (v := .bool (false)) rfl hb6 rfl) <| tp (zaC (v := .bool (false)) rfl) <| zbB rfl rfl rfl ?_
        rw [zaH]
        refine zbB rfl rfl rfl ?_
        rw [zaH]
        refine zbB rfl rfl rfl ?_
        rw [zaH]
        refine zbB rfl rfl rfl ?_
        rw [zaH]
        refine tp (zaX (v := .bool (false)) rfl rfl rfl) <| tp (zaC (v := .bool (false)) rfl) <| zbB rfl rfl rfl ?_
        rw [zaH]
        refine zbB rfl rfl rfl ?_
        rw [zaH]
        refine zbB rfl rfl rfl ?_
        rw [zaH]
        refine tp (zaX (v := .bool (false)) rfl rfl rfl) <| tp (zaC (v := .bool (false)) rfl) <| tp (zaX (v := .bool (false)) rfl rfl rfl) <| tp (zaC (v := .bool (false)) rfl) <| tp (zaX (v := .bool (false)) rfl rfl rfl) <| tp (zaC (v := .bool (false)) rfl) <| tp (zaX (v := .bool (false)) rfl rfl rfl) <| tp (zaC (v := .bool (false)) rfl) <| tp (zaX (v := .bool (false)) rfl rfl rfl) ?_
        refine zbP <| H.tn fun w19 H => asB rfl <| wpList_nil <| zaP <| xn hK12 <| wp_ret ?_
        obtain rfl := osi hF2
        refine e_1 rfl (zbD rfl) ?_
        exact ⟨rfl, H.toExt⟩
      ·replace hF2 := zfR hF2 hb5
       refine wrS H 40 [(1, .inl (.agg ((cl26 y10)).toArray))] fun vs1 H => ?_
       refine t_v (fun w hx => zbL (l := (cl26 y1.1)) tg26 (H.ext hx) q8 (k := 3) rfl rfl rfl) <| tcx is41 (fun w hx => zfX (H.ext hx).sub e10) <| tp (r_eqR eg26 (by decide) (eqt26 y1.1 y10) rfl rfl) <| tp (zaC (v := .bool (((y1.1 : Qp) == (y10 : Qp)))) rfl) <| zbX rfl hb3 (fun w hx => zaC q9) rfl rfl <| zbX rfl hb3 (fun w hx => zdS rfl rfl) rfl rfl ?_
       refine tp (zbQ (v := .bool ((y1.2 == 0))) rfl hb3 rfl) <| tp (zaC (v := .bool ((y1.2 == 0))) rfl) <| zbX rfl hb4 (fun w hx => zaC q10) rfl rfl <| zbX rfl hb4 (fun w hx => zdS rfl rfl) rfl rfl <| tp (zbQ (v := .bool ((y2.2 == 80))) rfl hb4 rfl) <| tp (zaC (v := .bool ((y2.2 == 80))) rfl) <| zbB rfl hb5 rfl ?_
       rw [zaH]
       refine zbB rfl hb5 rfl ?_
       rw [zaH]
       refine tp (zaX (v := .bool (false)) rfl hb5 rfl) <| tp (zaC (v := .bool (false)) rfl) <| zbB rfl rfl rfl ?_
       rw [zaH]
       refine zbB rfl rfl rfl ?_
       rw [zaH]
       refine zbB rfl rfl rfl ?_
       rw [zaH]
       refine zbB rfl rfl rfl ?_
       rw [zaH]
       refine tp (zaX (v := .bool (false)) rfl rfl rfl) <| tp (zaC (v := .bool (false)) rfl) <| zbB rfl rfl rfl ?_
       rw [zaH]
       refine zbB rfl rfl rfl ?_
       rw [zaH]
       refine zbB rfl rfl rfl ?_
       rw [zaH]
       refine zbB rfl rfl rfl ?_
       rw [zaH]
       refine tp (zaX (v := .bool (false)) rfl rfl rfl) <| tp (zaC (v := .bool (false)) rfl) <| zbB rfl rfl rfl ?_
       rw [zaH]
       refine zbB rfl rfl rfl ?_
       rw [zaH]
       refine zbB rfl rfl rfl ?_
       rw [zaH]
       refine tp (zaX (v := .bool (false)) rfl rfl rfl) <| tp (zaC (v := .bool (false)) rfl) <| tp (zaX (v := .bool (false)) rfl rfl rfl) <| tp (zaC (v := .bool (false)) rfl) <| tp (zaX (v := .bool (false)) rfl rfl rfl) <| tp (zaC (v := .bool (false)) rfl) <| tp (zaX (v := .bool (false)) rfl rfl rfl) <| tp (zaC (v := .bool (false)) rfl) <| tp (zaX (v := .bool (false)) rfl rfl rfl) ?_
       refine zbP <| H.tn fun w20 H => asB rfl <| wpList_nil <| zaP <| xn hK12 <| wp_ret ?_
       obtain rfl := osi hF2
       refine e_1 rfl (zbD rfl) ?_
       exact ⟨rfl, H.toExt⟩
     ·replace hF2 := zfR hF2 hb4
      refine wrS H 40 [(1, .inl (.agg ((cl26 y10)).toArray))] fun vs1 H => ?_
      refine t_v (fun w hx => zbL (l := (cl26 y1.1)) tg26 (H.ext hx) q8 (k := 3) rfl rfl rfl) <| tcx is41 (fun w hx => zfX (H.ext hx).sub e10) <| tp (r_eqR eg26 (by decide) (eqt26 y1.1 y10) rfl rfl) <| tp (zaC (v := .bool (((y1.1 : Qp) == (y10 : Qp)))) rfl) <| zbX rfl hb3 (fun w hx => zaC q9) rfl rfl <| zbX rfl hb3 (fun w hx => zdS rfl rfl) rfl rfl ?_
      refine tp (zbQ (v := .bool ((y1.2 == 0))) rfl hb3 rfl) <| tp (zaC (v := .bool ((y1.2 == 0))) rfl) <| zbB rfl hb4 rfl ?_
      rw [zaH]
      refine zbB rfl hb4 rfl ?_
      rw [zaH]
      refine tp (zaX (v := .bool (false)) rfl hb4 rfl) <| tp (zaC (v := .bool (false)) rfl) <| zbB rfl rfl rfl ?_
      rw [zaH]
      refine zbB rfl rfl rfl ?_
      rw [zaH]
      refine tp (zaX (v := .bool (false)) rfl rfl rfl) <| tp (zaC (v := .bool (false)) rfl) <| zbB rfl rfl rfl ?_
      rw [zaH]
      refine zbB rfl rfl rfl ?_
      rw [zaH]
      refine zbB rfl rfl rfl ?_
      rw [zaH]
      refine zbB rfl rfl rfl ?_
      rw [zaH]
      refine tp (zaX (v := .bool (false)) rfl rfl rfl) <| tp (zaC (v := .bool (false)) rfl) <| zbB rfl rfl rfl ?_
      rw [zaH]
      refine zbB rfl rfl rfl ?_
      rw [zaH]
      refine zbB rfl rfl rfl ?_
      rw [zaH]
      refine zbB rfl rfl rfl ?_
      rw [zaH]
      refine tp (zaX (v := .bool (false)) rfl rfl rfl) <| tp (zaC (v := .bool (false)) rfl) <| zbB rfl rfl rfl ?_
      rw [zaH]
      refine zbB rfl rfl rfl ?_
      rw [zaH]
      refine zbB rfl rfl rfl ?_
      rw [zaH]
      refine tp (zaX (v := .bool (false)) rfl rfl rfl) <| tp (zaC (v := .bool (false)) rfl) <| tp (zaX (v := .bool (false)) rfl rfl rfl) <| tp (zaC (v := .bool (false)) rfl) <| tp (zaX (v := .bool (false)) rfl rfl rfl) <| tp (zaC (v := .bool (false)) rfl) <| tp (zaX (v := .bool (false)) rfl rfl rfl) <| tp (zaC (v := .bool (false)) rfl) <| tp (zaX (v := .bool (false)) rfl rfl rfl) ?_
      refine zbP <| H.tn fun w21 H => asB rfl <| wpList_nil <| zaP <| xn hK12 <| wp_ret ?_
      obtain rfl := osi hF2
      refine e_1 rfl (zbD rfl) ?_
      exact ⟨rfl, H.toExt⟩
    ·replace hF2 := zfR hF2 hb3
     refine wrS H 40 [(1, .inl (.agg ((cl26 y10)).toArray))] fun vs1 H => ?_
     refine t_v (fun w hx => zbL (l := (cl26 y1.1)) tg26 (H.ext hx) q8 (k := 3) rfl rfl rfl) <| tcx is41 (fun w hx => zfX (H.ext hx).sub e10) <| tp (r_eqR eg26 (by decide) (eqt26 y1.1 y10) rfl rfl) <| tp (zaC (v := .bool (((y1.1 : Qp) == (y10 : Qp)))) rfl) <| zbB rfl hb3 rfl ?_
     rw [zaH]
     refine zbB rfl hb3 rfl ?_
     rw [zaH]
     refine tp (zaX (v := .bool (false)) rfl hb3 rfl) <| tp (zaC (v := .bool (false)) rfl) <| zbB rfl rfl rfl ?_
     rw [zaH]
     refine zbB rfl rfl rfl ?_
     rw [zaH]
     refine tp (zaX (v := .bool (false)) rfl rfl rfl) <| tp (zaC (v := .bool (false)) rfl) <| zbB rfl rfl rfl ?_
     rw [zaH]
     refine zbB rfl rfl rfl ?_
     rw [zaH]
     refine tp (zaX (v := .bool (false)) rfl rfl rfl) <| tp (zaC (v := .bool (false)) rfl) <| zbB rfl rfl rfl ?_
     rw [zaH]
     refine zbB rfl rfl rfl ?_
     rw [zaH]
     refine zbB rfl rfl rfl ?_
     rw [zaH]
     refine zbB rfl rfl rfl ?_
     rw [zaH]
     refine tp (zaX (v := .bool (false)) rfl rfl rfl) <| tp (zaC (v := .bool (false)) rfl) <| zbB rfl rfl rfl ?_
     rw [zaH]
     refine zbB rfl rfl rfl ?_
     rw [zaH]
     refine zbB rfl rfl rfl ?_
     rw [zaH]
     refine zbB rfl rfl rfl ?_
     rw [zaH]
     refine tp (zaX (v := .bool (false)) rfl rfl rfl) <| tp (zaC (v := .bool (false)) rfl) <| zbB rfl rfl rfl ?_
     rw [zaH]
     refine zbB rfl rfl rfl ?_
     rw [zaH]
     refine zbB rfl rfl rfl ?_
     rw [zaH]
     refine tp (zaX (v := .bool (false)) rfl rfl rfl) <| tp (zaC (v := .bool (false)) rfl) <| tp (zaX (v := .bool (false)) rfl rfl rfl) <| tp (zaC (v := .bool (false)) rfl) <| tp (zaX (v := .bool (false)) rfl rfl rfl) <| tp (zaC (v := .bool (false)) rfl) <| tp (zaX (v := .bool (false)) rfl rfl rfl) <| tp (zaC (v := .bool (false)) rfl) <| tp (zaX (v := .bool (false)) rfl rfl rfl) ?_
     refine zbP <| H.tn fun w22 H => asB rfl <| wpList_nil <| zaP <| xn hK12 <| wp_ret ?_
     obtain rfl := osi hF2
     refine e_1 rfl (zbD rfl) ?_
     exact ⟨rfl, H.toExt⟩
  refine p_gs (j := 12) (zaI rfl rfl (k3 38)) (fun hb2 => ?_) (fun hb2 => ?_)
  ·replace hE2 := zfK hE2 hb2
   refine zaW (zaI rfl rfl (k3 38)) hb2 ?_
   rw [zaH]
   refine zaW (zaI rfl rfl (k3 38)) hb2 ?_
   rw [zaH]
   refine zaW (zaI rfl rfl (k3 38)) hb2 ?_
   rw [zaH]
   refine zaW (zaI rfl rfl (k3 38)) hb2 ?_
   rw [zaH]
   refine zaA (zbQ (v := .bool (true)) (k3 38) hb2 rfl) <| hR8 _ _ ?_
   obtain rfl := osi hE2
   exact J1 _ _ kcx rfl H
  ·replace hE2 := zfR hE2 hb2
   refine zaT (zaI rfl rfl (k3 38)) hb2 <| p_mv (v := .pointer (some ⟨pb1, 0, none⟩)) ((k3 7).trans q6) <| zaT (zaI rfl rfl (k3 38)) hb2 <| bn hE2 fun y8 e8 hE2 => zaF is26 rfl <| (sign_Ring_Kids_c (HS.start (subMem w12)) (rpK (HS.blkAt H (k := 0) rfl) (rpL (RdS.ofOwn H (k := 1) rfl g1))) e8).mono ?_; rintro _ w13 ⟨S5, pv4, pcs4, prs4, rfl, H2, pg4⟩
   have H1 := H.joinNew H2; clear H H2; have H := H1; clear H1
   replace pg4 := RL.strs (T := S4) pg4
   refine zaT (zaI rfl rfl (k3 38)) hb2 <| zaA (r_lenO u40 rfl H (k := 0) rfl rfl) <| zaT (zaI rfl rfl (k3 38)) hb2 <| zaA (r_neqI rfl rfl) <| zaA (zaX (v := .bool ((((y8).length : Int) != 2))) (k3 38) hb2 rfl) <| hR8 _ _ ?_
   replace H := H.sel [1, 2, 3, 4] rfl
   replace H := hsn H
   obtain rfl := osi hE2
   exact J1 _ _ kcx rfl H
 refine p_gs (j := 7) (zaI rfl rfl (k1 33)) (fun hb1 => ?_) (fun hb1 => ?_)
 ·replace hE1 := zfK hE1 hb1
  refine zaW (zaI rfl rfl (k1 33)) hb1 ?_
  rw [zaH]
  refine zaW (zaI rfl rfl (k1 33)) hb1 ?_
  rw [zaH]
  refine zaW (zaI rfl rfl (k1 33)) hb1 ?_
  rw [zaH]
  refine zaA (zbQ (v := .bool (true)) (k1 33) hb1 rfl) <| hR6 _ _ ?_
  obtain rfl := osi hE1
  exact J2 _ _ _ _ _ _ kcx rfl (Mem.le_refl _) H pg2
 ·replace hE1 := zfR hE1 hb1
  refine zaT (zaI rfl rfl (k1 33)) hb1 <| p_mv (v := .pointer (some ⟨pb1, 0, none⟩)) (k1 7) <| zaT (zaI rfl rfl (k1 33)) hb1 <| bn hE1 fun y7 e7 hE1 => zaF is17 rfl <| (sign_Ring_Turn_c (H.hand [0, 1] rfl) pg2 e7).mono ?_; rintro _ w11 ⟨S3, pv3, pcs3, prs3, rfl, H2, pg3⟩
  obtain ⟨H1, hle3⟩ := H.frame [0, 1] [2, 3] rfl H2; clear H H2; have H := H1; clear H1
  replace H := hsn H
  refine zaT (zaI rfl rfl (k1 33)) hb1 <| zaA (r_neqI rfl rfl) <| zaA (zaX (v := .bool ((y7.1 != 0))) (k1 33) hb1 rfl) <| hR6 _ _ ?_
  obtain rfl := osi hE1
  exact J2 _ _ _ _ _ _ kcx rfl hle3 H pg3
noncomputable def l8_SignSigns_p (x0 : Qw) (x1 : List UInt8) : Option (Bool) :=
  Option.bind (ziB x0 x1) fun y1 => Option.bind (r8_Sign_p x0 x1) fun y2 => Option.bind (l8_fixed_p) fun y3 => some ((bif (bif y3 then (y1.1 == y2.1) else false) then (y1.2 == y2.2) else false))
theorem l8_SignSigns_c (hS : Sub S w) {x0 : Qw} {x1 : List UInt8} {r : Bool} (hF : l8_SignSigns_p x0 x1 = some r) :
    Calls Tryz.prog 4 #[.agg ((cl24 x0)).toArray, str (x1)] w fun e w' => e = .returned (.bool (r)) ∧ Ext w w' := by
 refine enter (n := 32) Tryz.func4 rfl rfl rfl ?_
 have H := HS.start hS
 refine sr fun K1 hK1 => zdI (zkN (l := (cl24 x0)) H rfl) fun w1 b1 H => asB rfl <| xk hK1 <| sr fun K2 hK2 => zaA (zbL (l := (cl24 x0)) tg24 H rfl (k := 0) rfl rfl rfl) <| mvT rfl <| bn hF fun y1 e1 hF => zaF is12 rfl ?_
 refine (sign_Sign_c H.sub e1).mono <| H.xe fun w2 H => mvU rfl <| zaA (zaM (v := str (y1.1)) rfl rfl) <| zaA (zaM (v := .int .i64 (y1.2)) rfl rfl) <| asT rfl <| asI rfl <| xk hK2 <| sr fun K3 hK3 => zaA (zbL (l := (cl24 x0)) tg24 H rfl (k := 0) rfl rfl rfl) ?_
 refine mvT rfl <| bn hF fun y2 e2 hF => zaF is13 rfl <| (r8_Sign_c H.sub e2).mono <| H.xe fun w3 H => mvU rfl <| zaA (zaM (v := str (y2.1)) rfl rfl) <| zaA (zaM (v := .int .i64 (y2.2)) rfl rfl) <| asT rfl <| asI rfl ?_
 refine xk hK3 <| sr fun K4 hK4 => bn hF fun y3 e3 hF => zaF is11 rfl <| (l8_fixed_c H.sub e3).mono <| H.xe fun w4 H => mvB rfl <| zkU fun m1 k1 => zkX 4 fun K5 hK5 R2 hR2 => ?_
 have J1 : ∀ (m2 : FM), Kp [23, 24, 25, 26] m2 m1 → look m2 26 = .bool ((bif y3 then (y1.1 == y2.1) else false)) → K5 m2 w4 := by
  intro m2 k2 q1
  have q2 : look m2 6 = .int .i64 (y1.2) := (k2 6 rfl).trans (k1 6)
  have q3 : look m2 8 = .int .i64 (y2.2) := (k2 8 rfl).trans (k1 8)
  refine hK5 _ _ ?_; clear hK5 hR2
  refine p_mv q1 <| zkU fun m3 k3 => zkX 4 fun K6 hK6 R3 hR3 => ?_
  have J2 : ∀ (m4 : FM), Kp [28, 29, 30, 31] m4 m3 → look m4 31 = .bool ((bif (bif y3 then (y1.1 == y2.1) else false) then (y1.2 == y2.2) else false)) → K6 m4 w4 := by
   intro m4 k4 q4
   refine hK6 _ _ ?_; clear hK6 hR3
   refine p_as q4 <| xk hK4 <| wp_ret ?_
   obtain rfl := osi hF
   refine e_1 rfl (zbD rfl) ?_
   exact ⟨rfl, H.toExt⟩
  refine p_gs (j := 6) (zaI rfl rfl (k3 27)) (fun hb1 => ?_) (fun hb1 => ?_)
  ·refine zaT (zaI rfl rfl (k3 27)) hb1 ?_
   refine p_mv ((k3 6).trans q2) <| zaT (zaI rfl rfl (k3 27)) hb1 <| p_mv ((k3 8).trans q3) <| zaT (zaI rfl rfl (k3 27)) hb1 <| zaA (zdS rfl rfl) <| zaA (zbQ (v := .bool ((y1.2 == y2.2))) (k3 27) hb1 rfl) <| hR3 _ _ ?_
   exact J2 _ kcx (show (.bool ((y1.2 == y2.2)) : Value) = .bool ((bif (bif y3 then (y1.1 == y2.1) else false) then (y1.2 == y2.2) else false)) from congrArg Value.bool (by simp only [hb1, cond_true, cond_false]))
  ·refine zaW (zaI rfl rfl (k3 27)) hb1 ?_
   rw [zaH]
   refine zaW (zaI rfl rfl (k3 27)) hb1 ?_
   rw [zaH]
   refine zaW (zaI rfl rfl (k3 27)) hb1 ?_
   rw [zaH]
   refine zaA (zaX (v := .bool (false)) (k3 27) hb1 rfl) <| hR3 _ _ ?_
   exact J2 _ kcx (show (.bool (false) : Value) = .bool ((bif (bif y3 then (y1.1 == y2.1) else false) then (y1.2 == y2.2) else false)) from congrArg Value.bool (by simp only [hb1, cond_true, cond_false]))
 refine p_gs (j := 1) (zaI rfl rfl (k1 22)) (fun hb2 => ?_) (fun hb2 => ?_)
 ·refine zaT (zaI rfl rfl (k1 22)) hb2 ?_
  refine p_mv (k1 5) <| zaT (zaI rfl rfl (k1 22)) hb2 <| p_mv (k1 7) <| zaT (zaI rfl rfl (k1 22)) hb2 <| zaA (r_eqT (t := (y1.1 == y2.1)) rfl rfl rfl) <| zaA (zbQ (v := .bool ((y1.1 == y2.1))) (k1 22) hb2 rfl) <| hR2 _ _ ?_
  exact J1 _ kcx (show (.bool ((y1.1 == y2.1)) : Value) = .bool ((bif y3 then (y1.1 == y2.1) else false)) from congrArg Value.bool (by simp only [hb2, cond_true, cond_false]))
 ·refine zaW (zaI rfl rfl (k1 22)) hb2 ?_
  rw [zaH]
  refine zaW (zaI rfl rfl (k1 22)) hb2 ?_
  rw [zaH]
  refine zaW (zaI rfl rfl (k1 22)) hb2 ?_
  rw [zaH]
  refine zaA (zaX (v := .bool (false)) (k1 22) hb2 rfl) <| hR2 _ _ ?_
  exact J1 _ kcx (show (.bool (false) : Value) = .bool ((bif y3 then (y1.1 == y2.1) else false)) from congrArg Value.bool (by simp only [hb2, cond_true, cond_false]))
end
section
variable {α : Type} {n : Nat}
def vset (x : Vec α n) (i : Nat) (u : α) : Vec α n := ⟨x.l.set i u, by simp [x.h]⟩
def gv (x : Vec UInt32 64) (i : Nat) : UInt32 := x.l.getD i 0
theorem setV_ok {x : Vec α n} {i : Nat} {j : Int} {u : α} (hj : j = (i : Int)) (h : i < n) : setV x j u = some (vset x i u) := by
 subst hj
 unfold setV
 rw [show (decide (0 ≤ (i : Int)) && decide ((i : Int) < (n : Int))) = true by simp; exact h]
 exact congrArg some (Vec.eq (by rw [vset]; simp))
theorem zhO {x : Vec UInt32 64} {i : Nat} {j : Int} (hj : j = (i : Int)) (h : i < 64) : idx x.l j = some (gv x i) := by
 have h' : i < x.l.length := by rw [x.h]; exact h
 rw [idx_ok hj h', gv, List.getD_eq_getElem?_getD, List.getElem?_eq_getElem h']; rfl
theorem w64n {n : Nat} (h : n < 9223372036854775808) : w64 (n : Int) = (n : Int) := zjD (by omega) (by omega)
theorem w64s (n : Nat) (h : n < 9223372036854775807) : w64 ((n : Int) + 1) = ((n + 1 : Nat) : Int) := zjD (by omega) (by omega)
def rr (x : UInt32) (n : Nat) : UInt32 := i32 (shlI .u32 (x.toNat : Int) ((32 - n : Nat) : Int)) ||| i32 (shrI .u32 (x.toNat : Int) (n : Int))
theorem ror_ok (x : UInt32) (n : Nat) {m : Int} (h1 : ((((i64 (w64 (0 - m))) &&& (31 : UInt64))).toNat : Int) = ((32 - n : Nat) : Int)) (h2 : (((i64 ((32 : Int) - ((32 - n : Nat) : Int)))).toNat : Int) = (n : Int)) : zbK x m = some (rr x n) := by
 unfold zbK zfP
 simp only [zaB]
 rw [h1, h2]; rfl
def valF (l : List UInt8) : UInt64 := l.foldl (fun s b => (i64 (shlI .u64 (s.toNat : Int) 8)) ||| (i64 (b.toNat : Int))) 0
theorem value_ok {l : List UInt8} (h : l.length < 1000000) : hash_value_p l = some (valF l) := by
 have key : iter (zkS l) ((0 : UInt64), 0) = some (valF l) := by
  refine zcS (fun k => (valF (l.take k), (k : Int))) l.length (by omega) _ (fun k hk => ?_) ?_
  ·unfold zkS
   rw [zdE (by omega), idx_ok rfl hk]
   simp only [zaB]
   rw [w64s k (by omega), take_succ hk]
   simp only [valF, List.foldl_append, List.foldl_cons, List.foldl_nil]
  ·unfold zkS
   rw [zdA (by omega), List.take_length]
 unfold hash_value_p
 rw [key]; rfl
end
abbrev St8 : Type := Qs
def W1 (blk : List UInt8) : Nat → Vec UInt32 64
 | 0 => vrep 64 0
 | k + 1 => vset (W1 blk k) k (i32 (((valF ((blk.take (4 * k + 4)).drop (4 * k))).toNat : Int)))
def extW (a b c d : UInt32) : UInt32 := i32 ((((i32 ((((i32 (((c).toNat : Int) + ((((rr a 7 ^^^ rr a 18) ^^^ (i32 (shrI .u32 ((a).toNat : Int) 3)))).toNat : Int)))).toNat : Int) + ((d).toNat : Int)))).toNat : Int) + ((((rr b 17 ^^^ rr b 19) ^^^ (i32 (shrI .u32 ((b).toNat : Int) 10)))).toNat : Int))
def W2 (w : Vec UInt32 64) : Nat → Vec UInt32 64
 | 0 => w
 | k + 1 => vset (W2 w k) (16 + k) (extW (gv (W2 w k) (k + 1)) (gv (W2 w k) (k + 14)) (gv (W2 w k) k) (gv (W2 w k) (k + 9)))
def t1F (s : St8) (K w : UInt32) : UInt32 := i32 ((((i32 ((((i32 ((((i32 (((s.2.2.2.2.2.2.2).toNat : Int) + ((((rr s.2.2.2.2.1 6 ^^^ rr s.2.2.2.2.1 11) ^^^ rr s.2.2.2.2.1 25)).toNat : Int)))).toNat : Int) + ((((s.2.2.2.2.1 &&& s.2.2.2.2.2.1) ^^^ (((4294967295 : UInt32) ^^^ s.2.2.2.2.1) &&& s.2.2.2.2.2.2.1))).toNat : Int)))).toNat : Int) + ((K).toNat : Int)))).toNat : Int) + ((w).toNat : Int))
def t2F (s : St8) : UInt32 := i32 (((((rr s.1 2 ^^^ rr s.1 13) ^^^ rr s.1 22)).toNat : Int) + (((((s.1 &&& s.2.1) ^^^ (s.1 &&& s.2.2.1)) ^^^ (s.2.1 &&& s.2.2.1))).toNat : Int))
def rnd (K w : UInt32) (s : St8) : St8 := (i32 (((t1F s K w).toNat : Int) + ((t2F s).toNat : Int)), s.1, s.2.1, s.2.2.1, i32 (((s.2.2.2.1).toNat : Int) + ((t1F s K w).toNat : Int)), s.2.2.2.2.1, s.2.2.2.2.2.1, s.2.2.2.2.2.2.1)
def R3 (K w : Vec UInt32 64) (s : St8) : Nat → St8
 | 0 => s
 | k + 1 => rnd (gv K k) (gv w k) (R3 K w s k)
def ad8 (a b : UInt32) : UInt32 := i32 (((a).toNat : Int) + ((b).toNat : Int))
def add8 (v s : St8) : St8 := (ad8 v.1 s.1, ad8 v.2.1 s.2.1, ad8 v.2.2.1 s.2.2.1, ad8 v.2.2.2.1 s.2.2.2.1, ad8 v.2.2.2.2.1 s.2.2.2.2.1, ad8 v.2.2.2.2.2.1 s.2.2.2.2.2.1, ad8 v.2.2.2.2.2.2.1 s.2.2.2.2.2.2.1, ad8 v.2.2.2.2.2.2.2 s.2.2.2.2.2.2.2)
def nextF (s : St8) (blk : List UInt8) (K : Vec UInt32 64) : St8 := add8 (R3 K (W2 (W1 blk 16) 48) s 64) s
theorem l0_ok {blk : List UInt8} (h : blk.length = 64) : iter (zgQ blk) (0, vrep 64 (0 : UInt32)) = some (W1 blk 16) := by
 refine zcS (fun k => ((k : Int), W1 blk k)) 16 (by decide) _ (fun k hk => ?_) ?_
 ·unfold zgQ
  have e1 : w64 ((4 : Int) * (k : Int)) = ((4 * k : Nat) : Int) := zjD (by omega) (by omega)
  have e2 : w64 (((4 * k : Nat) : Int) + 4) = ((4 * k + 4 : Nat) : Int) := zjD (by omega) (by omega)
  rw [zdE (by omega)]
  simp only [e1, e2]
  rw [sub3_ok (by omega) (by omega), zaB, value_ok (by simp; omega), zaB, zhO rfl (by omega), zaB, setV_ok rfl (by omega), zaB, w64s k (by omega)]
  rfl
 ·unfold zgQ
  rw [zdA (by omega)]
theorem l1_ok (w : Vec UInt32 64) : iter zgR (16, w) = some (W2 w 48) := by
 refine zcS (fun k => (((16 + k : Nat) : Int), W2 w k)) 48 (by decide) _ (fun k hk => ?_) ?_
 ·unfold zgR
  have e : ∀ (a : Int) (b : Nat), a = (b : Int) → b < 64 → w64 a = (b : Int) := fun a b e h => by rw [e]; exact w64n (by omega)
  rw [zdE (by omega)]
  simp only [e (((16 + k : Nat) : Int) - 15) (k + 1) (by omega) (by omega), e (((16 + k : Nat) : Int) - 2) (k + 14) (by omega) (by omega), e (((16 + k : Nat) : Int) - 16) k (by omega) (by omega), e (((16 + k : Nat) : Int) - 7) (k + 9) (by omega) (by omega)]
  simp only [zhO (x := W2 w k) (i := k + 1) rfl (by omega), zhO (x := W2 w k) (i := k + 14) rfl (by omega), zhO (x := W2 w k) (i := k) rfl (by omega), zhO (x := W2 w k) (i := k + 9) rfl (by omega), zhO (x := W2 w k) (i := 16 + k) rfl (by omega), zaB, ror_ok _ 7 (m := 7) (by decide) (by decide), ror_ok _ 18 (m := 18) (by decide) (by decide), ror_ok _ 17 (m := 17) (by decide) (by decide), ror_ok _ 19 (m := 19) (by decide) (by decide), setV_ok (x := W2 w k) (i := 16 + k) rfl (by omega)]
  rw [w64s (16 + k) (by omega)]
  rfl
 ·unfold zgR
  rw [zdA (by omega)]
theorem l2_ok (K w : Vec UInt32 64) (s : St8) : iter (zgO K w) (0, s) = some (R3 K w s 64) := by
 refine zcS (fun k => ((k : Int), R3 K w s k)) 64 (by decide) _ (fun k hk => ?_) ?_
 ·unfold zgO
  rw [zdE (by omega)]
  simp only [zhO (x := K) (i := k) rfl hk, zhO (x := w) (i := k) rfl hk, zaB, ror_ok _ 6 (m := 6) (by decide) (by decide), ror_ok _ 11 (m := 11) (by decide) (by decide), ror_ok _ 25 (m := 25) (by decide) (by decide), ror_ok _ 2 (m := 2) (by decide) (by decide), ror_ok _ 13 (m := 13) (by decide) (by decide), ror_ok _ 22 (m := 22) (by decide) (by decide)]
  rw [w64s k (by omega)]
  rfl
 ·unfold zgO
  rw [zdA (by omega)]
def pt8 (v s : St8) (k : Nat) : St8 := (if 0 < k then ad8 v.1 s.1 else v.1, if 1 < k then ad8 v.2.1 s.2.1 else v.2.1, if 2 < k then ad8 v.2.2.1 s.2.2.1 else v.2.2.1, if 3 < k then ad8 v.2.2.2.1 s.2.2.2.1 else v.2.2.2.1, if 4 < k then ad8 v.2.2.2.2.1 s.2.2.2.2.1 else v.2.2.2.2.1, if 5 < k then ad8 v.2.2.2.2.2.1 s.2.2.2.2.2.1 else v.2.2.2.2.2.1, if 6 < k then ad8 v.2.2.2.2.2.2.1 s.2.2.2.2.2.2.1 else v.2.2.2.2.2.2.1, if 7 < k then ad8 v.2.2.2.2.2.2.2 s.2.2.2.2.2.2.2 else v.2.2.2.2.2.2.2)
theorem l3_ok (s v : St8) : iter (hash_state_next_b3 s) (0, v) = some (add8 v s) := by
 refine zcS (fun k => ((k : Int), pt8 v s k)) 8 (by decide) _ (fun k hk => ?_) ?_
 ·rcases (by omega : k = 0 ∨ k = 1 ∨ k = 2 ∨ k = 3 ∨ k = 4 ∨ k = 5 ∨ k = 6 ∨ k = 7) with rfl | rfl | rfl | rfl | rfl | rfl | rfl | rfl <;> rfl
 ·rfl
theorem next_ok (s : St8) {blk : List UInt8} (K : Vec UInt32 64) (h : blk.length = 64) : zhH s blk K = some (nextF s blk K, K) := by
 unfold zhH
 rw [l0_ok h, zaB, zaB, l1_ok, zaB, zaB]
 rw [show (0, s.1, s.2.1, s.2.2.1, s.2.2.2.1, s.2.2.2.2.1, s.2.2.2.2.2.1, s.2.2.2.2.2.2.1, s.2.2.2.2.2.2.2) = ((0 : Int), s) from rfl, l2_ok, zaB, zaB]
 rw [show ∀ t : St8, (0, t.1, t.2.1, t.2.2.1, t.2.2.2.1, t.2.2.2.2.1, t.2.2.2.2.2.1, t.2.2.2.2.2.2.1, t.2.2.2.2.2.2.2) = ((0 : Int), t) from fun _ => rfl, l3_ok, zaB, zaB]
 rfl
def byF (x : UInt64) (i : Nat) : UInt8 := i8 (((i64 (shrI .u64 ((x).toNat : Int) ((8 * i : Nat) : Int)))).toNat : Int)
def beF (x : UInt64) : Nat → List UInt8
 | 0 => []
 | i + 1 => byF x i :: beF x i
theorem beF_len (x : UInt64) : ∀ n, (beF x n).length = n
 | 0 => rfl
 | n + 1 => by rw [beF, List.length_cons, beF_len x n]
theorem beF_take (x : UInt64) (n : Nat) : ∀ k, k < n → (beF x n).take (k + 1) = (beF x n).take k ++ [byF x (n - 1 - k)] := by
 have get : ∀ n k (h : k < (beF x n).length), (beF x n)[k] = byF x (n - 1 - k) := by
  intro n
  induction n with
  | zero => intro k h; simp [beF] at h
  | succ n ih =>
   intro k h
   cases k with
   | zero => simp [beF]
   | succ k =>
    simp only [beF, List.getElem_cons_succ]
    rw [ih k (by simpa [beF] using h)]
    congr 1; omega
 intro k hk
 have h : k < (beF x n).length := by rw [beF_len]; exact hk
 rw [take_succ h, get n k h]
theorem big_ok {l : List UInt8} {x : UInt64} {n : Nat} (hn : n ≤ 8) (h : l.length ≤ 68719476000) : hash_big_p l x (n : Int) = some (l ++ beF x n) := by
 have e0 : w64 ((n : Int) - 1) = (n : Int) - 1 := zjD (by omega) (by omega)
 have key : iter (hash_big_b0 x) ((n : Int) - 1, l) = some (l ++ beF x n) := by
  have := zcS (body := hash_big_b0 x) (fun k => ((n : Int) - 1 - (k : Int), l ++ (beF x n).take k)) n (by omega) (l ++ beF x n) (fun k hk => by
   unfold hash_big_b0
   have e1 : (n : Int) - 1 - (k : Int) = ((n - 1 - k : Nat) : Int) := by omega
   rw [zdE (by omega)]
   simp only [e1]
   have e2 : w64 ((8 : Int) * ((n - 1 - k : Nat) : Int)) = ((8 * (n - 1 - k) : Nat) : Int) := zjD (by omega) (by omega)
   have e3 : w64 (((n - 1 - k : Nat) : Int) - 1) = (n : Int) - 1 - ((k + 1 : Nat) : Int) := by rw [zjD (by omega) (by omega)]; omega
   rw [e2, zhS (decide_eq_true (by omega)), zaB, zeH (by simp [List.length_take, beF_len]; omega), zaB, e3, beF_take x n k hk]
   simp only [List.append_assoc]
   rfl) (by
   unfold hash_big_b0
   rw [zdA (by omega), List.take_of_length_le (by rw [beF_len]; exact Nat.le_refl _)])
  simpa using this
 unfold hash_big_p
 rw [e0, key]; rfl
def bodyF (l : List UInt8) : List UInt8 := (l ++ [128]) ++ List.replicate ((119 - l.length % 64) % 64) 0
def msgF (l : List UInt8) : List UInt8 := bodyF l ++ beF (i64 ((8 : Int) * (((i64 ((l.length : Int)))).toNat : Int))) 8
theorem bodyF_len (l : List UInt8) : (bodyF l).length % 64 = 56 := by simp only [bodyF, List.length_append, List.length_replicate, List.length_cons, List.length_nil]; omega
theorem bodyF_le (l : List UInt8) : (bodyF l).length ≤ l.length + 64 := by simp only [bodyF, List.length_append, List.length_replicate, List.length_cons, List.length_nil]; omega
theorem msgF_len (l : List UInt8) : (msgF l).length % 64 = 0 := by have := bodyF_len l; simp only [msgF, List.length_append, beF_len]; omega
theorem msgF_le (l : List UInt8) : (msgF l).length ≤ l.length + 72 := by have := bodyF_le l; simp only [msgF, List.length_append, beF_len]; omega
theorem tmod64 (n : Nat) : Int.tmod (n : Int) 64 = ((n % 64 : Nat) : Int) := (Int.ofNat_tmod n 64).symm
theorem pad_ok {l : List UInt8} (h : l.length ≤ 68719470000) : iter hash_Sum_b0 (l ++ [128]) = some (bodyF l) := by
 have := zcS (body := hash_Sum_b0) (fun k => (l ++ [128]) ++ List.replicate k (0 : UInt8)) ((119 - l.length % 64) % 64) (by omega) (bodyF l) (fun k hk => by
  unfold hash_Sum_b0
  have hl : ((l ++ [128]) ++ List.replicate k (0 : UInt8)).length = l.length + 1 + k := by simp; omega
  rw [hl, cond_t (by rw [tmod64]; simp only [bne_iff_ne, ne_eq]; omega), zeH (by rw [hl, List.length_cons, List.length_nil]; omega), zaB, List.append_assoc, ← List.replicate_succ']) (by
  unfold hash_Sum_b0
  rw [show (l ++ [128]) ++ List.replicate ((119 - l.length % 64) % 64) (0 : UInt8) = bodyF l from rfl]
  have := bodyF_len l
  rw [cond_f (by rw [tmod64, this]; rfl)])
 simpa using this
def ini8 : St8 := (1779033703, 3144134277, 1013904242, 2773480762, 1359893119, 2600822924, 528734635, 1541459225)
def zhN (K : Vec UInt32 64) (b : List UInt8) : Nat → St8
 | 0 => ini8
 | k + 1 => nextF (zhN K b k) ((b.drop (64 * k)).take 64) K
def outF (s : St8) : List UInt8 := beF (i64 (s.1.toNat : Int)) 4 ++ (beF (i64 (s.2.1.toNat : Int)) 4 ++ (beF (i64 (s.2.2.1.toNat : Int)) 4 ++ (beF (i64 (s.2.2.2.1.toNat : Int)) 4 ++ (beF (i64 (s.2.2.2.2.1.toNat : Int)) 4 ++ (beF (i64 (s.2.2.2.2.2.1.toNat : Int)) 4 ++ (beF (i64 (s.2.2.2.2.2.2.1.toNat : Int)) 4 ++ beF (i64 (s.2.2.2.2.2.2.2.toNat : Int)) 4))))))
def at8 (s : St8) (k : Nat) : UInt32 := ([s.1, s.2.1, s.2.2.1, s.2.2.2.1, s.2.2.2.2.1, s.2.2.2.2.2.1, s.2.2.2.2.2.2.1, s.2.2.2.2.2.2.2] : List UInt32).getD k 0
def outN (s : St8) : Nat → List UInt8
 | 0 => []
 | k + 1 => outN s k ++ beF (i64 ((at8 s k).toNat : Int)) 4
theorem outN_len (s : St8) : ∀ k, (outN s k).length = 4 * k
 | 0 => rfl
 | k + 1 => by rw [outN, List.length_append, outN_len s k, beF_len]; omega
theorem outF_eq (s : St8) : outN s 8 = outF s := by simp only [outN, outF, at8, List.nil_append, List.append_assoc]; rfl
theorem outF_len (s : St8) : (outF s).length = 32 := by rw [← outF_eq, outN_len]
def keysF : Vec UInt32 64 := (hash_keys_p).getD (vrep 64 0)
theorem keys_ok : hash_keys_p = some keysF := rfl
def shaF (l : List UInt8) : List UInt8 := outF (zhN keysF (msgF l) ((msgF l).length / 64))
theorem shaF_len (l : List UInt8) : (shaF l).length = 32 := outF_len _
theorem chain_ok (K : Vec UInt32 64) {b : List UInt8} (h : b.length % 64 = 0) (hl : b.length ≤ 68719476736) : iter hash_Sum_b1 (b, 1779033703, 3144134277, 1013904242, 2773480762, 1359893119, 2600822924, 528734635, 1541459225, K) =
  some ((zhN K b (b.length / 64)).1, (zhN K b (b.length / 64)).2.1, (zhN K b (b.length / 64)).2.2.1, (zhN K b (b.length / 64)).2.2.2.1, (zhN K b (b.length / 64)).2.2.2.2.1, (zhN K b (b.length / 64)).2.2.2.2.2.1, (zhN K b (b.length / 64)).2.2.2.2.2.2.1, (zhN K b (b.length / 64)).2.2.2.2.2.2.2, K) := by
 refine zcS (fun k => (b.drop (64 * k), (zhN K b k).1, (zhN K b k).2.1, (zhN K b k).2.2.1, (zhN K b k).2.2.2.1, (zhN K b k).2.2.2.2.1, (zhN K b k).2.2.2.2.2.1, (zhN K b k).2.2.2.2.2.2.1, (zhN K b k).2.2.2.2.2.2.2, K)) (b.length / 64) (by omega) _ (fun k hk => ?_) ?_
 ·unfold hash_Sum_b1
  have hd : (b.drop (64 * k)).length = b.length - 64 * k := by simp
  rw [zdE (by simp only [hd]; omega)]
  simp only []
  rw [show (64 : Int) = ((64 : Nat) : Int) from rfl, subH_ok (by rw [hd]; omega), zaB, next_ok _ _ (by simp only [List.length_take, hd]; omega), zaB, subL_ok (by rw [hd]; omega), zaB, List.drop_drop]
  rfl
 ·unfold hash_Sum_b1
  rw [zdA (by simp only [List.length_drop]; omega)]
theorem out_ok2 (s : St8) (K : Vec UInt32 64) : iter (hash_Sum_b2 (s.1, s.2.1, s.2.2.1, s.2.2.2.1, s.2.2.2.2.1, s.2.2.2.2.2.1, s.2.2.2.2.2.2.1, s.2.2.2.2.2.2.2, K)) (([] : List UInt8), 0) = some (outF s) := by
 rw [← outF_eq]
 refine zcS (fun k => (outN s k, (k : Int))) 8 (by decide) _ (fun k hk => ?_) ?_
 ·unfold hash_Sum_b2
  have e : idx ([s.1, s.2.1, s.2.2.1, s.2.2.2.1, s.2.2.2.2.1, s.2.2.2.2.2.1, s.2.2.2.2.2.2.1, s.2.2.2.2.2.2.2] : List UInt32) (k : Int) = some (at8 s k) := by
   rcases (by omega : k = 0 ∨ k = 1 ∨ k = 2 ∨ k = 3 ∨ k = 4 ∨ k = 5 ∨ k = 6 ∨ k = 7) with rfl | rfl | rfl | rfl | rfl | rfl | rfl | rfl <;> rfl
  rw [zdE (by omega)]
  simp only []
  rw [e, zaB, show (4 : Int) = ((4 : Nat) : Int) from rfl, big_ok (by decide) (by rw [outN_len]; omega), zaB, w64s k (by omega)]
  rfl
 ·unfold hash_Sum_b2
  rw [zdA (by omega)]
theorem sum_ok4 {l : List UInt8} (h : l.length ≤ 68719470000) : ziF l = some (shaF l) := by
 unfold ziF
 rw [zeH (by rw [List.length_cons, List.length_nil]; omega), zaB, pad_ok h, zaB, zaB, show (8 : Int) = ((8 : Nat) : Int) from rfl, big_ok (by decide) (by have := bodyF_le l; omega), zaB, keys_ok, zaB]
 rw [show bodyF l ++ beF (i64 (((8 : Nat) : Int) * (((i64 ((l.length : Int)))).toNat : Int))) 8 = msgF l from rfl, chain_ok keysF (msgF_len l) (by have := msgF_le l; omega), zaB, zaB, out_ok2]
 rfl
theorem mul1 (c : UInt8) : zlN (i64 ((([c] : List UInt8)).length : Int)) (i64 64) = some ((0 : UInt64), (64 : UInt64)) := by
 rw [show ((([c] : List UInt8)).length : Int) = 1 from rfl]; decide +kernel
theorem rep_step (c : UInt8) {n : Nat} (h0 : 0 < n) (h : n ≤ 32) {r : List UInt8} (hr : r.length = 64 - n) : zhA ((0 : UInt64), (64 : UInt64)) 64 ((n : Int), List.replicate n c ++ r) = some (.inl (((2 * n : Nat) : Int), List.replicate (2 * n) c ++ r.drop n)) := by
 unfold zhA
 have e64 : w64 (((64 : UInt64)).toNat : Int) = 64 := by decide
 have hl : (List.replicate n c ++ r).length = 64 := by simp [hr]; omega
 simp only [e64]
 rw [zdE (by omega), subL_ok (by omega), zaB, zdE (by omega), subH_ok (by omega), zaB]
 have h1 : (List.replicate n c ++ r).drop n = r := by rw [List.drop_left' (by simp)]
 have h2 : (List.replicate n c ++ r).take n = List.replicate n c := by rw [List.take_left' (by simp)]
 rw [h2, hl, show (((n : Int)).toNat) = n from rfl, List.length_replicate]
 have h4 : min n (64 - n) = n := by omega
 rw [h4, zjD (by omega) (by omega)]
 have h5 : putB (List.replicate n c ++ r) n (List.replicate n c) = List.replicate (2 * n) c ++ r.drop n := by
  unfold putB
  rw [h2, hl, List.length_replicate, h4, List.take_of_length_le (by simp; omega), List.drop_append, List.length_replicate, List.drop_eq_nil_of_le (by simp), List.nil_append, ← List.append_assoc, List.replicate_append_replicate]
  congr 2 <;> omega
 rw [h5]
 congr 4
 omega
theorem rep_ok (c : UInt8) : zhU [c] 64 = some (List.replicate 64 c) := by
 unfold zhU
 have e64 : w64 (((64 : UInt64)).toNat : Int) = 64 := by decide
 rw [cond_f (by rfl), zdA (by decide), mul1, zaB]
 simp only [e64]
 rw [cond_f (by decide), cond_f (by rfl), zdA (by decide), zaB, zhS (by decide), zaB]
 refine anyJ_intro fun jk hj => ?_
 have hj' : jk.length = 64 := hj
 have h0 : putB jk 0 [c] = List.replicate 1 c ++ jk.drop 1 := by
  unfold putB
  rw [hj']; rfl
 have key : iter (zhA ((0 : UInt64), (64 : UInt64)) 64) (((1 : Nat) : Int), List.replicate 1 c ++ jk.drop 1) = some (List.replicate 64 c) := by
  refine zcS (fun k => (((2 ^ k : Nat) : Int), List.replicate (2 ^ k) c ++ jk.drop (2 ^ k))) 6 (by decide) _ (fun k hk => ?_) ?_
  ·have hp : 2 ^ k ≤ 32 := by rcases (by omega : k = 0 ∨ k = 1 ∨ k = 2 ∨ k = 3 ∨ k = 4 ∨ k = 5) with rfl | rfl | rfl | rfl | rfl | rfl <;> decide
   rw [rep_step c (Nat.pos_of_ne_zero (by simp)) hp (by rw [List.length_drop, hj']), List.drop_drop, ← Nat.two_mul, Nat.pow_succ, Nat.mul_comm]
  ·unfold zhA
   simp only [e64]
   rw [zdA (by decide), List.drop_eq_nil_of_le (by rw [hj']; decide), List.append_nil]
 rw [show (((min (([c] : List UInt8)).length (jk.length - 0) : Nat)) : Int) = ((1 : Nat) : Int) by rw [hj']; rfl, h0, key]; rfl
def zjR (c : UInt8) (key : List UInt8) : Nat → List UInt8
 | 0 => List.replicate 64 c
 | k + 1 => (zjR c key k).set k ((zjR c key k).getD k 0 ^^^ key.getD k 0)
theorem ziO (c : UInt8) (key : List UInt8) : ∀ k, (zjR c key k).length = 64
 | 0 => by simp [zjR]
 | k + 1 => by rw [zjR, List.length_set, ziO c key k]
theorem idxD {l : List UInt8} {k : Nat} (h : k < l.length) : idx l (k : Int) = some (l.getD k 0) := by
 rw [idx_ok rfl h, List.getD_eq_getElem?_getD, List.getElem?_eq_getElem h]; rfl
theorem setL8_ok {l : List UInt8} {k : Nat} {u : UInt8} (h : k < l.length) : setL l (k : Int) u = some (l.set k u) := by
 unfold setL
 rw [show (decide (0 ≤ (k : Int)) && decide ((k : Int) < (l.length : Int))) = true by simp; exact h]; rfl
theorem over_ok {key : List UInt8} (h : key.length ≤ 64) : iter (hash_Mac_b0 key) (0, List.replicate 64 (92 : UInt8), List.replicate 64 (54 : UInt8)) = some (zjR 92 key key.length, zjR 54 key key.length) := by
 refine zcS (fun k => ((k : Int), zjR 92 key k, zjR 54 key k)) key.length (by omega) _ (fun k hk => ?_) ?_
 ·unfold hash_Mac_b0
  rw [zdE (by omega)]
  simp only []
  have hi : k < (zjR 54 key k).length := by rw [ziO]; omega
  have ho : k < (zjR 92 key k).length := by rw [ziO]; omega
  rw [idxD hi, zaB, idxD hk, zaB, zaB, setL8_ok hi, zaB, idxD ho, zaB, zaB, zaB, setL8_ok ho, zaB, w64s k (by omega)]
  rfl
 ·unfold hash_Mac_b0
  rw [zdA (by omega)]
def keyF (key : List UInt8) : List UInt8 := bif decide (64 < key.length) then shaF key else key
def macF (key s : List UInt8) : List UInt8 := shaF (zjR 92 (keyF key) (keyF key).length ++ shaF (zjR 54 (keyF key) (keyF key).length ++ s))
theorem keyF_len (key : List UInt8) : (keyF key).length ≤ 64 := by
 unfold keyF
 by_cases h : 64 < key.length
 ·rw [zdE h, shaF_len]; decide
 ·rw [zdA h]; omega
theorem zdO (key s : List UInt8) : (macF key s).length = 32 := shaF_len _
theorem mac_ok4 {key s : List UInt8} (hk : key.length ≤ 68719470000) (hs : s.length ≤ 68719460000) : zeF key s = some (macF key s) := by
 unfold zeF
 have e : (bif decide ((64 : Int) < ((key).length : Int)) then (Option.bind (ziF key) fun y1 => some (y1)) else (some (key))) = some (keyF key) := by
  unfold keyF
  by_cases h : 64 < key.length
  ·rw [zdE (by omega), zdE h, sum_ok4 hk]; rfl
  ·rw [zdA (by omega), zdA h]
 have l2 := ziO 92 (keyF key) (keyF key).length
 have l1 := ziO 54 (keyF key) (keyF key).length
 have hi : (zjR 54 (keyF key) (keyF key).length ++ s).length ≤ 68719470000 := by rw [List.length_append, l1]; omega
 have ho : (zjR 92 (keyF key) (keyF key).length ++ shaF (zjR 54 (keyF key) (keyF key).length ++ s)).length ≤ 68719470000 := by rw [List.length_append, l2, shaF_len]; omega
 rw [e, zaB, rep_ok, zaB, rep_ok, zaB, over_ok (keyF_len key), zaB, zaB, zeH (by rw [← List.length_append]; show (zjR 54 (keyF key) (keyF key).length ++ s).length ≤ _; omega), zaB, sum_ok4 hi, zaB, zeH (by rw [← List.length_append]; show (zjR 92 (keyF key) (keyF key).length ++ shaF (zjR 54 (keyF key) (keyF key).length ++ s)).length ≤ _; omega), zaB, sum_ok4 ho]
 rfl
theorem writeByte_ok {l : List UInt8} {b : UInt8} (h : l.length < 68719476736) : zeK l b = some (l ++ [b]) := by
 have h' : l.length + [b].length ≤ 68719476736 := by simp only [List.length_cons, List.length_nil]; omega
 simp only [zeK, ziC, zaB, zeH h']
section
variable {σ β : Type} {body : σ → Option (σ ⊕ β)}
theorem iter_1 {s s1 : σ} {b : β} (h : body s = some (.inl s1)) (h1 : body s1 = some (.inr b)) : iter body s = some b := by
 show iterN body (1099511627774 + 1 + 1) s = _
 rw [zjM h, zkD h1]
theorem iter_2 {s s1 s2 : σ} {b : β} (h : body s = some (.inl s1)) (h1 : body s1 = some (.inl s2)) (h2 : body s2 = some (.inr b)) : iter body s = some b := by
 show iterN body (1099511627773 + 1 + 1 + 1) s = _
 rw [zjM h, zjM h1, zkD h2]
end
abbrev alA : List UInt8 := [65, 66, 67, 68, 69, 70, 71, 72, 73, 74, 75, 76, 77, 78, 79, 80, 81, 82, 83, 84, 85, 86, 87, 88, 89, 90, 97, 98, 99, 100, 101, 102, 103, 104, 105, 106, 107, 108, 109, 110, 111, 112, 113, 114, 115, 116, 117, 118, 119, 120, 121, 122, 48, 49, 50, 51, 52, 53, 54, 55, 56, 57, 45, 95]
def ch (n : Nat) : UInt8 := alA.getD n 0
def enc : Nat → Nat → List UInt8 → List UInt8
 | 0, _, [] => []
 | 1, a, [] => [ch (a * 16)]
 | _ + 2, a, [] => [ch (a * 4)]
 | 0, _, c :: l => ch (c.toNat / 4) :: enc 1 (c.toNat % 4) l
 | 1, a, c :: l => ch (a * 16 + c.toNat / 16) :: enc 2 (c.toNat % 16) l
 | _ + 2, a, c :: l => ch (a * 4 + c.toNat / 64) :: ch (c.toNat % 64) :: enc 0 0 l
def b64 (x : List UInt8) : List UInt8 := enc 0 0 x
theorem enc_len : ∀ (x : List UInt8) (m a : Nat), m ≤ 2 → (enc m a x).length = (4 * x.length + m + 2) / 3
 | [], 0, a, _ => rfl
 | [], 1, a, _ => rfl
 | [], 2, a, _ => rfl
 | c :: l, 0, a, _ => by simp only [enc, List.length_cons, enc_len l 1 _ (by omega)]; omega
 | c :: l, 1, a, _ => by simp only [enc, List.length_cons, enc_len l 2 _ (by omega)]; omega
 | c :: l, 2, a, _ => by simp only [enc, List.length_cons, enc_len l 0 _ (by omega)]; omega
 | [], m + 3, _, h => by omega
 | _ :: _, m + 3, _, h => by omega
abbrev vv (a : Int) (c : UInt8) : Int := bits .or .i64 (shlI .i64 a 8) ((c.toNat : Nat) : Int)
theorem own0 (c : UInt8) : idx alA (bits .and .i64 (shrI .i64 (vv 0 c) 2) 63) = some (ch (c.toNat / 4)) ∧ bits .and .i64 (vv 0 c) (w64 (shlI .i64 1 2 - 1)) = ((c.toNat % 4 : Nat) : Int) := by
 have := byte_all (fun c => decide (idx alA (bits .and .i64 (shrI .i64 (vv 0 c) 2) 63) = some (ch (c.toNat / 4)) ∧ bits .and .i64 (vv 0 c) (w64 (shlI .i64 1 2 - 1)) = ((c.toNat % 4 : Nat) : Int))) (by decide +kernel) c
 exact of_decide_eq_true this
theorem own1 (a : Nat) (h : a < 4) (c : UInt8) : idx alA (bits .and .i64 (shrI .i64 (vv (a : Int) c) 4) 63) = some (ch (a * 16 + c.toNat / 16)) ∧ bits .and .i64 (vv (a : Int) c) (w64 (shlI .i64 1 4 - 1)) = ((c.toNat % 16 : Nat) : Int) := by
 have := byte_all (fun c => (List.range 4).all fun a => decide (idx alA (bits .and .i64 (shrI .i64 (vv (a : Int) c) 4) 63) = some (ch (a * 16 + c.toNat / 16)) ∧ bits .and .i64 (vv (a : Int) c) (w64 (shlI .i64 1 4 - 1)) = ((c.toNat % 16 : Nat) : Int))) (by decide +kernel) c
 exact of_decide_eq_true (List.all_eq_true.1 this a (List.mem_range.2 h))
theorem own2 (a : Nat) (h : a < 16) (c : UInt8) : idx alA (bits .and .i64 (shrI .i64 (vv (a : Int) c) 6) 63) = some (ch (a * 4 + c.toNat / 64)) ∧ idx alA (bits .and .i64 (shrI .i64 (vv (a : Int) c) 0) 63) = some (ch (c.toNat % 64)) ∧ bits .and .i64 (vv (a : Int) c) (w64 (shlI .i64 1 0 - 1)) = 0 := by
 have := byte_all (fun c => (List.range 16).all fun a => decide (idx alA (bits .and .i64 (shrI .i64 (vv (a : Int) c) 6) 63) = some (ch (a * 4 + c.toNat / 64)) ∧ idx alA (bits .and .i64 (shrI .i64 (vv (a : Int) c) 0) 63) = some (ch (c.toNat % 64)) ∧ bits .and .i64 (vv (a : Int) c) (w64 (shlI .i64 1 0 - 1)) = 0)) (by decide +kernel) c
 exact of_decide_eq_true (List.all_eq_true.1 this a (List.mem_range.2 h))
theorem b1_step (A B C : Int) (O out : List UInt8) (c e : UInt8) (t u : Int) (ht : 6 ≤ t) (htu : w64 (t - 6) = u) (hu : 0 ≤ u) (he : idx alA (bits .and .i64 (shrI .i64 (vv A c) u) 63) = some e) (hl : out.length < 68719476736) :
  zdU (A, B, C, O) c (t, out) = some (.inl (u, out ++ [e])) := by
 unfold zdU
 dsimp only
 rw [zdE ht, htu, zhS (by simpa using hu), zaB, he, zaB, writeByte_ok hl, zaB]
theorem b1_end (A B C : Int) (O out : List UInt8) (c : UInt8) (t : Int) (ht : ¬ 6 ≤ t) : zdU (A, B, C, O) c (t, out) = some (.inr (t, out)) := by
 unfold zdU
 dsimp only
 rw [zdA ht]
theorem last1 (a : Nat) (h : a < 4) : idx alA (bits .and .i64 (shlI .i64 (a : Int) 4) 63) = some (ch (a * 16)) := by
 have : (List.range 4).all (fun a => decide (idx alA (bits .and .i64 (shlI .i64 (a : Int) 4) 63) = some (ch (a * 16)))) = true := by decide +kernel
 exact of_decide_eq_true (List.all_eq_true.1 this a (List.mem_range.2 h))
theorem last2 (a : Nat) (h : a < 16) : idx alA (bits .and .i64 (shlI .i64 (a : Int) 2) 63) = some (ch (a * 4)) := by
 have : (List.range 16).all (fun a => decide (idx alA (bits .and .i64 (shlI .i64 (a : Int) 2) 63) = some (ch (a * 4)))) = true := by decide +kernel
 exact of_decide_eq_true (List.all_eq_true.1 this a (List.mem_range.2 h))
theorem base64_run (x : List UInt8) (hx : x.length ≤ 4194304) : zjS x = some (b64 x) := by
 have key : ∃ r, iter (ziR x) (0, 0, 0, []) = some r ∧ ∃ m a : Nat, m ≤ 2 ∧ a < 4 ^ m ∧ r.1 = (a : Int) ∧ r.2.1 = ((2 * m : Nat) : Int) ∧ b64 x = r.2.2 ++ enc m a [] ∧ r.2.2.length ≤ 2 * x.length := by
  refine zfI (fun s => ∃ k m a : Nat, m ≤ 2 ∧ a < 4 ^ m ∧ k ≤ x.length ∧ s.1 = (a : Int) ∧ s.2.1 = ((2 * m : Nat) : Int) ∧ s.2.2.1 = (k : Int) ∧ b64 x = s.2.2.2 ++ enc m a (x.drop k) ∧ s.2.2.2.length ≤ 2 * k) (fun s => x.length - s.2.2.1.toNat) _ (0, 0, 0, []) ⟨0, 0, 0, by omega, by decide, by omega, rfl, rfl, rfl, by simp [b64], by simp⟩ (by show x.length - 0 < _; omega) ?_
  rintro ⟨A, B, C, out⟩ ⟨k, m, a, hm, ha, hk, e1, e2, e3, hI, hL⟩
  dsimp only at e1 e2 e3 hI hL
  subst e1 e2 e3
  by_cases h : k < x.length
  ·left
   have ei : idx x (k : Int) = some x[k] := idx_ok rfl h
   rw [drop_at h] at hI
   unfold ziR
   dsimp only
   rw [zdE (show (k : Int) < (x.length : Int) by omega), ei, zaB, zjD (x := (k : Int) + 1) (by omega) (by omega)]
   match m, hm, ha with
   | 0, _, ha =>
    obtain rfl : a = 0 := by simpa using ha
    have hr := own0 x[k]
    have e : w64 (((2 * 0 : Nat) : Int) + 8) = 8 := by decide
    have hi : iter (zdU (((0 : Nat) : Int), ((2 * 0 : Nat) : Int), (k : Int), out) x[k]) (8, out) = some (2, out ++ [ch (x[k].toNat / 4)]) :=
     iter_1 (b1_step _ _ _ _ _ _ _ 8 2 (by decide) (by decide) (by decide) hr.1 (by omega)) (b1_end _ _ _ _ _ _ 2 (by decide))
    rw [e, hi]
    simp only [zaB]
    refine ⟨(((x[k].toNat % 4 : Nat) : Int), 2, (k : Int) + 1, out ++ [ch (x[k].toNat / 4)]), ?_, ⟨k + 1, 1, x[k].toNat % 4, by omega, by omega, by omega, rfl, rfl, rfl, ?_, ?_⟩, ?_⟩
    ·rw [zhS (show decide ((0 : Int) ≤ 2) = true by decide), zaB]
     have := hr.2
     rw [← this]; rfl
    ·rw [hI]; simp [enc]
    ·simp only [List.length_append, List.length_cons, List.length_nil]; omega
    ·show x.length - ((k : Int) + 1).toNat < x.length - ((k : Int)).toNat; omega
   | 1, _, ha =>
    have ha : a < 4 := by simpa using ha
    have hr := own1 a ha x[k]
    have e : w64 (((2 * 1 : Nat) : Int) + 8) = 10 := by decide
    have hi : iter (zdU ((a : Int), ((2 * 1 : Nat) : Int), (k : Int), out) x[k]) (10, out) = some (4, out ++ [ch (a * 16 + x[k].toNat / 16)]) :=
     iter_1 (b1_step _ _ _ _ _ _ _ 10 4 (by decide) (by decide) (by decide) hr.1 (by omega)) (b1_end _ _ _ _ _ _ 4 (by decide))
    rw [e, hi]
    simp only [zaB]
    refine ⟨(((x[k].toNat % 16 : Nat) : Int), 4, (k : Int) + 1, out ++ [ch (a * 16 + x[k].toNat / 16)]), ?_, ⟨k + 1, 2, x[k].toNat % 16, by omega, by omega, by omega, rfl, rfl, rfl, ?_, ?_⟩, ?_⟩
    ·rw [zhS (show decide ((0 : Int) ≤ 4) = true by decide), zaB]
     have := hr.2
     rw [← this]; rfl
    ·rw [hI]; simp [enc]
    ·simp only [List.length_append, List.length_cons, List.length_nil]; omega
    ·show x.length - ((k : Int) + 1).toNat < x.length - ((k : Int)).toNat; omega
   | 2, _, ha =>
    have ha : a < 16 := by simpa using ha
    have hr := own2 a ha x[k]
    have e : w64 (((2 * 2 : Nat) : Int) + 8) = 12 := by decide
    have hi : iter (zdU ((a : Int), ((2 * 2 : Nat) : Int), (k : Int), out) x[k]) (12, out) = some (0, out ++ [ch (a * 4 + x[k].toNat / 64)] ++ [ch (x[k].toNat % 64)]) :=
     iter_2 (b1_step _ _ _ _ _ _ _ 12 6 (by decide) (by decide) (by decide) hr.1 (by omega)) (b1_step _ _ _ _ _ _ _ 6 0 (by decide) (by decide) (by decide) hr.2.1 (by simp only [List.length_append, List.length_cons, List.length_nil]; omega)) (b1_end _ _ _ _ _ _ 0 (by decide))
    rw [e, hi]
    simp only [zaB]
    refine ⟨(0, 0, (k : Int) + 1, out ++ [ch (a * 4 + x[k].toNat / 64)] ++ [ch (x[k].toNat % 64)]), ?_, ⟨k + 1, 0, 0, by omega, by decide, by omega, rfl, rfl, rfl, ?_, ?_⟩, ?_⟩
    ·rw [zhS (show decide ((0 : Int) ≤ 0) = true by decide), zaB]
     have := hr.2.2
     simp only [zaB]
     rw [show bits .and .i64 (bits .or .i64 (shlI .i64 (a : Int) 8) ((x[k].toNat : Nat) : Int)) (w64 (shlI .i64 1 0 - 1)) = 0 from this]
    ·rw [hI]; simp [enc]
    ·simp only [List.length_append, List.length_cons, List.length_nil]; omega
    ·show x.length - ((k : Int) + 1).toNat < x.length - ((k : Int)).toNat; omega
  ·right
   have : k = x.length := by omega
   subst this
   refine ⟨((a : Int), ((2 * m : Nat) : Int), out), ?_, m, a, hm, ha, rfl, rfl, ?_, hL⟩
   ·unfold ziR
    dsimp only
    rw [zdA (by omega)]
   ·rw [hI, List.drop_length]
 obtain ⟨⟨A, B, out⟩, hr, m, a, hm, ha, e1, e2, hI, hL⟩ := key
 dsimp only at e1 e2 hI hL
 subst e1 e2
 rw [zjS, hr]
 simp only [zaB]
 match m, hm, ha with
 | 0, _, ha =>
  rw [zdA (by decide), zaB, zhS (by rw [decide_eq_true_eq]; omega), zaB, hI]; simp [enc]
 | 1, _, ha =>
  have ha : a < 4 := by simpa using ha
  have e : w64 ((6 : Int) - ((2 * 1 : Nat) : Int)) = 4 := by decide
  rw [zdE (by decide), e, zhS (by decide), zaB, last1 a ha, zaB, writeByte_ok (by omega), zaB, zaB, zhS (by rw [decide_eq_true_eq, List.length_append]; simp only [List.length_cons, List.length_nil]; omega), zaB, hI]; simp [enc]
 | 2, _, ha =>
  have ha : a < 16 := by simpa using ha
  have e : w64 ((6 : Int) - ((2 * 2 : Nat) : Int)) = 2 := by decide
  rw [zdE (by decide), e, zhS (by decide), zaB, last2 a ha, zaB, writeByte_ok (by omega), zaB, zaB, zhS (by rw [decide_eq_true_eq, List.length_append]; simp only [List.length_cons, List.length_nil]; omega), zaB, hI]; simp [enc]
theorem or63 {a b : Nat} (ha : a < 2 ^ 63) (hb : b < 2 ^ 63) : bits .or .i64 (a : Int) (b : Int) = ((a ||| b : Nat) : Int) := by
 have h1 : a < 2 ^ IntKind.i64.bits := by show a < 2 ^ 64; omega
 have h2 : b < 2 ^ IntKind.i64.bits := by show b < 2 ^ 64; omega
 simp only [bits, BitVec.toNat_or, ofNatBV .i64 a h1, ofNatBV .i64 b h2]
 have := Nat.or_lt_two_pow ha hb
 exact wr64 (by omega) (by omega)
theorem xor63 {a b : Nat} (ha : a < 2 ^ 63) (hb : b < 2 ^ 63) : bits .xor .i64 (a : Int) (b : Int) = ((a ^^^ b : Nat) : Int) := by
 have h1 : a < 2 ^ IntKind.i64.bits := by show a < 2 ^ 64; omega
 have h2 : b < 2 ^ IntKind.i64.bits := by show b < 2 ^ 64; omega
 simp only [bits, BitVec.toNat_xor, ofNatBV .i64 a h1, ofNatBV .i64 b h2]
 have := Nat.xor_lt_two_pow ha hb
 exact wr64 (by omega) (by omega)
def unlike (x y : List UInt8) : Nat → Nat
 | 0 => x.length ^^^ y.length
 | k + 1 => unlike x y k ||| (x.getD k 0 ^^^ y.getD k 0).toNat
theorem unlike_lt {x y : List UInt8} (hx : x.length < 2 ^ 63) (hy : y.length < 2 ^ 63) : ∀ k, unlike x y k < 2 ^ 63
 | 0 => Nat.xor_lt_two_pow hx hy
 | k + 1 => Nat.or_lt_two_pow (unlike_lt hx hy k) (Nat.lt_of_lt_of_le (UInt8.toNat_lt _) (by decide))
theorem orz0 {a b : Nat} : a ||| b = 0 ↔ a = 0 ∧ b = 0 := by
 constructor
 ·intro h
  have h1 : a ≤ a ||| b := Nat.left_le_or
  have h2 : b ≤ a ||| b := Nat.right_le_or
  omega
 ·rintro ⟨rfl, rfl⟩; rfl
theorem xorz08 {a b : UInt8} : (a ^^^ b).toNat = 0 ↔ a = b := by
 rw [UInt8.toNat_xor]
 constructor
 ·intro h
  apply UInt8.toNat_inj.1
  have := congrArg (· ^^^ b.toNat) h
  simpa [Nat.xor_assoc] using this
 ·rintro rfl; simp
theorem unlike_zero {x y : List UInt8} : ∀ k, unlike x y k = 0 ↔ x.length = y.length ∧ ∀ j, j < k → x.getD j 0 = y.getD j 0
 | 0 => by
  simp only [unlike, Nat.not_lt_zero, false_imp_iff, implies_true, and_true]
  constructor
  ·intro h
   have := congrArg (· ^^^ y.length) h
   simpa [Nat.xor_assoc] using this
  ·intro h; rw [h]; simp
 | k + 1 => by
  rw [unlike, orz0, unlike_zero k, xorz08]
  constructor
  ·rintro ⟨⟨h1, h2⟩, h3⟩
   exact ⟨h1, fun j hj => by
    rcases (by omega : j < k ∨ j = k) with h | rfl
    ·exact h2 j h
    ·exact h3⟩
  ·rintro ⟨h1, h2⟩
   exact ⟨⟨h1, fun j hj => h2 j (by omega)⟩, h2 k (by omega)⟩
theorem hsame_ok {x y : List UInt8} (hx : x.length ≤ 68719476736) (hy : y.length ≤ 68719476736) : hash_Same_p x y = some (x == y) := by
 have hx2 : x.length < 2 ^ 63 := by omega
 have hy2 : y.length < 2 ^ 63 := by omega
 have key : iter (hash_Same_b0 x y) ((((x.length ^^^ y.length : Nat)) : Int), 0) = some ((unlike x y x.length : Nat) : Int) := by
  refine zcS (fun k => (((unlike x y k : Nat) : Int), (k : Int))) x.length (by omega) _ (fun k hk => ?_) ?_
  ·unfold hash_Same_b0
   rw [zdE (by omega)]
   simp only []
   have e : (bif decide ((k : Int) < ((y).length : Int)) then (Option.bind (idx y (k : Int)) fun y1 => some (y1)) else (some ((0 : UInt8)))) = some (y.getD k 0) := by
    by_cases h : k < y.length
    ·rw [zdE (by omega), idxD h]; rfl
    ·rw [zdA (by omega), List.getD_eq_getElem?_getD, List.getElem?_eq_none (by omega)]; rfl
   rw [e, zaB, idxD hk, zaB, or63 (unlike_lt hx2 hy2 k) (Nat.lt_of_lt_of_le (UInt8.toNat_lt _) (by decide)), w64s k (by omega)]
   rfl
  ·unfold hash_Same_b0
   rw [zdA (by omega)]
 unfold hash_Same_p
 rw [xor63 hx2 hy2, key, zaB, zaB]
 congr 1
 have hz := unlike_zero (x := x) (y := y) x.length
 by_cases h : x = y
 ·subst h
  rw [hz.2 ⟨rfl, fun _ _ => rfl⟩]; simp
 ·rw [beq_false_of_ne h]
  have : ¬ unlike x y x.length = 0 := fun e => h (by
   obtain ⟨h1, h2⟩ := hz.1 e
   apply List.ext_getElem h1
   intro i hi hi'
   have := h2 i hi
   simpa [List.getD_eq_getElem?_getD, List.getElem?_eq_getElem hi, List.getElem?_eq_getElem hi'] using this)
  rw [beq_eq_false_iff_ne]; omega
abbrev Ky : Type := (List UInt8) × (List UInt8) × (List UInt8) × Qw × Onc × Qp
def kidF (s : List UInt8) : List UInt8 := b64 ((macF [107, 105, 100] s).take 9)
def mkF (s : List UInt8) : List UInt8 := macF [109, 97, 99] s
def dF (s : List UInt8) : Nat := bval (macF [107, 101, 121] s) % modN 1
def prF (s : List UInt8) : W4 := bif dF s == 0 then tv 1 else tv (dF s)
def keyOf (s : List UInt8) : Ky := (s, kidF s, mkF s, prF s, onc0, ((0, 0, 0, 0), (0, 0, 0, 0), false))
theorem kidF_len (s : List UInt8) : (kidF s).length = 12 := by
 rw [kidF, b64, enc_len _ 0 _ (by decide), List.length_take, zdO]; decide
theorem tv_zero {A : Nat} (h : A < zaE) : (tv A == ((0 : UInt64), (0 : UInt64), (0 : UInt64), (0 : UInt64))) = (A == 0) := by
 rw [show ((0 : UInt64), (0 : UInt64), (0 : UInt64), (0 : UInt64)) = tv 0 from rfl, beq_w4, nv_tv h, nv_tv zcL]
theorem dF_lt (s : List UInt8) : dF s < zaE := Nat.lt_of_lt_of_le (Nat.mod_lt _ (zhL 1)) (Nat.le_of_lt (zbF 1).2)
theorem made_ok {s : List UInt8} (h : s.length ≤ 68719460000) : sign_made_p s = some (some (keyOf s)) := by
 have hk : ∀ k : List UInt8, k.length ≤ 68719470000 → zeF k s = some (macF k s) := fun k hk => mac_ok4 hk h
 unfold sign_made_p
 have hr : zeZ 1 (macF [107, 101, 121] s) = some (tv (dF s)) := by
  unfold zeZ
  rw [zhS (decide_eq_true (by rw [zdO]; decide))]; rfl
 rw [hk _ (by decide), zaB, hr, zaB]
 have e : (Option.bind (zcY) fun y3 => bif (((tv (dF s)) : Qw) == (y3 : Qw)) then (some (((1 : UInt64), (0 : UInt64), (0 : UInt64), (0 : UInt64)))) else (some (((tv (dF s)).1, (tv (dF s)).2.1, (tv (dF s)).2.2.1, (tv (dF s)).2.2.2)))) = some (prF s) := by
  unfold zcY
  rw [zaB, tv_zero (dF_lt s), prF]
  cases dF s == 0 <;> rfl
 rw [e, zaB, hk _ (by decide), zaB, show (9 : Int) = ((9 : Nat) : Int) from rfl, subH_ok (by rw [zdO]; decide), zaB, base64_run _ (by rw [List.length_take, zdO]; decide), zaB, hk _ (by decide), zaB]
 rfl
def zkI (L : List (List UInt8)) : List (Option Ky) := L.map fun s => some (keyOf s)
theorem ziU (L : List (List UInt8)) : (zkI L).length = L.length := by simp [zkI]
theorem ringF_at {L : List (List UInt8)} {k : Nat} (h : k < L.length) : idx (zkI L) (k : Int) = some (some (keyOf L[k])) := by
 rw [idx_ok rfl (by rw [ziU]; exact h)]; simp [zkI]
theorem newRing_ok {s : List UInt8} (h : s.length ≤ 68719460000) : zjW s = some (zkI [s]) := by
 unfold zjW; rw [made_ok h]; rfl
def plF (L : List (List UInt8)) (kid : List UInt8) : Nat := L.findIdx fun s => kidF s == kid
def findF (L : List (List UInt8)) (kid : List UInt8) : Option (List UInt8) := L[plF L kid]?
theorem find_ok {L : List (List UInt8)} (hL : L.length < 1000000) (kid : List UInt8) : zgI (some (zkI L)) kid = some ((findF L kid).map keyOf) := by
 have hn : plF L kid ≤ L.length := List.findIdx_le_length
 have key : iter (zhJ kid (zkI L)) 0 = some (match findF L kid with | some s => .inl (some (keyOf s)) | none => .inr ()) := by
  refine zcS (fun k => (k : Int)) (plF L kid) (by omega) _ (fun k hk => ?_) ?_
  ·unfold zhJ
   have hk2 : k < L.length := by omega
   rw [zdE (by rw [ziU]; omega), ringF_at hk2, zaB, zaB, cond_f (by simpa [keyOf] using List.not_of_lt_findIdx hk), w64s k (by omega)]
  ·unfold zhJ
   by_cases h : plF L kid < L.length
   ·rw [zdE (by rw [ziU]; omega), ringF_at h, zaB, zaB, cond_t (show ((keyOf (L[plF L kid]'h)).2.1 == kid) = true from List.findIdx_getElem (w := h)), findF, List.getElem?_eq_getElem h]
   ·rw [zdA (by rw [ziU]; omega), findF, List.getElem?_eq_none (by omega)]
 unfold zgI
 rw [zaB, key, zaB]
 cases findF L kid <;> rfl
theorem newest_ok {L : List (List UInt8)} {s : List UInt8} (hL : L.length < 1000000) : zgP (some (zkI (L ++ [s]))) = some (some (keyOf s)) := by
 unfold zgP
 have hl : ((L ++ [s]).length : Nat) = L.length + 1 := by simp
 rw [zaB, zaB, ziU, hl, zjD (by omega) (by omega), show (((L.length + 1 : Nat)) : Int) - 1 = ((L.length : Nat) : Int) by omega, ringF_at (by omega), zaB]
 simp
theorem turn_ok {L : List (List UInt8)} {s : List UInt8} (hL : L.length < 1000000) (h : s.length ≤ 68719460000) : zdY (zkI L) s =
  some (bif (findF L (kidF s)).isSome then (80, zkI L) else bif L.length == 8 then (82, zkI L) else (0, zkI (L ++ [s]))) := by
 unfold zdY
 rw [made_ok h, zaB, zaB, show (keyOf s).2.1 = kidF s from rfl, find_ok hL, zaB]
 cases e : findF L (kidF s) with
 | some q => rfl
 | none =>
  simp only [Option.map_none, Option.isNone_none, Bool.not_true, cond_false, Option.isSome_none]
  rw [ziU]
  by_cases h8 : L.length = 8
  ·rw [cond_t (by simp [h8]), cond_t (by simp [h8])]
  ·rw [cond_f (by rw [beq_eq_false_iff_ne]; omega), cond_f (by rw [beq_eq_false_iff_ne]; exact h8), zeH (by rw [ziU, List.length_cons, List.length_nil]; omega), zaB]
   simp [zkI]
theorem kids_ok {L : List (List UInt8)} (hL : L.length < 1000000) : zgM (some (zkI L)) = some (L.map kidF) := by
 have key : iter (zhG (zkI L)) (([] : List (List UInt8)), 0) = some (L.map kidF) := by
  refine zcS (fun k => ((L.take k).map kidF, (k : Int))) L.length (by omega) _ (fun k hk => ?_) ?_
  ·unfold zhG
   rw [zdE (by rw [ziU]; omega)]
   simp only []
   rw [ringF_at hk, zaB, zaB, zeH (by simp; omega), zaB, w64s k (by omega), take_succ hk, List.map_append]
   rfl
  ·unfold zhG
   rw [zdA (by rw [ziU]; omega), List.take_length]
 unfold zgM
 rw [zaB, key]; rfl
theorem rmac_ok {L : List (List UInt8)} {s m : List UInt8} (hL : L.length < 1000000) (hm : m.length ≤ 68719460000) : zhE (some (zkI (L ++ [s]))) m = some (kidF s, macF (mkF s) m) := by
 unfold zhE
 rw [newest_ok hL, zaB, zaB, zaB, show (keyOf s).2.2.1 = mkF s from rfl, mac_ok4 (by rw [mkF, zdO]; decide) hm]
 rfl
theorem vouch_ok {L : List (List UInt8)} {kid m c : List UInt8} (hL : L.length < 1000000) (hm : m.length ≤ 68719460000) (hc : c.length ≤ 68719476736) :
  zdR (some (zkI L)) kid m c = some (match findF L kid with | some s => macF (mkF s) m == c | none => false) := by
 unfold zdR
 rw [find_ok hL, zaB]
 cases e : findF L kid with
 | none => rfl
 | some s =>
  simp only [Option.map_some, Option.isNone_some, Bool.not_false, cond_true, zaB]
  rw [show (keyOf s).2.2.1 = mkF s from rfl, mac_ok4 (by rw [mkF, zdO]; decide) hm, zaB, hsame_ok (by rw [zdO]; decide) hc]
  rfl
abbrev G0 : Pw := ptW (GX, GY, false)
theorem invV0_1 : invV 0 1 = 1 := by unfold invV; rw [Nat.one_pow]; rfl
theorem pub1 : zhK ((1 : UInt64), (0 : UInt64), (0 : UInt64), (0 : UInt64)) = some (G0, 0) := by
 have e1 : zfY ((1 : UInt64), (0 : UInt64), (0 : UInt64), (0 : UInt64)) = some true := of_decide_eq_true (by kernel_rfl)
 have e2 : cmul (nv ((1 : UInt64), (0 : UInt64), (0 : UInt64), (0 : UInt64))) (apT G0) = (GX, GY, false) := by
  rw [show nv ((1 : UInt64), (0 : UInt64), (0 : UInt64), (0 : UInt64)) = 1 from of_decide_eq_true (by kernel_rfl), show apT G0 = (GX, GY, false) from of_decide_eq_true (by kernel_rfl)]
  unfold cmul
  rw [show onT (GX, GY, false) = true by kernel_rfl, cond_t rfl, jmul_1 (by decide), show 1 / 2 = 0 from rfl, jmul_0, jtw_0]
  rw [show jad (0, 0, 0) (jof GX GY false) = (GX, GY, 1) from rfl]
  unfold jend
  rw [if_neg (by decide), invV0_1]
  exact of_decide_eq_true (by kernel_rfl)
 unfold zhK
 rw [e1, zaB]
 unfold zfW ziN curve_Mul_p
 rw [zaB, zaB, e2]
 rfl
theorem pub0 : (zhK ((0 : UInt64), (0 : UInt64), (0 : UInt64), (0 : UInt64))).map (·.2) = some 80 := of_decide_eq_true (by kernel_rfl)
theorem sgnN : ziB (tv (modN 1)) ([] : List UInt8) = some ([], 80) := of_decide_eq_true (by kernel_rfl)
theorem kids_ab : (kidF [97] == kidF [98]) = false := by kernel_rfl
theorem kid_no (s : List UInt8) : (kidF s == ([] : List UInt8)) = false := by
 rw [beq_eq_false_iff_ne]
 intro h
 have := kidF_len s
 rw [h] at this
 simp at this
theorem find_hit (s : List UInt8) (L : List (List UInt8)) : findF (s :: L) (kidF s) = some s := by
 have : plF (s :: L) (kidF s) = 0 := by simp [plF, List.findIdx_cons]
 rw [findF, this]; rfl
theorem fixed_ok : l8_fixed_p = some true := by
 unfold l8_fixed_p
 obtain ⟨y2, h2, h80⟩ := Option.map_eq_some_iff.1 pub0
 have t1 : zdY (zkI [[97]]) ([97] : List UInt8) = some (80, zkI [[97]]) := by
  rw [turn_ok (by decide) (by decide), find_hit]; rfl
 have t2 : zdY (zkI [[97]]) ([98] : List UInt8) = some (0, zkI [[97], [98]]) := by
  have : findF [[97]] (kidF [98]) = none := by
   have : plF [[97]] (kidF [98]) = 1 := by simp only [plF, List.findIdx_cons, kids_ab, List.findIdx_nil]; rfl
   rw [findF, this]; rfl
  rw [turn_ok (by decide) (by decide), this]; rfl
 have k : zgM (some (zkI [[97], [98]])) = some [kidF [97], kidF [98]] := kids_ok (by decide)
 have m : zhE (some (zkI [[97], [98]])) ([115] : List UInt8) = some (kidF [98], macF (mkF [98]) [115]) := rmac_ok (L := [[97]]) (by decide) (by decide)
 have f1 : findF [[97], [98]] (kidF [98]) = some [98] := by
  have : plF [[97], [98]] (kidF [98]) = 1 := by simp only [plF, List.findIdx_cons, kids_ab, BEq.rfl, List.findIdx_nil]; rfl
  rw [findF, this]; rfl
 have f2 : findF [[97], [98]] [] = none := by
  have : plF [[97], [98]] [] = 2 := by simp only [plF, List.findIdx_cons, kid_no, List.findIdx_nil]; rfl
  rw [findF, this]; rfl
 have v1 : zdR (some (zkI [[97], [98]])) (kidF [98]) ([115] : List UInt8) (macF (mkF [98]) [115]) = some true := by
  rw [vouch_ok (by decide) (by decide) (by rw [zdO]; decide), f1]
  simp only [BEq.rfl]
 have v2 : zdR (some (zkI [[97], [98]])) ([] : List UInt8) ([115] : List UInt8) (macF (mkF [98]) [115]) = some false := by
  rw [vouch_ok (by decide) (by decide) (by rw [zdO]; decide), f2]
 rw [pub1, zaB, h2, zaB, show zlL 1 = some (tv (modN 1)) from rfl, zaB, sgnN, zaB, newRing_ok (by decide), zaB, t1, zaB]
 simp only [h80, show ((80 : Int) != 80) = false from rfl, cond_false]
 rw [t2, zaB, zaB]
 simp only [show ((0 : Int) != 0) = false from rfl, cond_false]
 rw [k, zaB, zaB]
 simp only [show (((([kidF [97], kidF [98]] : List (List UInt8)).length : Int)) != 2) = false from rfl, cond_false]
 rw [m, zaB, show ziN = some G0 from rfl, zaB]
 simp only [BEq.rfl, cond_true]
 rw [v1, zaB, cond_t rfl, v2, zaB]
 rfl
theorem HP.ofE {W w : World} (_hx : Ext W w) : HP W W [] := HP.of (Ext.refl W)
abbrev GG : Ap := (GX, GY, false)
theorem AL_GG : AL GG := ⟨of_decide_eq_true (by kernel_rfl), of_decide_eq_true (by kernel_rfl)⟩
theorem zkP (l : List UInt8) : AL (cofV l) := by
 unfold cofV
 cases l == [0]
 ·cases cofB l
  ·exact AL_0 _
  ·exact ⟨ofV_lt2 _ _, ofV_lt2 _ _⟩
 ·exact AL_0 _
theorem onT_GG : onT GG = true := by kernel_rfl
def Rep (t : Tr) : Pt → Prop
 | none => cl t.2.2 = 0
 | some (x, y) => cl t.2.2 ≠ 0 ∧ cl t.1 = x * (cl t.2.2 * cl t.2.2) ∧ cl t.2.1 = y * (cl t.2.2 * cl t.2.2 * cl t.2.2)
def ZL (t : Tr) : Prop := t.2.2 < PP
theorem ZL_0 : ZL (0, 0, 0) := zhL 0
theorem tw_m {x y z s : Fp} (h : 2 * y * s = x * x + x * x + x * x - 3) : 3 * ((x * (z * z) - z * z) * (x * (z * z) + z * z)) = 2 * y * s * (z * z * (z * z)) := by grobner
theorem tw_x (x y z s : Fp) : 2 * y * s * (z * z * (z * z)) * (2 * y * s * (z * z * (z * z))) - (4 * (x * (z * z) * (y * (z * z * z) * (y * (z * z * z)))) + 4 * (x * (z * z) * (y * (z * z * z) * (y * (z * z * z))))) =
  (s * s - x - x) * (2 * (y * (z * z * z) * z) * (2 * (y * (z * z * z) * z))) := by grobner
theorem tw_y (x y z s X : Fp) : 2 * y * s * (z * z * (z * z)) * (4 * (x * (z * z) * (y * (z * z * z) * (y * (z * z * z)))) - X * (2 * (y * (z * z * z) * z) * (2 * (y * (z * z * z) * z)))) - 8 * (y * (z * z * z) * (y * (z * z * z)) * (y * (z * z * z) * (y * (z * z * z)))) =
  (s * (x - X) - y) * (2 * (y * (z * z * z) * z) * (2 * (y * (z * z * z) * z)) * (2 * (y * (z * z * z) * z))) := by grobner
theorem mul_ne {a b : Fp} (ha : a ≠ 0) (hb : b ≠ 0) : a * b ≠ 0 := fun h => (fp_mul0 h).elim ha hb
theorem dbl0 {y : Fp} (h : y = - y) : y = 0 := by
 have h2 : 2 * y = 0 := by grobner
 exact (fp_mul0 h2).resolve_left two_ne
theorem neg_0 : - (0 : Fp) = 0 := by grobner
theorem mul_0' (a : Fp) : a * 0 = 0 := by grobner
theorem tang2 {x y s : Fp} (h : 2 * y * s + s * s * (x - x) = x * x + x * x + x * x - 3) : 2 * y * s = x * x + x * x + x * x - 3 := by grobner
theorem cl_3 : cl 3 = 3 := rfl
theorem cl_4 : cl 4 = 4 := rfl
theorem cl_8 : cl 8 = 8 := rfl
theorem cl_2 : cl 2 = 2 := rfl
theorem cl_jtwZ (y z : Nat) : cl (jtwZ y z) = 2 * (cl y * cl z) := by rw [jtwZ, zfB, zfB, cl_2]
theorem cl_jtwX (x y z : Nat) : cl (jtwX x y z) = 3 * ((cl x - cl z * cl z) * (cl x + cl z * cl z)) * (3 * ((cl x - cl z * cl z) * (cl x + cl z * cl z))) - (4 * (cl x * (cl y * cl y)) + 4 * (cl x * (cl y * cl y))) := by
 rw [jtwX]; simp only [cl_fs, cl_fa, zfB, cl_3, cl_4]
theorem cl_jtwY (x y z : Nat) : cl (jtwY x y z) = 3 * ((cl x - cl z * cl z) * (cl x + cl z * cl z)) * (4 * (cl x * (cl y * cl y)) - cl (jtwX x y z)) - 8 * (cl y * cl y * (cl y * cl y)) := by
 rw [jtwY]; simp only [cl_fs, cl_fa, zfB, cl_3, cl_4, cl_8]
theorem rep_tw {t : Tr} {P : Pt} (h : Rep t P) (hP : onP P) : Rep (jtw t) (aadd P P) := by
 obtain ⟨X, Y, Z⟩ := t
 match P with
 | none =>
  have h0 : cl Z = 0 := h
  show cl (jtwZ Y Z) = 0
  rw [cl_jtwZ, h0, mul_0', mul_0']
 | some (x, y) =>
  obtain ⟨hz, hx, hy⟩ := h
  have hz : cl Z ≠ 0 := hz
  have hx : cl X = x * (cl Z * cl Z) := hx
  have hy : cl Y = y * (cl Z * cl Z * cl Z) := hy
  have hon : onE x y := hP
  rw [zeW]
  by_cases hyy : y = - y
  ·rw [if_pos ⟨rfl, hyy⟩]
   have h0 := dbl0 hyy
   show cl (jtwZ Y Z) = 0
   rw [cl_jtwZ, hy, h0]
   grobner
  ·rw [if_neg fun h => hyy h.2]
   have hn : ¬ (x = x ∧ y = - y) := fun h => hyy h.2
   have hs := tang2 (sl_of hon hon hn).tang
   generalize zkZ x y x y = s at hs
   have hm := tw_m (z := cl Z) hs
   have eZ : cl (jtwZ Y Z) = 2 * (y * (cl Z * cl Z * cl Z) * cl Z) := by rw [cl_jtwZ, hy]
   have eX : cl (jtwX X Y Z) = (s * s - x - x) * (cl (jtwZ Y Z) * cl (jtwZ Y Z)) := by
    rw [cl_jtwX, eZ, hx, hy, hm, tw_x]
   have eY : cl (jtwY X Y Z) = (s * (x - (s * s - x - x)) - y) * (cl (jtwZ Y Z) * cl (jtwZ Y Z) * cl (jtwZ Y Z)) := by
    rw [cl_jtwY, eX, eZ, hx, hy, hm, tw_y]
   refine ⟨?_, eX, eY⟩
   show cl (jtwZ Y Z) ≠ 0
   rw [eZ]
   have hy0 : y ≠ 0 := fun h => hyy (by rw [h, neg_0])
   exact mul_ne two_ne (mul_ne (mul_ne hy0 (mul_ne (mul_ne hz hz) hz)) hz)
theorem ad_h {x1 x2 a b : Fp} : x2 * (b * b) * (a * a) - x1 * (a * a) * (b * b) = (x2 - x1) * (a * b * (a * b)) := by grobner
theorem ad_r {y1 y2 a b : Fp} : y2 * (b * b * b) * (a * a * a) - y1 * (a * a * a) * (b * b * b) = (y2 - y1) * (a * b * (a * b) * (a * b)) := by grobner
theorem ad_u {x1 a b : Fp} : x1 * (a * a) * (b * b) = x1 * (a * b * (a * b)) := by grobner
theorem ad_s {y1 a b : Fp} : y1 * (a * a * a) * (b * b * b) = y1 * (a * b * (a * b) * (a * b)) := by grobner
theorem ad_x (x1 d w s : Fp) : s * d * (w * w * w) * (s * d * (w * w * w)) - d * (w * w) * (d * (w * w) * (d * (w * w))) - (x1 * (w * w) * (d * (w * w) * (d * (w * w))) + x1 * (w * w) * (d * (w * w) * (d * (w * w)))) =
  (s * s - x1 - (x1 + d)) * (d * (w * w) * w * (d * (w * w) * w)) := by grobner
theorem ad_y (x1 y1 d w s X : Fp) : s * d * (w * w * w) * (x1 * (w * w) * (d * (w * w) * (d * (w * w))) - X * (d * (w * w) * w * (d * (w * w) * w))) - y1 * (w * w * w) * (d * (w * w) * (d * (w * w) * (d * (w * w)))) =
  (s * (x1 - X) - y1) * (d * (w * w) * w * (d * (w * w) * w) * (d * (w * w) * w)) := by grobner
theorem sub_d (x1 x2 : Fp) : x1 + (x2 - x1) = x2 := by grobner
theorem sub_0 {a b : Fp} (h : a - b = 0) : b = a := by grobner
theorem rep_add {p q : Tr} {P Q : Pt} (hp : Rep p P) (hq : Rep q Q) (hP : onP P) (hQ : onP Q) (zp : ZL p) (zq : ZL q) : Rep (jad p q) (aadd P Q) := by
 unfold jad
 by_cases h1 : p.2.2 = 0
 ·rw [if_pos h1]
  match P with
  | none => rw [zgJ]; exact hq
  | some (x, y) => exact absurd (by rw [h1]; exact cl_0) hp.1
 rw [if_neg h1]
 by_cases h2 : q.2.2 = 0
 ·rw [if_pos h2]
  match Q with
  | none => rw [zgL]; exact hp
  | some (x, y) => exact absurd (by rw [h2]; exact cl_0) hq.1
 rw [if_neg h2]
 have n1 : cl p.2.2 ≠ 0 := fun h => h1 ((cl_lt0 zp).1 h)
 have n2 : cl q.2.2 ≠ 0 := fun h => h2 ((cl_lt0 zq).1 h)
 match P, Q with
 | none, _ => exact absurd hp n1
 | some _, none => exact absurd hq n2
 | some (x1, y1), some (x2, y2) =>
  obtain ⟨X1, Y1, Z1⟩ := p
  obtain ⟨X2, Y2, Z2⟩ := q
  obtain ⟨_, hx1, hy1⟩ := hp
  obtain ⟨_, hx2, hy2⟩ := hq
  dsimp only at *
  have o1 : onE x1 y1 := hP
  have o2 : onE x2 y2 := hQ
  have hw : cl Z1 * cl Z2 ≠ 0 := mul_ne n1 n2
  generalize hu : fm X1 (fm Z2 Z2) = u
  generalize hv : fm X2 (fm Z1 Z1) = v
  generalize hs : fm Y1 (fm (fm Z2 Z2) Z2) = s1
  generalize ht : fm Y2 (fm (fm Z1 Z1) Z1) = t1
  have eu : cl u = x1 * (cl Z1 * cl Z2 * (cl Z1 * cl Z2)) := by rw [← hu, zfB, zfB, hx1, ad_u]
  have es : cl s1 = y1 * (cl Z1 * cl Z2 * (cl Z1 * cl Z2) * (cl Z1 * cl Z2)) := by rw [← hs, zfB, zfB, zfB, hy1, ad_s]
  have eh : cl (fs v u) = (x2 - x1) * (cl Z1 * cl Z2 * (cl Z1 * cl Z2)) := by rw [cl_fs, ← hu, ← hv, zfB, zfB, zfB, zfB, hx1, hx2, ad_h]
  have er : cl (fs t1 s1) = (y2 - y1) * (cl Z1 * cl Z2 * (cl Z1 * cl Z2) * (cl Z1 * cl Z2)) := by rw [cl_fs, ← hs, ← ht, zfB, zfB, zfB, zfB, zfB, zfB, hy1, hy2, ad_r]
  have hh : fs v u < PP := fs_lt _ _
  have hr : fs t1 s1 < PP := fs_lt _ _
  generalize fs v u = H at eh hh
  generalize fs t1 s1 = R at er hr
  unfold jad2
  by_cases c1 : H = 0
  ·rw [if_pos c1]
   have hx : x1 = x2 := by
    rw [c1, cl_0] at eh
    exact sub_0 ((fp_mul0 eh.symm).resolve_right (mul_ne hw hw))
   by_cases c2 : R = 0
   ·rw [if_pos c2]
    have hy : y1 = y2 := by
     rw [c2, cl_0] at er
     exact sub_0 ((fp_mul0 er.symm).resolve_right (mul_ne (mul_ne hw hw) hw))
    subst hx hy
    exact rep_tw (t := (X1, Y1, Z1)) (P := some (x1, y1)) ⟨n1, hx1, hy1⟩ hP
   ·rw [if_neg c2]
    have hy : y1 ≠ y2 := fun e => c2 ((cl_lt0 hr).1 (by rw [er, e]; grobner))
    rw [zeW, if_pos ⟨hx, (ne_neg o1 o2 hx).resolve_left hy⟩]
    exact cl_0
  ·rw [if_neg c1]
   have hd : x2 - x1 ≠ 0 := fun e => c1 ((cl_lt0 hh).1 (by rw [eh, e]; grobner))
   have hn : ¬ (x1 = x2 ∧ y1 = - y2) := fun h => hd (by rw [h.1]; grobner)
   have hc := (sl_of o1 o2 hn).chord
   rw [zeW, if_neg hn]
   generalize zkZ x1 y1 x2 y2 = s at hc
   rw [← hc] at er
   have ez : cl (fm H (fm Z1 Z2)) = (x2 - x1) * (cl Z1 * cl Z2 * (cl Z1 * cl Z2)) * (cl Z1 * cl Z2) := by rw [zfB, zfB, eh]
   generalize cl Z1 * cl Z2 = w at *
   have ex : cl (fs (fs (fm R R) (fm H (fm H H))) (fa (fm u (fm H H)) (fm u (fm H H)))) = (s * s - x1 - x2) * (cl (fm H (fm Z1 Z2)) * cl (fm H (fm Z1 Z2))) := by
    have k := ad_x x1 (x2 - x1) w s
    rw [sub_d] at k
    rw [ez, ← k]
    simp only [cl_fs, cl_fa, zfB, eh, er, eu]
   refine ⟨?_, ex, ?_⟩
   ·show cl (fm H (fm Z1 Z2)) ≠ 0
    rw [ez]; exact mul_ne (mul_ne hd (mul_ne hw hw)) hw
   ·show cl (fs (fm R (fs (fm u (fm H H)) (fs (fs (fm R R) (fm H (fm H H))) (fa (fm u (fm H H)) (fm u (fm H H)))))) (fm s1 (fm H (fm H H)))) = (s * (x1 - (s * s - x1 - x2)) - y1) * (cl (fm H (fm Z1 Z2)) * cl (fm H (fm Z1 Z2)) * cl (fm H (fm Z1 Z2)))
    rw [cl_fs, zfB, cl_fs, ex, ez, ← ad_y]
    simp only [zfB, eh, er, eu, es]
def toA : Pt → Ap
 | none => (0, 0, true)
 | some (x, y) => (x.val, y.val, false)
def ofA (p : Ap) : Pt := bif p.2.2 then none else some (cl p.1, cl p.2.1)
theorem fi_cl (z : Nat) : cl (invV 0 z) = fi (cl z) := cl_inv z
theorem end_x {x z i : Fp} (h : i * z = 1) : x * (z * z) * (i * i) = x := by grobner
theorem end_y {y z i : Fp} (h : i * z = 1) : y * (z * z * z) * (i * i * i) = y := by grobner
theorem val_cl {a : Nat} {x : Fp} (ha : a < PP) (h : cl a = x) : a = x.val := by
 rw [← h, cl_val, Nat.mod_eq_of_lt ha]
theorem rep_end {t : Tr} {P : Pt} (h : Rep t P) : jend t = toA P := by
 unfold jend
 match P with
 | none =>
  have h0 : t.2.2 % modN 0 = 0 := cl_eq0.1 h
  rw [if_pos h0]; rfl
 | some (x, y) =>
  obtain ⟨hz, hx, hy⟩ := h
  have h0 : t.2.2 % modN 0 ≠ 0 := fun e => hz (cl_eq0.2 e)
  rw [if_neg h0]
  have hi := fi_mul hz
  rw [← fi_cl] at hi
  have ex : fm t.1 (fm (invV 0 t.2.2) (invV 0 t.2.2)) = x.val := val_cl (fm_lt _ _) (by rw [zfB, zfB, hx, end_x hi])
  have ey : fm t.2.1 (fm (fm (invV 0 t.2.2) (invV 0 t.2.2)) (invV 0 t.2.2)) = y.val := val_cl (fm_lt _ _) (by rw [zfB, zfB, zfB, hy, end_y hi])
  rw [ex, ey]; rfl
theorem on_ofA {p : Ap} (h : onT p = true) : onP (ofA p) := by
 obtain ⟨x, y, i⟩ := p
 cases i
 ·exact onB_on h
 ·trivial
theorem toA_ofA {p : Ap} (h : onT p = true) : toA (ofA p) = p := by
 obtain ⟨x, y, i⟩ := p
 cases i
 ·have hl := onB_lt h
  show ((cl x).val, (cl y).val, false) = _
  rw [cl_val, cl_val, Nat.mod_eq_of_lt hl.1, Nat.mod_eq_of_lt hl.2]
 ·have hz : x = 0 ∧ y = 0 := by
   have : (x == 0 && y == 0) = true := h
   simpa using this
  obtain ⟨rfl, rfl⟩ := hz
  rfl
theorem mul_11 (x : Fp) : x = x * (1 * 1) := by grobner
theorem mul_111 (x : Fp) : x = x * (1 * 1 * 1) := by grobner
theorem rep_of {p : Ap} : Rep (jof p.1 p.2.1 p.2.2) (ofA p) := by
 obtain ⟨x, y, i⟩ := p
 cases i
 ·refine ⟨?_, ?_, ?_⟩
  ·exact one_ne
  ·exact mul_11 _
  ·exact mul_111 _
 ·exact cl_0
theorem ZL_jof {x y : Nat} {i : Bool} : ZL (jof x y i) := by
 cases i
 ·exact zjH 0
 ·exact ZL_0
theorem ZL_jtw (t : Tr) : ZL (jtw t) := fm_lt _ _
theorem neg_val (x : Fp) : fn x.val = (-x).val := val_cl (fn_lt _) (by rw [cl_fn, zgU])
def smul : Nat → Pt → Pt
 | 0, _ => none
 | n + 1, P => aadd (smul n P) P
theorem on_smul {P : Pt} (h : onP P) : ∀ n, onP (smul n P)
 | 0 => trivial
 | n + 1 => on_add (on_smul h n) h
theorem smul_add {P : Pt} (h : onP P) (m : Nat) : ∀ n, smul (m + n) P = aadd (smul m P) (smul n P)
 | 0 => (zgL _).symm
 | n + 1 => by
  show aadd (smul (m + n) P) P = aadd (smul m P) (aadd (smul n P) P)
  rw [smul_add h m n, aassoc (on_smul h m) (on_smul h n) h]
theorem smul_none : ∀ n, smul n none = none
 | 0 => rfl
 | n + 1 => by show aadd (smul n none) none = none; rw [smul_none n]; rfl
theorem rep_mul {t : Tr} {P : Pt} (h : Rep t P) (hP : onP P) (z : ZL t) (n : Nat) : Rep (jmul t n) (smul n P) := by
 induction n using Nat.strongRecOn with
 | ind n ih =>
  by_cases h0 : n = 0
  ·subst h0; rw [jmul_0]; exact cl_0
  have hr := ih (n / 2) (Nat.div_lt_self (Nat.pos_of_ne_zero h0) (by decide))
  have h2 := rep_tw hr (on_smul hP _)
  rw [← smul_add hP] at h2
  by_cases hb : n % 2 = 1
  ·rw [jmul_1 hb]
   have h3 := rep_add h2 h (on_smul hP _) hP (ZL_jtw _) z
   have e : smul n P = aadd (smul (n / 2 + n / 2) P) P := by
    show _ = smul (n / 2 + n / 2 + 1) P
    congr 1; omega
   rw [e]; exact h3
  ·rw [jmul_2 hb]
   have e : n = n / 2 + n / 2 := by omega
   rw [← e] at h2
   exact h2
theorem cmul_aff {p : Ap} (hp : onT p = true) (k : Nat) : cmul k p = toA (smul k (ofA p)) := by
 rw [(cmul_t hp).1]
 exact rep_end (rep_mul rep_of (on_ofA hp) ZL_jof k)
section
def force {α : Type} (n : Nat) (k : Nat → α) : α := Nat.rec (k 0) (fun m _ => k (m + 1)) n
def stT {α : Type} (t : Tr) (k : Tr → α) : α := force t.1 fun a => force t.2.1 fun b => force t.2.2 fun c => k (a, b, c)
def jgo (g : Tr) (e : Nat) : Nat → Tr → Tr
 | 0, t => t
 | f + 1, t => stT (jtw t) fun s => bif Nat.beq (e / 2 ^ f % 2) 1 then stT (jad s g) (jgo g e f) else jgo g e f s
def PG : Pt := ofA GG
theorem on_PG : onP PG := on_ofA onT_GG
attribute [local irreducible] jgo
def q3 (s t : Tr) : Tr :=
 ((s.1 * t.1 + (PP - bb) * (s.2.1 * t.2.2 + s.2.2 * t.2.1)) % PP,
  (s.1 * t.2.1 + s.2.1 * t.1 + 3 * (s.2.1 * t.2.2 + s.2.2 * t.2.1) + (PP - bb) * (s.2.2 * t.2.2)) % PP,
  (s.1 * t.2.2 + s.2.1 * t.2.1 + s.2.2 * t.1 + 3 * (s.2.2 * t.2.2)) % PP)
def qgo (e : Nat) : Nat → Tr → Tr
 | 0, t => t
 | f + 1, t => stT (q3 t t) fun s => bif Nat.beq (e / 2 ^ f % 2) 1 then stT (q3 s (0, 1, 0)) (qgo e f) else qgo e f s
attribute [local irreducible] qgo
def code : Pt → Nat
 | none => 2 * PP
 | some (x, y) => 2 * x.val + y.val % 2
end
def nn : Nat := modN 1
theorem nn_pos : 0 < nn := zhL 1
def gx (k : Nat) : Nat := (cmul k GG).1
def th (d k e : Nat) : Nat := (e + gx k % nn * d % nn) % nn * invV 1 k % nn
theorem nn_lt2 : nn < zaE := (zbF 1).2
theorem tvbeq {A B : Nat} (hA : A < zaE) (hB : B < zaE) : (tv A == tv B) = (A == B) := by rw [beq_w4, nv_tv hA, nv_tv hB]
theorem tvbne {A B : Nat} (hA : A < zaE) (hB : B < zaE) : (tv A != tv B) = (A != B) := by rw [bne, tvbeq hA hB]; rfl
theorem zjL (a : Nat) : a % nn < zaE := Nat.lt_trans (Nat.mod_lt _ nn_pos) nn_lt2
theorem add_p {a b : Nat} (ha : a < zaE) (hb : b < zaE) : zgA 1 (tv a) (tv b) = some (tv ((a + b) % nn)) := by
 unfold zgA; rw [nv_tv ha, nv_tv hb]; rfl
theorem zero_p : zcY = some (tv 0) := rfl
def fineB (a : Nat) : Bool := a != 0 && decide (a < nn)
theorem fine_ok {a : Nat} (ha : a < zaE) : zfY (tv a) = some (fineB a) := by
 unfold zfY
 rw [zero_p, zaB, tvbne ha zcL, fineB]
 cases h : a != 0 with
 | false => rfl
 | true =>
  simp only [cond_true, zaB, Bool.true_and]
  rw [add_p ha zcL, zaB, tvbeq (zjL _) ha, Nat.add_zero]
  congr 1
  by_cases hl : a < nn
  ·rw [Nat.mod_eq_of_lt hl, decide_eq_true hl]; simp
  ·rw [decide_eq_false hl, beq_eq_false_iff_ne]
   have := Nat.mod_lt a nn_pos
   omega
theorem fineB_iff {a : Nat} : fineB a = true ↔ a ≠ 0 ∧ a < nn := by simp [fineB]
theorem base_p : ziN = some (ptW GG) := rfl
theorem apT_W {t : Ap} (h : AL t) : apT (ptW t) = t := apT_ptW h.1 h.2
theorem times_p {k : Nat} (hk : k < zaE) : zfW (tv k) = some (ptW (cmul k GG)) := by
 unfold zfW curve_Mul_p
 rw [base_p, zaB, nv_tv hk, apT_W AL_GG, zaB]
end Go.Proofs.YtmbcolbbekbccaaGreat
