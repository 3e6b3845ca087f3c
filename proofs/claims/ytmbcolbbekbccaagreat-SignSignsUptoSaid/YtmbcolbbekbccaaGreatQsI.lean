/- What some functions compute, and that they do. Conditions: as each theorem says. -/
import Derived.Test.YtmbcolbbekbccaaGreatQsH
namespace Go.Proofs.YtmbcolbbekbccaaGreat
open Go Go.RowKit
section
attribute [local irreducible] wpList wpT Code.wp Calls Code.rounds
variable {S : Mem} {w : World}
theorem tg65 : TAgg Tryz.prog 65 3 := ⟨fun _ => by kernel_rfl, fun _ => by kernel_rfl⟩
theorem to63 : TOne Tryz.prog 63 := ⟨fun _ => by kernel_rfl, fun _ => by kernel_rfl⟩
theorem tz65 : TZero Tryz.prog 65 (.agg #[.bool false, .slice none 0 0, .slice none 0 0]) := fun _ => by kernel_rfl
theorem is64 : IsFn Tryz.prog 64 := isFn Tryz.func64
theorem is85 : IsFn Tryz.prog 85 := isFn Tryz.func85
theorem is124 : IsFn Tryz.prog 124 := isFn Tryz.func124
theorem is125 : IsFn Tryz.prog 125 := isFn Tryz.func125
theorem tb65 : TBuild Tryz.prog 65 (.agg #[.bool false, .slice none 0 0, .slice none 0 0]) [(0, 1), (1, 1), (2, 1)] := tbuildS (fs := fieldsOf Tryz.prog 65) (by kernel_rfl) tz65 (fun _ => by kernel_rfl)
theorem fa65_0 : zgZ Tryz.prog 65 0 0 := fun _ _ _ => by kernel_rfl
theorem fa65_1 : zgZ Tryz.prog 65 1 1 := fun _ _ _ => by kernel_rfl
theorem fa65_2 : zgZ Tryz.prog 65 2 2 := fun _ _ _ => by kernel_rfl
theorem tsz65 : TSz Tryz.prog 65 3 := fun _ => by kernel_rfl
def r7_In_p (x0 : Qp) : Option ((Bool × (List UInt32) × (List UInt32))) :=
  Option.bind (r6_In_p x0.1) fun y1 => Option.bind (r6_In_p x0.2.1) fun y2 => some ((x0.2.2, y1, y2))
theorem r7_In_c (hS : Sub S w) {x0 : Qp} {r : (Bool × (List UInt32) × (List UInt32))} (hF : r7_In_p x0 = some r) :
    Calls Tryz.prog 67 #[.agg ((cl26 x0)).toArray] w fun e w' => Ext w w' ∧ ∃ (c0' : List Value), e = .returned (.agg c0'.toArray) ∧ Rp.rep (gr S w w') c0' r := by
 refine enter (n := 12) Tryz.func67 rfl rfl rfl ?_
 have H := HS.start hS
 refine sr fun K1 hK1 => zdI (zkN (l := (cl26 x0)) H rfl) fun w1 b1 H => zdI (zcP (l := ([Value.bool (false)] ++ ([Value.slice none 0 0] ++ ([Value.slice none 0 0])))) H tz65 rfl) fun w2 b2 H => xk hK1 <| wp_seq_k fun K2 hK2 => bn hF fun y1 e1 hF => bn hF fun y2 e2 hF => wrS H 9 [(4, kR S w2.drew y1), (7, kR S w2.drew y2)] fun vs1 H => ?_
 refine tp (zaJ fa26_2 rfl) <| t_v (fun w hx => zaR (v := .bool (x0.2.2)) to4 (H.ext hx) rfl (k := 1) rfl rfl) <| tp (zaJ fa26_0 rfl) <| t_v (fun w hx => zbL (l := (cl24 x0.1)) tg24 (H.ext hx) rfl (k := 1) rfl rfl rfl) <| tcF is38 (fun w hx => r6_In_c (zdD H.sub hx) e1) <| tp (zaJ fa26_1 rfl) ?_
 refine t_v (fun w hx => zbL (l := (cl24 x0.2.1)) tg24 (H.ext hx) rfl (k := 1) rfl rfl rfl) <| tcF is38 (fun w hx => r6_In_c (zdD H.sub hx) e2) ?_
 refine t_valF (fun w hx hF => zbC (vals := [(0, .bool (x0.2.2)), (1, (vs1 4).v), (2, (vs1 7).v)]) (l := ([Value.bool (x0.2.2)] ++ ([(vs1 4).v] ++ ([(vs1 7).v])))) tb65 rfl (by simp only [fillL, lkp, RdS.cells (zbH hF 4 rfl rfl), RdS.cells (zbH hF 7 rfl rfl)]; rfl)) rfl rfl ?_
 refine zbP <| H.tf fun w3 S1 hle1 H gs => ?_
 have g3 := gs 4 rfl rfl
 have g4 := gs 7 rfl rfl
 refine zdB (zbE (k := 0) (l := ([Value.bool (x0.2.2)] ++ ([(vs1 4).v] ++ ([(vs1 7).v])))) tsz65 H rfl rfl rfl (zaV _) rfl (Rp.one (rpP rpB (rpP (rpL g3) (rpL g4)))) rfl) fun w4 H => wpList_nil <| zaP <| xn hK2 <| wp_ret ?_
 obtain rfl := osi hF
 refine e_1 rfl (zeD (l := ([Value.bool (x0.2.2)] ++ ([(vs1 4).v] ++ ([(vs1 7).v])))) tg65 H rfl (k := 0) rfl rfl rfl) ?_
 exact ⟨H.toExt, _, rfl, Rp.mono (rpP rpB (rpP (rpL g3) (rpL g4))) H.gr⟩
def zfZ (x0 : Bool × (List UInt32) × (List UInt32)) : Option ((Bool × (List UInt32) × (List UInt32))) :=
  bif x0.1 then (some (x0)) else (Option.bind (zgF 0 x0.2.2) fun y1 => some ((false, x0.2.1, y1)))
theorem r7_Point_Opposite_c (hS : Sub S w) {c0_ : List Value} {x0 : Bool × (List UInt32) × (List UInt32)} (h0_ : Rp.rep S c0_ x0) {r : (Bool × (List UInt32) × (List UInt32))} (hF : zfZ x0 = some r) :
    Calls Tryz.prog 125 #[.agg c0_.toArray] w fun e w' => Ext w w' ∧ ∃ (c0' : List Value), e = .returned (.agg c0'.toArray) ∧ Rp.rep (gr S w w') c0' r := by
 refine enter (n := 12) Tryz.func125 rfl rfl rfl ?_
 have H := HS.start hS
 obtain ⟨c1, c2, rfl, g1, g2⟩ := elP h0_
 obtain rfl := elB g1
 obtain ⟨c3, c4, rfl, g3, g4⟩ := elP g2
 obtain ⟨v1, rfl, g5⟩ := elL g3
 obtain ⟨v2, rfl, g6⟩ := elL g4
 refine sr fun K1 hK1 => zdI (zkN (l := ([Value.bool (x0.1)] ++ ([v1] ++ ([v2])))) H rfl) fun w1 b1 H => zdI (zcP (l := ([Value.bool (false)] ++ ([Value.slice none 0 0] ++ ([Value.slice none 0 0])))) H tz65 rfl) fun w2 b2 H => xk hK1 <| wp_seq_k fun K2 hK2 => sr fun K3 hK3 => zaA (zaJ fa65_0 rfl) <| zaA (zaR (v := .bool (x0.1)) to4 H rfl (k := 1) rfl rfl) <| xk hK3 ?_
 refine zbR hF rfl (fun hF hc1 => ?_) fun hF hc1 => ?_
 ·refine sr fun K4 hK4 => ?_
  refine zaA (zbL (l := ([Value.bool (x0.1)] ++ ([v1] ++ ([v2])))) tg65 H rfl (k := 1) rfl rfl rfl) <| zdB (zbE (k := 0) (l := ([Value.bool (x0.1)] ++ ([v1] ++ ([v2])))) tsz65 H rfl rfl rfl (zaV _) rfl (Rp.one (rpP rpB (rpP (rpL g5) (rpL g6)))) rfl) fun w3 H => xk hK4 <| wp_ret <| zdC ?_
  obtain rfl := osi hF
  refine e_1 rfl (zeD (l := ([Value.bool (x0.1)] ++ ([v1] ++ ([v2])))) tg65 H rfl (k := 0) rfl rfl rfl) ?_
  exact ⟨H.toExt, _, rfl, Rp.mono (rpP rpB (rpP (rpL g5) (rpL g6))) H.gr⟩
 ·refine wp_skip ?_
  refine xn hK2 <| wp_seq_k fun K5 hK5 => bn hF fun y1 e1 hF => wrS H 6 [(4, kR S w2.drew y1)] fun vs1 H => ?_
  refine tp (zaJ fa65_1 rfl) <| t_v (fun w hx => zaR (v := v1) to63 (H.ext hx) rfl (k := 1) rfl rfl) <| tp (zaJ fa65_2 rfl) <| t_v (fun w hx => zaR (v := v2) to63 (H.ext hx) rfl (k := 1) rfl rfl) <| tcF is152 (fun w hx => r6_Opposite_c (zdD H.sub hx) (g6.mono (zcZ H.sub)) e1) ?_
  refine t_valF (fun w hx hF => zbC (vals := [(1, v1), (2, (vs1 4).v)]) (l := ([Value.bool (false)] ++ ([v1] ++ ([(vs1 4).v])))) tb65 rfl (by simp only [fillL, lkp, RdS.cells g5, RdS.cells (zbH hF 4 rfl rfl)]; rfl)) rfl rfl ?_
  refine zbP <| H.tf fun w4 S1 hle1 H gs => ?_
  have g8 := gs 4 rfl rfl
  replace g5 := g5.mono hle1
  replace g6 := g6.mono hle1
  refine zdB (zbE (k := 0) (l := ([Value.bool (false)] ++ ([v1] ++ ([(vs1 4).v])))) tsz65 H rfl rfl rfl (zaV _) rfl (Rp.one (rpP rpB (rpP (rpL g5) (rpL g8)))) rfl) fun w5 H => wpList_nil <| zaP <| xn hK5 <| wp_ret ?_
  obtain rfl := osi hF
  refine e_1 rfl (zeD (l := ([Value.bool (false)] ++ ([v1] ++ ([(vs1 4).v])))) tg65 H rfl (k := 0) rfl rfl rfl) ?_
  exact ⟨H.toExt, _, rfl, Rp.mono (rpP rpB (rpP (rpL g5) (rpL g8))) H.gr⟩
def zfQ (x0 : Bool × (List UInt32) × (List UInt32)) (x1 : Bool × (List UInt32) × (List UInt32)) : Option (Bool) :=
  Option.bind (bif x0.1 then (some (x1.1)) else (some (false))) (fun t1 => Option.bind (bif t1 then (some (true)) else (Option.bind (bif (!x0.1) then (some ((!x1.1))) else (some (false))) (fun t3 => Option.bind (bif t3 then (Option.bind (zfC x0.2.1 x1.2.1) fun y1 => some ((y1 == 0))) else (some (false))) (fun t4 => Option.bind (bif t4 then (Option.bind (zfC x0.2.2 x1.2.2) fun y2 => some ((y2 == 0))) else (some (false))) (fun t5 => some (t5)))))) (fun t2 => some (t2)))
theorem r7_Point_Same_c (hS : Sub S w) {c0_ : List Value} {x0 : Bool × (List UInt32) × (List UInt32)} (h0_ : Rp.rep S c0_ x0) {c1_ : List Value} {x1 : Bool × (List UInt32) × (List UInt32)} (h1_ : Rp.rep S c1_ x1) {r : Bool} (hF : zfQ x0 x1 = some r) :
    Calls Tryz.prog 124 #[.agg c0_.toArray, .agg c1_.toArray] w fun e w' => e = .returned (.bool (r)) ∧ Ext w w' := by
 refine enter (n := 37) Tryz.func124 rfl rfl rfl ?_
 have H := HS.start hS
 obtain ⟨c1, c2, rfl, g1, g2⟩ := elP h0_
 obtain rfl := elB g1
 obtain ⟨c3, c4, rfl, g3, g4⟩ := elP g2
 obtain ⟨v1, rfl, g5⟩ := elL g3
 obtain ⟨v2, rfl, g6⟩ := elL g4
 obtain ⟨c5, c6, rfl, g7, g8⟩ := elP h1_
 obtain rfl := elB g7
 obtain ⟨c7, c8, rfl, g9, g10⟩ := elP g8
 obtain ⟨v3, rfl, g11⟩ := elL g9
 obtain ⟨v4, rfl, g12⟩ := elL g10
 refine sr fun K1 hK1 => zdI (zkN (l := ([Value.bool (x0.1)] ++ ([v1] ++ ([v2])))) H rfl) fun w1 b1 H => zdI (zkN (l := ([Value.bool (x1.1)] ++ ([v3] ++ ([v4])))) H rfl) fun w2 b2 H => asB rfl <| xk hK1 <| sr fun K2 hK2 => zaA (zaJ fa65_0 rfl) <| zaA (zaR (v := .bool (x0.1)) to4 H rfl (k := 1) rfl rfl) <| mvB rfl ?_
 refine zkU fun m1 k1 => zkX 3 fun K3 hK3 R3 hR3 => bn hF fun t1 hE1 hF1 => ?_
 have J5 : ∀ (m2 : FM) (w3 : World), Kp [8, 9, 10] m2 m1 → look m2 10 = .bool (t1) → HS ⟨S, [], w⟩ S w3 [.blk b2 (([Value.bool (x1.1)] ++ ([v3] ++ ([v4])))) 65, .blk b1 (([Value.bool (x0.1)] ++ ([v1] ++ ([v2])))) 65] → K3 m2 w3 := by
  clear H; intro m2 w3 k2 q1 H
  have q2 : look m2 2 = .pointer (some ⟨b1, 0, none⟩) := (k2 2 rfl).trans (k1 2)
  have q3 : look m2 3 = .pointer (some ⟨b2, 0, none⟩) := (k2 3 rfl).trans (k1 3)
  refine hK3 _ _ <| p_mv q1 <| zkU fun m3 k3 => zkX 25 fun K4 hK4 R4 hR4 => bn hF1 fun t2 hE2 hF2 => ?_
  have J4 : ∀ (m10 : FM) (w9 : World), Kp (rg 12 25 []) m10 m3 → look m10 36 = .bool (t2) → HS ⟨S, [], w⟩ S w9 [.blk b2 (([Value.bool (x1.1)] ++ ([v3] ++ ([v4])))) 65, .blk b1 (([Value.bool (x0.1)] ++ ([v1] ++ ([v2])))) 65] → K4 m10 w9 := by
   clear H; intro m10 w9 k10 q14 H
   refine hK4 _ _ <| p_as q14 <| xk hK2 <| wp_ret ?_
   obtain rfl := osi hF2
   refine e_1 rfl (zbD rfl) ?_
   exact ⟨rfl, H.toExt⟩
  refine p_gs (j := 6) (zaI rfl rfl (k3 11)) (fun hb2 => ?_) (fun hb2 => ?_)
  ·replace hE2 := zfK hE2 hb2
   refine zaW (zaI rfl rfl (k3 11)) hb2 ?_
   rw [zaH]
   refine zaW (zaI rfl rfl (k3 11)) hb2 ?_
   rw [zaH]
   refine zaW (zaI rfl rfl (k3 11)) hb2 ?_
   rw [zaH]
   refine zaW (zaI rfl rfl (k3 11)) hb2 ?_
   rw [zaH]
   refine ziA rfl ?_
   rw [zaH]
   refine ziA rfl ?_
   rw [zaH]
   refine ziA rfl ?_
   rw [zaH]
   refine zaW (zaI rfl rfl (k3 11)) hb2 ?_
   rw [zaH]
   refine zaW (zaI rfl rfl (k3 11)) hb2 ?_
   rw [zaH]
   refine ziA rfl ?_
   rw [zaH]
   refine ziA rfl ?_
   rw [zaH]
   refine ziA rfl ?_
   rw [zaH]
   refine ziA rfl ?_
   rw [zaH]
   refine ziA rfl ?_
   rw [zaH]
   refine ziA rfl ?_
   rw [zaH]
   refine zaW (zaI rfl rfl (k3 11)) hb2 ?_
   rw [zaH]
   refine zaW (zaI rfl rfl (k3 11)) hb2 ?_
   rw [zaH]
   refine ziA rfl ?_
   rw [zaH]
   refine ziA rfl ?_
   rw [zaH]
   refine ziA rfl ?_
   rw [zaH]
   refine ziA rfl ?_
   rw [zaH]
   refine ziA rfl ?_
   rw [zaH]
   refine ziA rfl ?_
   rw [zaH]
   refine zaW (zaI rfl rfl (k3 11)) hb2 ?_
   rw [zaH]
   refine zaA (zbQ (v := .bool (true)) (k3 11) hb2 rfl) <| hR4 _ _ ?_
   obtain rfl := osi hE2
   exact J4 _ _ kcx rfl H
  ·replace hE2 := zfR hE2 hb2
   refine zaT (zaI rfl rfl (k3 11)) hb2 <| zaA (zaJ fa65_0 ((k3 2).trans q2)) <| zaT (zaI rfl rfl (k3 11)) hb2 <| zaA (zaR (v := .bool (x0.1)) to4 H rfl (k := 1) rfl rfl) <| zaT (zaI rfl rfl (k3 11)) hb2 <| zaA (zlK (t := (!x0.1)) rfl rfl) <| zaT (zaI rfl rfl (k3 11)) hb2 <| mvB rfl <| zkU fun m4 k4 => ?_
   refine zkX 4 fun K5 hK5 R5 hR5 => bn hE2 fun t3 hE3 hF3 => ?_
   have J3 : ∀ (m5 : FM) (w4 : World), Kp [16, 17, 18, 19] m5 m4 → look m5 19 = .bool (t3) → HS ⟨S, [], w⟩ S w4 [.blk b2 (([Value.bool (x1.1)] ++ ([v3] ++ ([v4])))) 65, .blk b1 (([Value.bool (x0.1)] ++ ([v1] ++ ([v2])))) 65] → K5 m5 w4 := by
    clear H; intro m5 w4 k5 q4 H
    have q5 := (k5 2 rfl).trans ((k4 2).trans ((k3 2).trans q2))
    have q6 := (k5 3 rfl).trans ((k4 3).trans ((k3 3).trans q3))
    have q7 : look m5 11 = .bool (t1) := (k5 11 rfl).trans ((k4 11).trans (k3 11))
    refine hK5 _ _ <| zaT (zaI rfl rfl q7) hb2 <| p_mv q4 <| zkU fun m6 k6 => zkX 7 fun K6 hK6 R6 hR6 => bn hF3 fun t4 hE4 hF4 => ?_
    have J2 : ∀ (m7 : FM) (w6 : World), Kp (rg 21 7 []) m7 m6 → look m7 27 = .bool (t4) → HS ⟨S, [], w⟩ S w6 [.blk b2 (([Value.bool (x1.1)] ++ ([v3] ++ ([v4])))) 65, .blk b1 (([Value.bool (x0.1)] ++ ([v1] ++ ([v2])))) 65] → K6 m7 w6 := by
     clear H; intro m7 w6 k7 q8 H
     have q9 := (k7 2 rfl).trans ((k6 2).trans q5)
     have q10 := (k7 3 rfl).trans ((k6 3).trans q6)
     have q11 := (k7 11 rfl).trans ((k6 11).trans q7)
     refine hK6 _ _ <| zaT (zaI rfl rfl q11) hb2 <| p_mv q8 <| zkU fun m8 k8 => zkX 7 fun K7 hK7 R7 hR7 => bn hF4 fun t5 hE5 hF5 => ?_
     have J1 : ∀ (m9 : FM) (w8 : World), Kp (rg 29 7 []) m9 m8 → look m9 35 = .bool (t5) → HS ⟨S, [], w⟩ S w8 [.blk b2 (([Value.bool (x1.1)] ++ ([v3] ++ ([v4])))) 65, .blk b1 (([Value.bool (x0.1)] ++ ([v1] ++ ([v2])))) 65] → K7 m9 w8 := by
      clear H; intro m9 w8 k9 q12 H
      have q13 := (k9 11 rfl).trans ((k8 11).trans q11)
      refine hK7 _ _ <| zaA (zaX (v := .bool (t5)) q13 hb2 q12) <| hR4 _ _ ?_
      obtain rfl := osi hF5
      exact J4 _ _ (kS k9 rfl (kN k8 (kS k7 rfl (kN k6 (kS k5 rfl (kN k4 kcx)))))) rfl H
     refine p_gs (j := 23) (zaI rfl rfl (k8 28)) (fun hb5 => ?_) (fun hb5 => ?_)
     ·replace hE5 := zfK hE5 hb5
      refine zaT (zaI rfl rfl (k8 28)) hb5 <| zaA (zaJ fa65_2 ((k8 2).trans q9)) <| zaT (zaI rfl rfl (k8 28)) hb5 <| zaA (zaR (v := v2) to63 H rfl (k := 1) rfl rfl) <| zaT (zaI rfl rfl (k8 28)) hb5 <| zaA (zaJ fa65_2 ((k8 3).trans q10)) <| zaT (zaI rfl rfl (k8 28)) hb5 <| zaA (zaR (v := v4) to63 H rfl (k := 0) rfl rfl) <| zaT (zaI rfl rfl (k8 28)) hb5 ?_
      refine bn hE5 fun y2 e2 hE5 => zaF is69 rfl <| (zjV H.sub g6 g12 e2).mono <| H.xe fun w7 H => zaT (zaI rfl rfl (k8 28)) hb5 <| zaA (zdS rfl rfl) <| zaT (zaI rfl rfl ((k8 11).trans q11)) hb2 <| zaA (zbQ (v := .bool ((y2 == 0))) (k8 28) hb5 rfl) <| hR7 _ _ ?_
      obtain rfl := osi hE5
      exact J1 _ _ kcx rfl H
     ·replace hE5 := zfR hE5 hb5
      refine zaW (zaI rfl rfl (k8 28)) hb5 ?_
      rw [zaH]
      refine zaW (zaI rfl rfl (k8 28)) hb5 ?_
      rw [zaH]
      refine zaW (zaI rfl rfl (k8 28)) hb5 ?_
      rw [zaH]
      refine zaW (zaI rfl rfl (k8 28)) hb5 ?_
      rw [zaH]
      refine zaW (zaI rfl rfl (k8 28)) hb5 ?_
      rw [zaH]
      refine zaW (zaI rfl rfl (k8 28)) hb5 ?_
      rw [zaH]
      refine zaT (zaI rfl rfl ((k8 11).trans q11)) hb2 <| zaA (zaX (v := .bool (false)) (k8 28) hb5 rfl) <| hR7 _ _ ?_
      obtain rfl := osi hE5
      exact J1 _ _ kcx rfl H
    refine p_gs (j := 15) (zaI rfl rfl (k6 20)) (fun hb4 => ?_) (fun hb4 => ?_)
    ·replace hE4 := zfK hE4 hb4
     refine zaT (zaI rfl rfl (k6 20)) hb4 <| zaA (zaJ fa65_1 ((k6 2).trans q5)) <| zaT (zaI rfl rfl (k6 20)) hb4 <| zaA (zaR (v := v1) to63 H rfl (k := 1) rfl rfl) <| zaT (zaI rfl rfl (k6 20)) hb4 <| zaA (zaJ fa65_1 ((k6 3).trans q6)) <| zaT (zaI rfl rfl (k6 20)) hb4 <| zaA (zaR (v := v3) to63 H rfl (k := 0) rfl rfl) <| zaT (zaI rfl rfl (k6 20)) hb4 ?_
     refine bn hE4 fun y1 e1 hE4 => zaF is69 rfl <| (zjV H.sub g5 g11 e1).mono <| H.xe fun w5 H => zaT (zaI rfl rfl (k6 20)) hb4 <| zaA (zdS rfl rfl) <| zaT (zaI rfl rfl ((k6 11).trans q7)) hb2 <| zaA (zbQ (v := .bool ((y1 == 0))) (k6 20) hb4 rfl) <| hR6 _ _ ?_
     obtain rfl := osi hE4
     exact J2 _ _ kcx rfl H
    ·replace hE4 := zfR hE4 hb4
     refine zaW (zaI rfl rfl (k6 20)) hb4 ?_
     rw [zaH]
     refine zaW (zaI rfl rfl (k6 20)) hb4 ?_
     rw [zaH]
     refine zaW (zaI rfl rfl (k6 20)) hb4 ?_
     rw [zaH]
     refine zaW (zaI rfl rfl (k6 20)) hb4 ?_
     rw [zaH]
     refine zaW (zaI rfl rfl (k6 20)) hb4 ?_
     rw [zaH]
     refine zaW (zaI rfl rfl (k6 20)) hb4 ?_
     rw [zaH]
     refine zaT (zaI rfl rfl ((k6 11).trans q7)) hb2 <| zaA (zaX (v := .bool (false)) (k6 20) hb4 rfl) <| hR6 _ _ ?_
     obtain rfl := osi hE4
     exact J2 _ _ kcx rfl H
   refine p_gs (j := 10) (zaI rfl rfl (k4 15)) (fun hb3 => ?_) (fun hb3 => ?_)
   ·replace hE3 := zfK hE3 hb3
    refine zaT (zaI rfl rfl (k4 15)) hb3 <| zaA (zaJ fa65_0 ((k4 3).trans ((k3 3).trans q3))) <| zaT (zaI rfl rfl (k4 15)) hb3 <| zaA (zaR (v := .bool (x1.1)) to4 H rfl (k := 0) rfl rfl) <| zaT (zaI rfl rfl (k4 15)) hb3 <| zaA (zlK (t := (!x1.1)) rfl rfl) <| zaT (zaI rfl rfl ((k4 11).trans (k3 11))) hb2 <| zaA (zbQ (v := .bool ((!x1.1))) (k4 15) hb3 rfl) <| hR5 _ _ ?_
    obtain rfl := osi hE3
    exact J3 _ _ kcx rfl H
   ·replace hE3 := zfR hE3 hb3
    refine zaW (zaI rfl rfl (k4 15)) hb3 ?_
    rw [zaH]
    refine zaW (zaI rfl rfl (k4 15)) hb3 ?_
    rw [zaH]
    refine zaW (zaI rfl rfl (k4 15)) hb3 ?_
    rw [zaH]
    refine zaT (zaI rfl rfl ((k4 11).trans (k3 11))) hb2 <| zaA (zaX (v := .bool (false)) (k4 15) hb3 rfl) <| hR5 _ _ ?_
    obtain rfl := osi hE3
    exact J3 _ _ kcx rfl H
 refine p_gs (j := 2) (zaI rfl rfl (k1 7)) (fun hb1 => ?_) (fun hb1 => ?_)
 ·replace hE1 := zfK hE1 hb1
  refine zaT (zaI rfl rfl (k1 7)) hb1 <| zaA (zaJ fa65_0 (k1 3)) <| zaT (zaI rfl rfl (k1 7)) hb1 <| zaA (zaR (v := .bool (x1.1)) to4 H rfl (k := 0) rfl rfl) <| zaA (zbQ (v := .bool (x1.1)) (k1 7) hb1 rfl) <| hR3 _ _ ?_
  obtain rfl := osi hE1
  exact J5 _ _ kcx rfl H
 ·replace hE1 := zfR hE1 hb1
  refine zaW (zaI rfl rfl (k1 7)) hb1 ?_
  rw [zaH]
  refine zaW (zaI rfl rfl (k1 7)) hb1 ?_
  rw [zaH]
  refine zaA (zaX (v := .bool (false)) (k1 7) hb1 rfl) <| hR3 _ _ ?_
  obtain rfl := osi hE1
  exact J5 _ _ kcx rfl H
def zjX (x0 : Bool × (List UInt32) × (List UInt32)) (x1 : Bool × (List UInt32) × (List UInt32)) : Option ((Bool × (List UInt32) × (List UInt32))) :=
  bif x0.1 then (some (x1)) else (bif x1.1 then (some (x0)) else (Option.bind (zfZ x1) fun y1 => Option.bind (zfQ x0 y1) fun y2 => bif y2 then (some ((true, ([] : List UInt32), ([] : List UInt32)))) else (Option.bind (zcF x1.2.2 x0.2.2) fun y3 => Option.bind (zcF x1.2.1 x0.2.1) fun y4 => Option.bind (Option.bind (zfQ x0 x1) fun y5 => bif y5 then (Option.bind (zaZ x0.2.1 x0.2.1) fun y6 => Option.bind (zaZ ([3] : List UInt32) y6) fun y7 => Option.bind (zcF y7 ([3] : List UInt32)) fun y8 => Option.bind (ziQ x0.2.2 x0.2.2) fun y9 => some ((y8, y9))) else (some ((y3, y4)))) (fun t1 => Option.bind (zeU 0 t1.2) fun y10 => Option.bind (zaZ t1.1 y10) fun y11 => Option.bind (zaZ y11 y11) fun y12 => Option.bind (zcF y12 x0.2.1) fun y13 => Option.bind (zcF y13 x1.2.1) fun y14 => Option.bind (zcF x0.2.1 y14) fun y15 => Option.bind (zaZ y11 y15) fun y16 => Option.bind (zcF y16 x0.2.2) fun y17 => some ((false, y14, y17))))))
theorem r7_Point_Sum_c (hS : Sub S w) {c0_ : List Value} {x0 : Bool × (List UInt32) × (List UInt32)} (h0_ : Rp.rep S c0_ x0) {c1_ : List Value} {x1 : Bool × (List UInt32) × (List UInt32)} (h1_ : Rp.rep S c1_ x1) {r : (Bool × (List UInt32) × (List UInt32))} (hF : zjX x0 x1 = some r) :
    Calls Tryz.prog 66 #[.agg c0_.toArray, .agg c1_.toArray] w fun e w' => Ext w w' ∧ ∃ (c0' : List Value), e = .returned (.agg c0'.toArray) ∧ Rp.rep (gr S w w') c0' r := by
 refine enter (n := 74) Tryz.func66 rfl rfl rfl ?_
 have H := HS.start hS
 obtain ⟨c1, c2, rfl, g1, g2⟩ := elP h0_
 obtain rfl := elB g1
 obtain ⟨c3, c4, rfl, g3, g4⟩ := elP g2
 obtain ⟨v1, rfl, g5⟩ := elL g3
 obtain ⟨v2, rfl, g6⟩ := elL g4
 obtain ⟨c5, c6, rfl, g7, g8⟩ := elP h1_
 obtain rfl := elB g7
 obtain ⟨c7, c8, rfl, g9, g10⟩ := elP g8
 obtain ⟨v3, rfl, g11⟩ := elL g9
 obtain ⟨v4, rfl, g12⟩ := elL g10
 refine sr fun K1 hK1 => zdI (zkN (l := ([Value.bool (x0.1)] ++ ([v1] ++ ([v2])))) H rfl) fun w1 b1 H => zdI (zkN (l := ([Value.bool (x1.1)] ++ ([v3] ++ ([v4])))) H rfl) fun w2 b2 H => zdI (zcP (l := ([Value.bool (false)] ++ ([Value.slice none 0 0] ++ ([Value.slice none 0 0])))) H tz65 rfl) fun w3 b3 H => xk hK1 <| wp_seq_k fun K2 hK2 => wp_block <| sr fun K3 hK3 => ?_
 refine zaA (zaJ fa65_0 rfl) <| zaA (zaR (v := .bool (x0.1)) to4 H rfl (k := 2) rfl rfl) <| asB rfl <| xk hK3 ?_
 refine zbR hF rfl (fun hF hc1 => ?_) fun hF hc1 => ?_
 ·refine sr fun K4 hK4 => ?_
  refine zaA (zbL (l := ([Value.bool (x1.1)] ++ ([v3] ++ ([v4])))) tg65 H rfl (k := 1) rfl rfl rfl) <| zdB (zbE (k := 0) (l := ([Value.bool (x1.1)] ++ ([v3] ++ ([v4])))) tsz65 H rfl rfl rfl (zaV _) rfl (Rp.one (rpP rpB (rpP (rpL g11) (rpL g12)))) rfl) fun w4 H => xk hK4 <| wp_ret <| b_ret <| zdC ?_
  obtain rfl := osi hF
  refine e_1 rfl (zeD (l := ([Value.bool (x1.1)] ++ ([v3] ++ ([v4])))) tg65 H rfl (k := 0) rfl rfl rfl) ?_
  exact ⟨H.toExt, _, rfl, Rp.mono (rpP rpB (rpP (rpL g11) (rpL g12))) H.gr⟩
 ·refine sr fun K5 hK5 => ?_
  refine zaA (zaJ fa65_0 rfl) <| zaA (zaR (v := .bool (x1.1)) to4 H rfl (k := 1) rfl rfl) <| asB rfl <| xk hK5 ?_
  refine zbR hF rfl (fun hF hc2 => ?_) fun hF hc2 => ?_
  ·refine sr fun K6 hK6 => ?_
   refine zaA (zbL (l := ([Value.bool (x0.1)] ++ ([v1] ++ ([v2])))) tg65 H rfl (k := 2) rfl rfl rfl) <| zdB (zbE (k := 0) (l := ([Value.bool (x0.1)] ++ ([v1] ++ ([v2])))) tsz65 H rfl rfl rfl (zaV _) rfl (Rp.one (rpP rpB (rpP (rpL g5) (rpL g6)))) rfl) fun w5 H => xk hK6 <| wp_ret <| b_ret <| zdC ?_
   obtain rfl := osi hF
   refine e_1 rfl (zeD (l := ([Value.bool (x0.1)] ++ ([v1] ++ ([v2])))) tg65 H rfl (k := 0) rfl rfl rfl) ?_
   exact ⟨H.toExt, _, rfl, Rp.mono (rpP rpB (rpP (rpL g5) (rpL g6))) H.gr⟩
  ·refine wp_seq_k fun K7 hK7 => ?_
   refine bn hF fun y1 e1 hF => bn hF fun y2 e2 hF => wrS H 4 [(2, .inr (fun g w' => ∃ c0', g.v = .agg c0'.toArray ∧ Rp.rep (gf S w3.drew g.f w') c0' y1)), (3, .inl (.bool (y2)))] fun vs1 H => ?_
   refine t_v (fun w hx => zbL (l := ([Value.bool (x0.1)] ++ ([v1] ++ ([v2])))) tg65 (H.ext hx) rfl (k := 2) rfl rfl rfl) <| t_v (fun w hx => zbL (l := ([Value.bool (x1.1)] ++ ([v3] ++ ([v4])))) tg65 (H.ext hx) rfl (k := 1) rfl rfl rfl) ?_
   refine zgB (l := [.agg (([Value.bool (x1.1)] ++ ([v3] ++ ([v4])))).toArray]) rfl rfl (fun _ _ _ ⟨c0', e, h0⟩ hx => ⟨c0', e, Rp.mono h0 (gf_mono hx)⟩) is125 rfl (fun w hx hF => (r7_Point_Opposite_c (zdD H.sub hx) (rpP rpB (rpP (rpL (g11.mono (zcZ H.sub))) (rpL (g12.mono (zcZ H.sub))))) e1).mono (fun _ w' ⟨hx2, c0', he, h0⟩ => ⟨_, he, hx2, c0', rfl, Rp.mono h0 (gr_gf hx hx2)⟩)) ?_
   refine t_call (l := [.agg (([Value.bool (x0.1)] ++ ([v1] ++ ([v2])))).toArray, (vs1 2).v]) rfl rfl is124 rfl (fun w hx hF => by obtain ⟨c0_, e0_, h0_⟩ := (zbH hF 2 rfl rfl); rw [e0_]; exact (r7_Point_Same_c (zdD H.sub hx) (rpP rpB (rpP (rpL (g5.mono (zcZ H.sub))) (rpL (g6.mono (zcZ H.sub))))) (Rp.mono h0_ (ziJ hF 2 rfl rfl)) e2).mono (fun _ _ h => h)) ?_
   refine zbP (fun w6 hx hF hA => ?_)
   obtain ⟨F1, hd1, h01⟩ := depE hF
   obtain ⟨c9, eq1, g13⟩ := zbH hF 2 rfl rfl
   replace g13 := Rp.mono g13 (hd1 2 rfl rfl)
   have hle1 := zcZ (F := F1) (w := w6) H.sub; replace H := H.callF (F := F1) hx; clear hx hF hA hd1 h01; generalize gf S w3.drew F1 w6 = S1 at hle1 H g13
   replace g5 := g5.mono hle1
   replace g6 := g6.mono hle1
   replace g11 := g11.mono hle1
   replace g12 := g12.mono hle1
   obtain ⟨c10, c11, rfl, g14, g15⟩ := elP g13
   obtain rfl := elB g14
   obtain ⟨c12, c13, rfl, g16, g17⟩ := elP g15
   obtain ⟨v5, rfl, g18⟩ := elL g16
   obtain ⟨v6, rfl, g19⟩ := elL g17
   refine asB rfl <| wpList_nil <| zaP <| xn hK7 ?_
   refine zbR hF rfl (fun hF hc3 => ?_) fun hF hc3 => ?_
   ·refine sr fun K8 hK8 => ?_
    refine zaA (zbC (vals := [(0, .bool (true))]) (l := ([Value.bool (true)] ++ ([Value.slice none 0 0] ++ ([Value.slice none 0 0])))) tb65 rfl rfl) <| zdB (zbE (k := 0) (l := ([Value.bool (true)] ++ ([Value.slice none 0 0] ++ ([Value.slice none 0 0])))) tsz65 H rfl rfl rfl (zaV _) rfl (onz rfl) rfl) fun w7 H => xk hK8 <| wp_ret <| b_ret <| zdC ?_
    obtain rfl := osi hF
    refine e_1 rfl (zeD (l := ([Value.bool (true)] ++ ([Value.slice none 0 0] ++ ([Value.slice none 0 0])))) tg65 H rfl (k := 0) rfl rfl rfl) ?_
    exact ⟨H.toExt, _, rfl, Rp.mono (rpP rpB (rpP (rpL RdS.nil) (rpL RdS.nil))) H.gr⟩
   ·refine wp_skip ?_
    refine zaS <| xn hK2 <| wp_seq_k fun K9 hK9 => bn hF fun y3 e3 hF => bn hF fun y4 e4 hF => wrS H 10 [(4, kR S1 w6.drew y3), (9, kR S1 w6.drew y4)] fun vs2 H => ?_
    refine tp (zaJ fa65_2 rfl) <| t_v (fun w hx => zaR (v := v4) to63 (H.ext hx) rfl (k := 1) rfl rfl) <| tp (zaJ fa65_2 rfl) <| t_v (fun w hx => zaR (v := v2) to63 (H.ext hx) rfl (k := 2) rfl rfl) <| tcF is115 (fun w hx => zdH (zdD H.sub hx) (g12.mono (zcZ H.sub)) (g6.mono (zcZ H.sub)) e3) <| tp (zaJ fa65_1 rfl) ?_
    refine t_v (fun w hx => zaR (v := v3) to63 (H.ext hx) rfl (k := 1) rfl rfl) <| tp (zaJ fa65_1 rfl) <| t_v (fun w hx => zaR (v := v1) to63 (H.ext hx) rfl (k := 2) rfl rfl) <| tcF is115 (fun w hx => zdH (zdD H.sub hx) (g11.mono (zcZ H.sub)) (g5.mono (zcZ H.sub)) e4) <| zbP <| H.tf fun w8 S2 hle2 H gs => ?_
    have g22 := gs 4 rfl rfl
    have g23 := gs 9 rfl rfl
    replace g5 := g5.mono hle2
    replace g6 := g6.mono hle2
    replace g11 := g11.mono hle2
    replace g12 := g12.mono hle2
    replace g18 := g18.mono hle2
    replace g19 := g19.mono hle2
    refine p_as (v := (vs2 4).v) rfl <| p_as (v := (vs2 9).v) rfl <| wpList_nil <| zaP <| xn hK9 <| wp_seq_k fun K10 hK10 => zaY fun m1 k1 => bn hF fun t1 hE1 hF1 => ?_
    have J1 : ∀ (v13 : Value) (v14 : Value) (S9 : Mem) (m2 : FM) (w16 : World), Kp (5 :: 6 :: rg 33 17 []) m2 m1 → look m2 5 = v13 → look m2 6 = v14 → Mem.le S2 S9 → HS ⟨S, [], w⟩ S9 w16 [.blk b3 (([Value.bool (false)] ++ ([Value.slice none 0 0] ++ ([Value.slice none 0 0])))) 65, .blk b2 (([Value.bool (x1.1)] ++ ([v3] ++ ([v4])))) 65, .blk b1 (([Value.bool (x0.1)] ++ ([v1] ++ ([v2])))) 65] → RdS S9 v13 t1.1 → RdS S9 v14 t1.2 → K10 (fr 74 m2) w16 := by
     clear H; intro v13 v14 S9 m2 w16 k2 q1 q2 hle9 H g32 g33
     replace g5 := g5.mono hle9
     replace g6 := g6.mono hle9
     replace g11 := g11.mono hle9
     replace g12 := g12.mono hle9
     replace g18 := g18.mono hle9
     replace g19 := g19.mono hle9
     replace g22 := g22.mono hle9
     replace g23 := g23.mono hle9
     have q3 : look m2 2 = .pointer (some ⟨b1, 0, none⟩) := (k2 2 rfl).trans (k1 2)
     have q4 : look m2 3 = .pointer (some ⟨b2, 0, none⟩) := (k2 3 rfl).trans (k1 3)
     have q5 : look m2 4 = .pointer (some ⟨b3, 0, none⟩) := (k2 4 rfl).trans (k1 4)
     refine hK10 _ _ <| sr fun K13 hK13 => p_mv (v := v13) q1 <| p_mv (v := v14) q2 <| bn hF1 fun y10 e10 hF1 => zaF is64 rfl <| (r6_Inverse_c H.sub g33 e10).mono <| H.ye fun w17 v15 S10 hle10 H g34 => ?_
     replace g5 := g5.mono hle10
     replace g6 := g6.mono hle10
     replace g11 := g11.mono hle10
     replace g12 := g12.mono hle10
     replace g32 := g32.mono hle10
     replace g33 := g33.mono hle10
     refine bn hF1 fun y11 e11 hF1 => zaF zhP rfl <| (zbI H.sub g32 g34 e11).mono <| H.ye fun w18 v16 S11 hle11 H g35 => ?_
     replace g5 := g5.mono hle11
     replace g6 := g6.mono hle11
     replace g11 := g11.mono hle11
     replace g12 := g12.mono hle11
     replace g32 := g32.mono hle11
     replace g34 := g34.mono hle11
     refine p_as (v := v16) rfl <| xk hK13 <| wp_seq_k fun K14 hK14 => bn hF1 fun y12 e12 hF1 => bn hF1 fun y13 e13 hF1 => bn hF1 fun y14 e14 hF1 => wrS H 9 [(2, kR S11 w18.drew y12), (5, kR S11 w18.drew y13), (8, kR S11 w18.drew y14)] fun vs3 H => ?_
     refine tp (zaC (v := v16) rfl) <| tp (zaC (v := v16) rfl) <| tcF zhP (fun w hx => zbI (zdD H.sub hx) (g35.mono (zcZ H.sub)) (g35.mono (zcZ H.sub)) e12) <| tp (zaJ fa65_1 q3) <| t_v (fun w hx => zaR (v := v1) to63 (H.ext hx) rfl (k := 2) rfl rfl) ?_
     refine zgB (l := [(vs3 2).v, v1]) rfl rfl (stRd) is115 rfl (fun w hx hF => zkR hx (zdH (zdD H.sub hx) (RdS.mono (zbH hF 2 rfl rfl) (ziJ hF 2 rfl rfl)) (g5.mono (zcZ H.sub)) e13)) <| tp (zaJ fa65_1 q4) <| t_v (fun w hx => zaR (v := v3) to63 (H.ext hx) rfl (k := 1) rfl rfl) ?_
     refine zgB (l := [(vs3 5).v, v3]) rfl rfl (stRd) is115 rfl (fun w hx hF => zkR hx (zdH (zdD H.sub hx) (RdS.mono (zbH hF 5 rfl rfl) (ziJ hF 5 rfl rfl)) (g11.mono (zcZ H.sub)) e14)) <| zbP <| H.tf fun w19 S12 hle12 H gs => ?_
     have g39 := gs 2 rfl rfl
     have g40 := gs 5 rfl rfl
     have g41 := gs 8 rfl rfl
     replace g5 := g5.mono hle12
     replace g6 := g6.mono hle12
     replace g11 := g11.mono hle12
     replace g12 := g12.mono hle12
     replace g32 := g32.mono hle12
     replace g34 := g34.mono hle12
     replace g35 := g35.mono hle12
     refine p_as (v := (vs3 8).v) rfl <| wpList_nil <| zaP <| xn hK14 <| wp_seq_k fun K15 hK15 => bn hF1 fun y15 e15 hF1 => bn hF1 fun y16 e16 hF1 => bn hF1 fun y17 e17 hF1 => wrS H 11 [(5, kR S12 w19.drew y15), (6, kR S12 w19.drew y16), (9, kR S12 w19.drew y17)] fun vs4 H => ?_
     refine tp (zaC (v := (vs3 8).v) rfl) <| tp (zaC (v := v16) rfl) <| tp (zaJ fa65_1 q3) <| t_v (fun w hx => zaR (v := v1) to63 (H.ext hx) rfl (k := 2) rfl rfl) <| tp (zaC (v := (vs3 8).v) rfl) <| tcF is115 (fun w hx => zdH (zdD H.sub hx) (g5.mono (zcZ H.sub)) (g41.mono (zcZ H.sub)) e15) ?_
     refine zgB (l := [v16, (vs4 5).v]) rfl rfl (stRd) zhP rfl (fun w hx hF => zkR hx (zbI (zdD H.sub hx) (g35.mono (zcZ H.sub)) (RdS.mono (zbH hF 5 rfl rfl) (ziJ hF 5 rfl rfl)) e16)) <| tp (zaJ fa65_2 q3) <| t_v (fun w hx => zaR (v := v2) to63 (H.ext hx) rfl (k := 2) rfl rfl) ?_
     refine zgB (l := [(vs4 6).v, v2]) rfl rfl (stRd) is115 rfl (fun w hx hF => zkR hx (zdH (zdD H.sub hx) (RdS.mono (zbH hF 6 rfl rfl) (ziJ hF 6 rfl rfl)) (g6.mono (zcZ H.sub)) e17)) ?_
     refine t_valF (fun w hx hF => zbC (vals := [(1, (vs3 8).v), (2, (vs4 9).v)]) (l := ([Value.bool (false)] ++ ([(vs3 8).v] ++ ([(vs4 9).v])))) tb65 rfl (by simp only [fillL, lkp, RdS.cells g41, RdS.cells (zbH hF 9 rfl rfl)]; rfl)) rfl rfl ?_
     refine zbP <| H.tf fun w20 S13 hle13 H gs => ?_
     have g45 := gs 5 rfl rfl
     have g46 := gs 6 rfl rfl
     have g47 := gs 9 rfl rfl
     replace g5 := g5.mono hle13
     replace g6 := g6.mono hle13
     replace g11 := g11.mono hle13
     replace g12 := g12.mono hle13
     replace g32 := g32.mono hle13
     replace g34 := g34.mono hle13
     replace g35 := g35.mono hle13
     replace g39 := g39.mono hle13
     replace g40 := g40.mono hle13
     replace g41 := g41.mono hle13
     refine zdB (zbE (k := 0) (l := ([Value.bool (false)] ++ ([(vs3 8).v] ++ ([(vs4 9).v])))) tsz65 H q5 rfl rfl (zaV _) rfl (Rp.one (rpP rpB (rpP (rpL g41) (rpL g47)))) rfl) fun w21 H => wpList_nil <| zaP <| xn hK15 <| wp_ret ?_
     obtain rfl := osi hF1
     refine e_1 rfl (zeD (l := ([Value.bool (false)] ++ ([(vs3 8).v] ++ ([(vs4 9).v])))) tg65 H q5 (k := 0) rfl rfl rfl) ?_
     exact ⟨H.toExt, _, rfl, Rp.mono (rpP rpB (rpP (rpL g41) (rpL g47))) H.gr⟩
    refine sr fun K11 hK11 => zaA (zbL (l := ([Value.bool (x0.1)] ++ ([v1] ++ ([v2])))) tg65 H (k1 2) (k := 2) rfl rfl rfl) <| zaA (zbL (l := ([Value.bool (x1.1)] ++ ([v3] ++ ([v4])))) tg65 H (k1 3) (k := 1) rfl rfl rfl) <| bn hE1 fun y5 e5 hE1 => zaF is124 rfl <| (r7_Point_Same_c H.sub (rpP rpB (rpP (rpL g5) (rpL g6))) (rpP rpB (rpP (rpL g11) (rpL g12))) e5).mono <| H.xe fun w9 H => ?_
    refine xk hK11 ?_
    refine zbR hE1 rfl (fun hE1 hc4 => ?_) fun hE1 hc4 => ?_
    ·refine sr fun K12 hK12 => ?_
     refine zhD (zbO (N := 1) (xs := ([3] : List UInt32)) (RL.cons (zkE (x := (3 : UInt32)) rfl) RL.nil) tn63 H rfl rfl rfl) fun w10 v7 cs1 H g24 => zaA (zaJ fa65_1 (k1 2)) <| zaA (zaR (v := v1) to63 H rfl (k := 3) rfl rfl) <| zaA (zaJ fa65_1 (k1 2)) <| zaA (zaR (v := v1) to63 H rfl (k := 3) rfl rfl) <| bn hE1 fun y6 e6 hE1 => zaF zhP rfl ?_
     refine (zbI H.sub g5 g5 e6).mono <| H.ye fun w11 v8 S3 hle3 H g25 => ?_
     replace g5 := g5.mono hle3
     replace g6 := g6.mono hle3
     replace g11 := g11.mono hle3
     replace g12 := g12.mono hle3
     replace g22 := g22.mono hle3
     replace g24 := g24.mono hle3
     obtain ⟨S4, hle4, g26, H1⟩ := H.fixX (k := 0) rfl g24; clear H; have H := H1; clear H1
     replace g5 := g5.mono hle4
     replace g6 := g6.mono hle4
     replace g11 := g11.mono hle4
     replace g12 := g12.mono hle4
     replace g22 := g22.mono hle4
     replace g25 := g25.mono hle4
     refine bn hE1 fun y7 e7 hE1 => zaF zhP rfl <| (zbI H.sub g26 g25 e7).mono <| H.ye fun w12 v9 S5 hle5 H g27 => ?_
     replace g5 := g5.mono hle5
     replace g6 := g6.mono hle5
     replace g11 := g11.mono hle5
     replace g12 := g12.mono hle5
     replace g22 := g22.mono hle5
     replace g25 := g25.mono hle5
     replace g26 := g26.mono hle5
     refine zhD (zbO (N := 1) (xs := ([3] : List UInt32)) (RL.cons (zkE (x := (3 : UInt32)) rfl) RL.nil) tn63 H rfl rfl rfl) fun w13 v10 cs2 H g28 => ?_
     obtain ⟨S6, hle6, g29, H1⟩ := H.fixX (k := 0) rfl g28; clear H; have H := H1; clear H1
     replace g5 := g5.mono hle6
     replace g6 := g6.mono hle6
     replace g11 := g11.mono hle6
     replace g12 := g12.mono hle6
     replace g22 := g22.mono hle6
     replace g27 := g27.mono hle6
     refine bn hE1 fun y8 e8 hE1 => zaF is115 rfl <| (zdH H.sub g27 g29 e8).mono <| H.ye fun w14 v11 S7 hle7 H g30 => ?_
     replace g5 := g5.mono hle7
     replace g6 := g6.mono hle7
     replace g11 := g11.mono hle7
     replace g12 := g12.mono hle7
     replace g22 := g22.mono hle7
     replace g27 := g27.mono hle7
     replace g29 := g29.mono hle7
     refine p_as (v := v11) rfl <| xk hK12 <| wp_region_lit <| zaA (zaJ fa65_2 (k1 2)) <| zaA (zaR (v := v2) to63 H rfl (k := 2) rfl rfl) <| zaA (zaJ fa65_2 (k1 2)) <| zaA (zaR (v := v2) to63 H rfl (k := 2) rfl rfl) <| bn hE1 fun y9 e9 hE1 => zaF is114 rfl ?_
     refine (r7_plus_c H.sub g6 g6 e9).mono <| H.ye fun w15 v12 S8 hle8 H g31 => ?_
     replace g5 := g5.mono hle8
     replace g6 := g6.mono hle8
     replace g11 := g11.mono hle8
     replace g12 := g12.mono hle8
     replace g30 := g30.mono hle8
     refine p_as (v := v12) rfl <| wpList_nil <| zaG ?_
     obtain rfl := osi hE1
     exact J1 _ _ _ _ _ kcx rfl rfl (Mem.le_trans hle3 (Mem.le_trans hle4 (Mem.le_trans hle5 (Mem.le_trans hle6 (Mem.le_trans hle7 hle8))))) H g30 g31
    ·refine wp_skip ?_
     refine zaG ?_
     obtain rfl := osi hE1
     exact J1 _ _ _ _ _ kcx (show _ = ((vs2 4).v : Value) from (k1 5)) (show _ = ((vs2 9).v : Value) from (k1 6)) (Mem.le_refl _) H g22 g23
theorem tg161 : TAgg Tryz.prog 161 3 := ⟨fun _ => by kernel_rfl, fun _ => by kernel_rfl⟩
theorem tz161 : TZero Tryz.prog 161 (.agg #[.slice none 0 0, .slice none 0 0, .slice none 0 0]) := fun _ => by kernel_rfl
theorem is66 : IsFn Tryz.prog 66 := isFn Tryz.func66
theorem is126 : IsFn Tryz.prog 126 := isFn Tryz.func126
theorem is127 : IsFn Tryz.prog 127 := isFn Tryz.func127
theorem is128 : IsFn Tryz.prog 128 := isFn Tryz.func128
theorem tb161 : TBuild Tryz.prog 161 (.agg #[.slice none 0 0, .slice none 0 0, .slice none 0 0]) [(0, 1), (1, 1), (2, 1)] := tbuildS (fs := fieldsOf Tryz.prog 161) (by kernel_rfl) tz161 (fun _ => by kernel_rfl)
theorem fa161_0 : zgZ Tryz.prog 161 0 0 := fun _ _ _ => by kernel_rfl
theorem fa161_1 : zgZ Tryz.prog 161 1 1 := fun _ _ _ => by kernel_rfl
theorem fa161_2 : zgZ Tryz.prog 161 2 2 := fun _ _ _ => by kernel_rfl
theorem tsz161 : TSz Tryz.prog 161 3 := fun _ => by kernel_rfl
def zfU (x0 : (List UInt32) × (List UInt32) × (List UInt32)) : Option (((List UInt32) × (List UInt32) × (List UInt32))) :=
  Option.bind (zaZ x0.2.1 x0.2.1) fun y1 => Option.bind (zaZ x0.2.2 x0.2.2) fun y2 => Option.bind (zaZ x0.1 y1) fun y3 => Option.bind (zaZ ([4] : List UInt32) y3) fun y4 => Option.bind (zaZ x0.1 x0.1) fun y5 => Option.bind (zaZ y2 y2) fun y6 => Option.bind (zcF y5 y6) fun y7 => Option.bind (zaZ ([3] : List UInt32) y7) fun y8 => Option.bind (zaZ y8 y8) fun y9 => Option.bind (ziQ y4 y4) fun y10 => Option.bind (zcF y9 y10) fun y11 => Option.bind (zcF y4 y11) fun y12 => Option.bind (zaZ y8 y12) fun y13 => Option.bind (zaZ y1 y1) fun y14 => Option.bind (zaZ ([8] : List UInt32) y14) fun y15 => Option.bind (zcF y13 y15) fun y16 => Option.bind (ziQ x0.2.1 x0.2.1) fun y17 => Option.bind (zaZ y17 x0.2.2) fun y18 => some ((y11, y16, y18))
theorem r7_long_twice_c (hS : Sub S w) {c0_ : List Value} {x0 : (List UInt32) × (List UInt32) × (List UInt32)} (h0_ : Rp.rep S c0_ x0) {r : ((List UInt32) × (List UInt32) × (List UInt32))} (hF : zfU x0 = some r) :
    Calls Tryz.prog 126 #[.agg c0_.toArray] w fun e w' => Ext w w' ∧ ∃ (c0' : List Value), e = .returned (.agg c0'.toArray) ∧ Rp.rep (gr S w w') c0' r := by
 refine enter (n := 63) Tryz.func126 rfl rfl rfl ?_
 have H := HS.start hS
 obtain ⟨c1, c2, rfl, g1, g2⟩ := elP h0_
 obtain ⟨v1, rfl, g3⟩ := elL g1
 obtain ⟨c3, c4, rfl, g4, g5⟩ := elP g2
 obtain ⟨v2, rfl, g6⟩ := elL g4
 obtain ⟨v3, rfl, g7⟩ := elL g5
 refine sr fun K1 hK1 => zdI (zkN (l := ([v1] ++ ([v2] ++ ([v3])))) H rfl) fun w1 b1 H => zdI (zcP (l := ([Value.slice none 0 0] ++ ([Value.slice none 0 0] ++ ([Value.slice none 0 0])))) H tz161 rfl) fun w2 b2 H => xk hK1 <| wp_seq_k fun K2 hK2 => bn hF fun y1 e1 hF => bn hF fun y2 e2 hF => wrS H 10 [(4, kR S w2.drew y1), (9, kR S w2.drew y2)] fun vs1 H => ?_
 refine tp (zaJ fa161_1 rfl) <| t_v (fun w hx => zaR (v := v2) to63 (H.ext hx) rfl (k := 1) rfl rfl) <| tp (zaJ fa161_1 rfl) <| t_v (fun w hx => zaR (v := v2) to63 (H.ext hx) rfl (k := 1) rfl rfl) <| tcF zhP (fun w hx => zbI (zdD H.sub hx) (g6.mono (zcZ H.sub)) (g6.mono (zcZ H.sub)) e1) <| tp (zaJ fa161_2 rfl) ?_
 refine t_v (fun w hx => zaR (v := v3) to63 (H.ext hx) rfl (k := 1) rfl rfl) <| tp (zaJ fa161_2 rfl) <| t_v (fun w hx => zaR (v := v3) to63 (H.ext hx) rfl (k := 1) rfl rfl) <| tcF zhP (fun w hx => zbI (zdD H.sub hx) (g7.mono (zcZ H.sub)) (g7.mono (zcZ H.sub)) e2) <| zbP <| H.tf fun w3 S1 hle1 H gs => ?_
 have g10 := gs 4 rfl rfl
 have g11 := gs 9 rfl rfl
 replace g3 := g3.mono hle1
 replace g6 := g6.mono hle1
 replace g7 := g7.mono hle1
 refine p_as (v := (vs1 4).v) rfl <| p_as (v := (vs1 9).v) rfl <| wpList_nil <| zaP <| xn hK2 <| sr fun K3 hK3 => zhD (zbO (N := 1) (xs := ([4] : List UInt32)) (RL.cons (zkE (x := (4 : UInt32)) rfl) RL.nil) tn63 H rfl rfl rfl) fun w4 v4 cs1 H g12 => zaA (zaJ fa161_0 rfl) <| zaA (zaR (v := v1) to63 H rfl (k := 2) rfl rfl) <| p_mv (v := (vs1 4).v) rfl ?_
 refine bn hF fun y3 e3 hF => zaF zhP rfl <| (zbI H.sub g3 g10 e3).mono <| H.ye fun w5 v5 S2 hle2 H g13 => ?_
 replace g3 := g3.mono hle2
 replace g6 := g6.mono hle2
 replace g7 := g7.mono hle2
 replace g10 := g10.mono hle2
 replace g11 := g11.mono hle2
 replace g12 := g12.mono hle2
 obtain ⟨S3, hle3, g14, H1⟩ := H.fixX (k := 0) rfl g12; clear H; have H := H1; clear H1
 replace g3 := g3.mono hle3
 replace g6 := g6.mono hle3
 replace g7 := g7.mono hle3
 replace g10 := g10.mono hle3
 replace g11 := g11.mono hle3
 replace g13 := g13.mono hle3
 refine bn hF fun y4 e4 hF => zaF zhP rfl <| (zbI H.sub g14 g13 e4).mono <| H.ye fun w6 v6 S4 hle4 H g15 => ?_
 replace g3 := g3.mono hle4
 replace g6 := g6.mono hle4
 replace g7 := g7.mono hle4
 replace g10 := g10.mono hle4
 replace g11 := g11.mono hle4
 replace g13 := g13.mono hle4
 replace g14 := g14.mono hle4
 refine p_as (v := v6) rfl <| xk hK3 <| sr fun K4 hK4 => zhD (zbO (N := 1) (xs := ([3] : List UInt32)) (RL.cons (zkE (x := (3 : UInt32)) rfl) RL.nil) tn63 H rfl rfl rfl) fun w7 v7 cs2 H g16 => zaA (zaJ fa161_0 rfl) <| zaA (zaR (v := v1) to63 H rfl (k := 2) rfl rfl) <| zaA (zaJ fa161_0 rfl) <| zaA (zaR (v := v1) to63 H rfl (k := 2) rfl rfl) <| bn hF fun y5 e5 hF => ?_
 refine zaF zhP rfl <| (zbI H.sub g3 g3 e5).mono <| H.ye fun w8 v8 S5 hle5 H g17 => ?_
 replace g3 := g3.mono hle5
 replace g6 := g6.mono hle5
 replace g7 := g7.mono hle5
 replace g10 := g10.mono hle5
 replace g11 := g11.mono hle5
 replace g15 := g15.mono hle5
 replace g16 := g16.mono hle5
 refine p_mv (v := (vs1 9).v) rfl <| p_mv (v := (vs1 9).v) rfl <| bn hF fun y6 e6 hF => zaF zhP rfl <| (zbI H.sub g11 g11 e6).mono <| H.ye fun w9 v9 S6 hle6 H g18 => ?_
 replace g3 := g3.mono hle6
 replace g6 := g6.mono hle6
 replace g7 := g7.mono hle6
 replace g10 := g10.mono hle6
 replace g11 := g11.mono hle6
 replace g15 := g15.mono hle6
 replace g16 := g16.mono hle6
 replace g17 := g17.mono hle6
 refine bn hF fun y7 e7 hF => zaF is115 rfl <| (zdH H.sub g17 g18 e7).mono <| H.ye fun w10 v10 S7 hle7 H g19 => ?_
 replace g3 := g3.mono hle7
 replace g6 := g6.mono hle7
 replace g7 := g7.mono hle7
 replace g10 := g10.mono hle7
 replace g15 := g15.mono hle7
 replace g16 := g16.mono hle7
 replace g17 := g17.mono hle7
 replace g18 := g18.mono hle7
 obtain ⟨S8, hle8, g20, H1⟩ := H.fixX (k := 0) rfl g16; clear H; have H := H1; clear H1
 replace g3 := g3.mono hle8
 replace g6 := g6.mono hle8
 replace g7 := g7.mono hle8
 replace g10 := g10.mono hle8
 replace g15 := g15.mono hle8
 replace g19 := g19.mono hle8
 refine bn hF fun y8 e8 hF => zaF zhP rfl <| (zbI H.sub g20 g19 e8).mono <| H.ye fun w11 v11 S9 hle9 H g21 => ?_
 replace g3 := g3.mono hle9
 replace g6 := g6.mono hle9
 replace g7 := g7.mono hle9
 replace g10 := g10.mono hle9
 replace g15 := g15.mono hle9
 replace g19 := g19.mono hle9
 replace g20 := g20.mono hle9
 refine p_as (v := v11) rfl <| xk hK4 <| sr fun K5 hK5 => p_mv (v := v11) rfl <| p_mv (v := v11) rfl <| bn hF fun y9 e9 hF => zaF zhP rfl <| (zbI H.sub g21 g21 e9).mono <| H.ye fun w12 v12 S10 hle10 H g22 => ?_
 replace g3 := g3.mono hle10
 replace g6 := g6.mono hle10
 replace g7 := g7.mono hle10
 replace g10 := g10.mono hle10
 replace g15 := g15.mono hle10
 replace g21 := g21.mono hle10
 refine p_mv (v := v6) rfl <| p_mv (v := v6) rfl <| bn hF fun y10 e10 hF => zaF is114 rfl <| (r7_plus_c H.sub g15 g15 e10).mono <| H.ye fun w13 v13 S11 hle11 H g23 => ?_
 replace g3 := g3.mono hle11
 replace g6 := g6.mono hle11
 replace g7 := g7.mono hle11
 replace g10 := g10.mono hle11
 replace g15 := g15.mono hle11
 replace g21 := g21.mono hle11
 replace g22 := g22.mono hle11
 refine bn hF fun y11 e11 hF => zaF is115 rfl <| (zdH H.sub g22 g23 e11).mono <| H.ye fun w14 v14 S12 hle12 H g24 => ?_
 replace g3 := g3.mono hle12
 replace g6 := g6.mono hle12
 replace g7 := g7.mono hle12
 replace g10 := g10.mono hle12
 replace g15 := g15.mono hle12
 replace g21 := g21.mono hle12
 replace g22 := g22.mono hle12
 replace g23 := g23.mono hle12
 refine p_as (v := v14) rfl <| xk hK5 <| wp_seq_k fun K6 hK6 => bn hF fun y12 e12 hF => bn hF fun y13 e13 hF => bn hF fun y14 e14 hF => bn hF fun y15 e15 hF => bn hF fun y16 e16 hF => bn hF fun y17 e17 hF => ?_
 refine bn hF fun y18 e18 hF => wrS H 21 [(4, kR S12 w14.drew y12), (5, kR S12 w14.drew y13), (6, .inr (fun g w' => RdS (gf S12 w14.drew g.f w') g.v ([8] : List UInt32))), (9, kR S12 w14.drew y14), (10, kR S12 w14.drew y15), (11, kR S12 w14.drew y16), (16, kR S12 w14.drew y17), (19, kR S12 w14.drew y18)] fun vs2 H => ?_
 refine tp (zaC (v := v14) rfl) <| tp (zaC (v := v11) rfl) <| tp (zaC (v := v6) rfl) <| tp (zaC (v := v14) rfl) <| tcF is115 (fun w hx => zdH (zdD H.sub hx) (g15.mono (zcZ H.sub)) (g24.mono (zcZ H.sub)) e12) ?_
 refine zgB (l := [v11, (vs2 4).v]) rfl rfl (stRd) zhP rfl (fun w hx hF => zkR hx (zbI (zdD H.sub hx) (g21.mono (zcZ H.sub)) (RdS.mono (zbH hF 4 rfl rfl) (ziJ hF 4 rfl rfl)) e13)) ?_
 refine t_bsl (xs := ([8] : List UInt32)) (N := 1) (vals := [(0, .int .u32 (8))]) (l := ([Value.int .u32 (8)] ++ ([] : List Value))) rfl rfl tn63 H.sub rfl rfl rfl (RL.cons (zkE (x := (8 : UInt32)) rfl) RL.nil) rfl <| tp (zaC (v := (vs1 4).v) rfl) <| tp (zaC (v := (vs1 4).v) rfl) <| tcF zhP (fun w hx => zbI (zdD H.sub hx) (g10.mono (zcZ H.sub)) (g10.mono (zcZ H.sub)) e14) ?_
 refine zgB (l := [(vs2 6).v, (vs2 9).v]) rfl rfl (stRd) zhP rfl (fun w hx hF => zkR hx (zbI (zdD H.sub hx) (RdS.mono (zbH hF 6 rfl rfl) (ziJ hF 6 rfl rfl)) (RdS.mono (zbH hF 9 rfl rfl) (ziJ hF 9 rfl rfl)) e15)) ?_
 refine zgB (l := [(vs2 5).v, (vs2 10).v]) rfl rfl (stRd) is115 rfl (fun w hx hF => zkR hx (zdH (zdD H.sub hx) (RdS.mono (zbH hF 5 rfl rfl) (ziJ hF 5 rfl rfl)) (RdS.mono (zbH hF 10 rfl rfl) (ziJ hF 10 rfl rfl)) e16)) <| tp (zaJ fa161_1 rfl) <| t_v (fun w hx => zaR (v := v2) to63 (H.ext hx) rfl (k := 1) rfl rfl) <| tp (zaJ fa161_1 rfl) ?_
 refine t_v (fun w hx => zaR (v := v2) to63 (H.ext hx) rfl (k := 1) rfl rfl) <| tcF is114 (fun w hx => r7_plus_c (zdD H.sub hx) (g6.mono (zcZ H.sub)) (g6.mono (zcZ H.sub)) e17) <| tp (zaJ fa161_2 rfl) <| t_v (fun w hx => zaR (v := v3) to63 (H.ext hx) rfl (k := 1) rfl rfl) ?_
 refine zgB (l := [(vs2 16).v, v3]) rfl rfl (stRd) zhP rfl (fun w hx hF => zkR hx (zbI (zdD H.sub hx) (RdS.mono (zbH hF 16 rfl rfl) (ziJ hF 16 rfl rfl)) (g7.mono (zcZ H.sub)) e18)) ?_
 refine t_valF (fun w hx hF => zbC (vals := [(0, v14), (1, (vs2 11).v), (2, (vs2 19).v)]) (l := ([v14] ++ ([(vs2 11).v] ++ ([(vs2 19).v])))) tb161 rfl (by simp only [fillL, lkp, RdS.cells g24, RdS.cells (zbH hF 11 rfl rfl), RdS.cells (zbH hF 19 rfl rfl)]; rfl)) rfl rfl ?_
 refine zbP <| H.tf fun w16 S13 hle13 H gs => ?_
 have g33 := gs 4 rfl rfl
 have g34 := gs 5 rfl rfl
 have g35 := gs 6 rfl rfl
 have g36 := gs 9 rfl rfl
 have g37 := gs 10 rfl rfl
 have g38 := gs 11 rfl rfl
 have g39 := gs 16 rfl rfl
 have g40 := gs 19 rfl rfl
 replace g3 := g3.mono hle13
 replace g6 := g6.mono hle13
 replace g7 := g7.mono hle13
 replace g10 := g10.mono hle13
 replace g15 := g15.mono hle13
 replace g21 := g21.mono hle13
 replace g22 := g22.mono hle13
 replace g23 := g23.mono hle13
 replace g24 := g24.mono hle13
 refine zdB (zbE (k := 0) (l := ([v14] ++ ([(vs2 11).v] ++ ([(vs2 19).v])))) tsz161 H rfl rfl rfl (zaV _) rfl (Rp.one (rpP (rpL g24) (rpP (rpL g38) (rpL g40)))) rfl) fun w17 H => wpList_nil <| zaP <| xn hK6 <| wp_ret ?_
 obtain rfl := osi hF
 refine e_1 rfl (zeD (l := ([v14] ++ ([(vs2 11).v] ++ ([(vs2 19).v])))) tg161 H rfl (k := 0) rfl rfl rfl) ?_
 exact ⟨H.toExt, _, rfl, Rp.mono (rpP (rpL g24) (rpP (rpL g38) (rpL g40))) H.gr⟩
def zhW (x0 : (List UInt32) × (List UInt32) × (List UInt32)) (x1 : Bool × (List UInt32) × (List UInt32)) : Option (((List UInt32) × (List UInt32) × (List UInt32)) × Bool) :=
  Option.bind (zaZ x0.2.2 x0.2.2) fun y1 => Option.bind (zaZ x1.2.1 y1) fun y2 => Option.bind (zcF y2 x0.1) fun y3 => bif (((y3).length : Int) == 0) then (some (((([] : List UInt32), ([] : List UInt32), ([] : List UInt32)), false))) else (Option.bind (zaZ y1 x0.2.2) fun y4 => Option.bind (zaZ x1.2.2 y4) fun y5 => Option.bind (zcF y5 x0.2.1) fun y6 => Option.bind (zaZ y3 y3) fun y7 => Option.bind (zaZ y3 y7) fun y8 => Option.bind (zaZ x0.1 y7) fun y9 => Option.bind (zaZ y6 y6) fun y10 => Option.bind (zcF y10 y8) fun y11 => Option.bind (ziQ y9 y9) fun y12 => Option.bind (zcF y11 y12) fun y13 => Option.bind (zcF y9 y13) fun y14 => Option.bind (zaZ y6 y14) fun y15 => Option.bind (zaZ x0.2.1 y8) fun y16 => Option.bind (zcF y15 y16) fun y17 => Option.bind (zaZ x0.2.2 y3) fun y18 => some (((y13, y17, y18), true)))
theorem r7_long_more_c (hS : Sub S w) {c0_ : List Value} {x0 : (List UInt32) × (List UInt32) × (List UInt32)} (h0_ : Rp.rep S c0_ x0) {c1_ : List Value} {x1 : Bool × (List UInt32) × (List UInt32)} (h1_ : Rp.rep S c1_ x1) {r : ((List UInt32) × (List UInt32) × (List UInt32)) × Bool} (hF : zhW x0 x1 = some r) :
    Calls Tryz.prog 127 #[.agg c0_.toArray, .agg c1_.toArray] w fun e w' => Ext w w' ∧ ∃ (c0' : List Value), e = .returned (.tuple #[.agg c0'.toArray, .bool (r.2)]) ∧ Rp.rep (gr S w w') c0' r.1 := by
 refine enter (n := 74) Tryz.func127 rfl rfl rfl ?_
 have H := HS.start hS
 obtain ⟨c1, c2, rfl, g1, g2⟩ := elP h0_
 obtain ⟨v1, rfl, g3⟩ := elL g1
 obtain ⟨c3, c4, rfl, g4, g5⟩ := elP g2
 obtain ⟨v2, rfl, g6⟩ := elL g4
 obtain ⟨v3, rfl, g7⟩ := elL g5
 obtain ⟨c5, c6, rfl, g8, g9⟩ := elP h1_
 obtain rfl := elB g8
 obtain ⟨c7, c8, rfl, g10, g11⟩ := elP g9
 obtain ⟨v4, rfl, g12⟩ := elL g10
 obtain ⟨v5, rfl, g13⟩ := elL g11
 refine sr fun K1 hK1 => zdI (zkN (l := ([v1] ++ ([v2] ++ ([v3])))) H rfl) fun w1 b1 H => zdI (zkN (l := ([Value.bool (x1.1)] ++ ([v4] ++ ([v5])))) H rfl) fun w2 b2 H => zdI (zcP (l := ([Value.slice none 0 0] ++ ([Value.slice none 0 0] ++ ([Value.slice none 0 0])))) H tz161 rfl) fun w3 b3 H => asB rfl <| xk hK1 <| sr fun K2 hK2 => zaA (zaJ fa161_2 rfl) ?_
 refine zaA (zaR (v := v3) to63 H rfl (k := 2) rfl rfl) <| zaA (zaJ fa161_2 rfl) <| zaA (zaR (v := v3) to63 H rfl (k := 2) rfl rfl) <| bn hF fun y1 e1 hF => zaF zhP rfl <| (zbI H.sub g7 g7 e1).mono <| H.ye fun w4 v6 S1 hle1 H g14 => ?_
 replace g3 := g3.mono hle1
 replace g6 := g6.mono hle1
 replace g7 := g7.mono hle1
 replace g12 := g12.mono hle1
 replace g13 := g13.mono hle1
 refine p_as (v := v6) rfl <| xk hK2 <| wp_seq_k fun K3 hK3 => bn hF fun y2 e2 hF => bn hF fun y3 e3 hF => wrS H 7 [(3, kR S1 w4.drew y2), (6, kR S1 w4.drew y3)] fun vs1 H => ?_
 refine tp (zaJ fa65_1 rfl) <| t_v (fun w hx => zaR (v := v4) to63 (H.ext hx) rfl (k := 1) rfl rfl) <| tp (zaC (v := v6) rfl) <| tcF zhP (fun w hx => zbI (zdD H.sub hx) (g12.mono (zcZ H.sub)) (g14.mono (zcZ H.sub)) e2) <| tp (zaJ fa161_0 rfl) <| t_v (fun w hx => zaR (v := v1) to63 (H.ext hx) rfl (k := 2) rfl rfl) ?_
 refine zgB (l := [(vs1 3).v, v1]) rfl rfl (stRd) is115 rfl (fun w hx hF => zkR hx (zdH (zdD H.sub hx) (RdS.mono (zbH hF 3 rfl rfl) (ziJ hF 3 rfl rfl)) (g3.mono (zcZ H.sub)) e3)) <| zbP <| H.tf fun w5 S2 hle2 H gs => ?_
 have g17 := gs 3 rfl rfl
 have g18 := gs 6 rfl rfl
 replace g3 := g3.mono hle2
 replace g6 := g6.mono hle2
 replace g7 := g7.mono hle2
 replace g12 := g12.mono hle2
 replace g13 := g13.mono hle2
 replace g14 := g14.mono hle2
 refine p_as (v := (vs1 6).v) rfl <| wpList_nil <| zaP <| xn hK3 <| wp_seq_k fun K4 hK4 => sr fun K5 hK5 => p_mv (v := (vs1 6).v) rfl <| zaA (r_lenR' u63 rfl g18 H.sub) <| zaA (zdS rfl rfl) <| xk hK5 ?_
 refine zbR hF rfl (fun hF hc1 => ?_) fun hF hc1 => ?_
 ·refine sr fun K6 hK6 => ?_
  refine zaA (zbC (vals := []) (l := ([Value.slice none 0 0] ++ ([Value.slice none 0 0] ++ ([Value.slice none 0 0])))) tb161 rfl rfl) <| zdB (zbE (k := 0) (l := ([Value.slice none 0 0] ++ ([Value.slice none 0 0] ++ ([Value.slice none 0 0])))) tsz161 H rfl rfl rfl (zaV _) rfl (onz rfl) rfl) fun w6 H => asB rfl <| xk hK6 <| wp_ret <| zdC ?_
  obtain rfl := osi hF
  refine e_2 rfl (zeD (l := ([Value.slice none 0 0] ++ ([Value.slice none 0 0] ++ ([Value.slice none 0 0])))) tg161 H rfl (k := 0) rfl rfl rfl) (zbD rfl) ?_
  exact ⟨H.toExt, _, rfl, Rp.mono (rpP (rpL RdS.nil) (rpP (rpL RdS.nil) (rpL RdS.nil))) H.gr⟩
 ·refine wp_skip ?_
  refine xn hK4 <| wp_seq_k fun K7 hK7 => bn hF fun y4 e4 hF => bn hF fun y5 e5 hF => bn hF fun y6 e6 hF => wrS H 10 [(5, kR S2 w5.drew y4), (6, kR S2 w5.drew y5), (9, kR S2 w5.drew y6)] fun vs2 H => ?_
  refine tp (zaJ fa65_2 rfl) <| t_v (fun w hx => zaR (v := v5) to63 (H.ext hx) rfl (k := 1) rfl rfl) <| tp (zaC (v := v6) rfl) <| tp (zaJ fa161_2 rfl) <| t_v (fun w hx => zaR (v := v3) to63 (H.ext hx) rfl (k := 2) rfl rfl) <| tcF zhP (fun w hx => zbI (zdD H.sub hx) (g14.mono (zcZ H.sub)) (g7.mono (zcZ H.sub)) e4) ?_
  refine zgB (l := [v5, (vs2 5).v]) rfl rfl (stRd) zhP rfl (fun w hx hF => zkR hx (zbI (zdD H.sub hx) (g13.mono (zcZ H.sub)) (RdS.mono (zbH hF 5 rfl rfl) (ziJ hF 5 rfl rfl)) e5)) <| tp (zaJ fa161_1 rfl) <| t_v (fun w hx => zaR (v := v2) to63 (H.ext hx) rfl (k := 2) rfl rfl) ?_
  refine zgB (l := [(vs2 6).v, v2]) rfl rfl (stRd) is115 rfl (fun w hx hF => zkR hx (zdH (zdD H.sub hx) (RdS.mono (zbH hF 6 rfl rfl) (ziJ hF 6 rfl rfl)) (g6.mono (zcZ H.sub)) e6)) <| zbP <| H.tf fun w7 S3 hle3 H gs => ?_
  have g22 := gs 5 rfl rfl
  have g23 := gs 6 rfl rfl
  have g24 := gs 9 rfl rfl
  replace g3 := g3.mono hle3
  replace g6 := g6.mono hle3
  replace g7 := g7.mono hle3
  replace g12 := g12.mono hle3
  replace g13 := g13.mono hle3
  replace g14 := g14.mono hle3
  replace g17 := g17.mono hle3
  replace g18 := g18.mono hle3
  refine p_as (v := (vs2 9).v) rfl <| wpList_nil <| zaP <| xn hK7 <| sr fun K8 hK8 => p_mv (v := (vs1 6).v) rfl <| p_mv (v := (vs1 6).v) rfl <| bn hF fun y7 e7 hF => zaF zhP rfl <| (zbI H.sub g18 g18 e7).mono <| H.ye fun w8 v7 S4 hle4 H g25 => ?_
  replace g3 := g3.mono hle4
  replace g6 := g6.mono hle4
  replace g7 := g7.mono hle4
  replace g12 := g12.mono hle4
  replace g13 := g13.mono hle4
  replace g18 := g18.mono hle4
  replace g24 := g24.mono hle4
  refine p_as (v := v7) rfl <| xk hK8 <| wp_seq_k fun K9 hK9 => bn hF fun y8 e8 hF => bn hF fun y9 e9 hF => wrS H 7 [(2, kR S4 w8.drew y8), (6, kR S4 w8.drew y9)] fun vs3 H => ?_
  refine tp (zaC (v := (vs1 6).v) rfl) <| tp (zaC (v := v7) rfl) <| tcF zhP (fun w hx => zbI (zdD H.sub hx) (g18.mono (zcZ H.sub)) (g25.mono (zcZ H.sub)) e8) <| tp (zaJ fa161_0 rfl) <| t_v (fun w hx => zaR (v := v1) to63 (H.ext hx) rfl (k := 2) rfl rfl) <| tp (zaC (v := v7) rfl) ?_
  refine tcF zhP (fun w hx => zbI (zdD H.sub hx) (g3.mono (zcZ H.sub)) (g25.mono (zcZ H.sub)) e9) <| zbP <| H.tf fun w9 S5 hle5 H gs => ?_
  have g28 := gs 2 rfl rfl
  have g29 := gs 6 rfl rfl
  replace g3 := g3.mono hle5
  replace g6 := g6.mono hle5
  replace g7 := g7.mono hle5
  replace g12 := g12.mono hle5
  replace g13 := g13.mono hle5
  replace g18 := g18.mono hle5
  replace g24 := g24.mono hle5
  replace g25 := g25.mono hle5
  refine p_as (v := (vs3 2).v) rfl <| p_as (v := (vs3 6).v) rfl <| wpList_nil <| zaP <| xn hK9 <| sr fun K10 hK10 => p_mv (v := (vs2 9).v) rfl <| p_mv (v := (vs2 9).v) rfl <| bn hF fun y10 e10 hF => zaF zhP rfl ?_
  refine (zbI H.sub g24 g24 e10).mono <| H.ye fun w10 v8 S6 hle6 H g30 => ?_
  replace g3 := g3.mono hle6
  replace g6 := g6.mono hle6
  replace g7 := g7.mono hle6
  replace g12 := g12.mono hle6
  replace g13 := g13.mono hle6
  replace g18 := g18.mono hle6
  replace g24 := g24.mono hle6
  replace g28 := g28.mono hle6
  replace g29 := g29.mono hle6
  refine p_mv (v := (vs3 2).v) rfl <| bn hF fun y11 e11 hF => zaF is115 rfl <| (zdH H.sub g30 g28 e11).mono <| H.ye fun w11 v9 S7 hle7 H g31 => ?_
  replace g3 := g3.mono hle7
  replace g6 := g6.mono hle7
  replace g7 := g7.mono hle7
  replace g12 := g12.mono hle7
  replace g13 := g13.mono hle7
  replace g18 := g18.mono hle7
  replace g24 := g24.mono hle7
  replace g28 := g28.mono hle7
  replace g29 := g29.mono hle7
  replace g30 := g30.mono hle7
  refine p_mv (v := (vs3 6).v) rfl <| p_mv (v := (vs3 6).v) rfl <| bn hF fun y12 e12 hF => zaF is114 rfl <| (r7_plus_c H.sub g29 g29 e12).mono <| H.ye fun w12 v10 S8 hle8 H g32 => ?_
  replace g3 := g3.mono hle8
  replace g6 := g6.mono hle8
  replace g7 := g7.mono hle8
  replace g12 := g12.mono hle8
  replace g13 := g13.mono hle8
  replace g18 := g18.mono hle8
  replace g24 := g24.mono hle8
  replace g28 := g28.mono hle8
  replace g29 := g29.mono hle8
  replace g31 := g31.mono hle8
  refine bn hF fun y13 e13 hF => zaF is115 rfl <| (zdH H.sub g31 g32 e13).mono <| H.ye fun w13 v11 S9 hle9 H g33 => ?_
  replace g3 := g3.mono hle9
  replace g6 := g6.mono hle9
  replace g7 := g7.mono hle9
  replace g12 := g12.mono hle9
  replace g13 := g13.mono hle9
  replace g18 := g18.mono hle9
  replace g24 := g24.mono hle9
  replace g28 := g28.mono hle9
  replace g29 := g29.mono hle9
  replace g31 := g31.mono hle9
  replace g32 := g32.mono hle9
  refine p_as (v := v11) rfl <| xk hK10 <| wp_seq_k fun K11 hK11 => bn hF fun y14 e14 hF => bn hF fun y15 e15 hF => bn hF fun y16 e16 hF => bn hF fun y17 e17 hF => bn hF fun y18 e18 hF => wrS H 16 [(4, kR S9 w13.drew y14), (5, kR S9 w13.drew y15), (9, kR S9 w13.drew y16), (10, kR S9 w13.drew y17), (14, kR S9 w13.drew y18)] fun vs4 H => ?_
  refine tp (zaC (v := v11) rfl) <| tp (zaC (v := (vs2 9).v) rfl) <| tp (zaC (v := (vs3 6).v) rfl) <| tp (zaC (v := v11) rfl) <| tcF is115 (fun w hx => zdH (zdD H.sub hx) (g29.mono (zcZ H.sub)) (g33.mono (zcZ H.sub)) e14) ?_
  refine zgB (l := [(vs2 9).v, (vs4 4).v]) rfl rfl (stRd) zhP rfl (fun w hx hF => zkR hx (zbI (zdD H.sub hx) (g24.mono (zcZ H.sub)) (RdS.mono (zbH hF 4 rfl rfl) (ziJ hF 4 rfl rfl)) e15)) <| tp (zaJ fa161_1 rfl) <| t_v (fun w hx => zaR (v := v2) to63 (H.ext hx) rfl (k := 2) rfl rfl) <| tp (zaC (v := (vs3 2).v) rfl) ?_
  refine tcF zhP (fun w hx => zbI (zdD H.sub hx) (g6.mono (zcZ H.sub)) (g28.mono (zcZ H.sub)) e16) <| zgB (l := [(vs4 5).v, (vs4 9).v]) rfl rfl (stRd) is115 rfl (fun w hx hF => zkR hx (zdH (zdD H.sub hx) (RdS.mono (zbH hF 5 rfl rfl) (ziJ hF 5 rfl rfl)) (RdS.mono (zbH hF 9 rfl rfl) (ziJ hF 9 rfl rfl)) e17)) <| tp (zaJ fa161_2 rfl) ?_
  refine t_v (fun w hx => zaR (v := v3) to63 (H.ext hx) rfl (k := 2) rfl rfl) <| tp (zaC (v := (vs1 6).v) rfl) <| tcF zhP (fun w hx => zbI (zdD H.sub hx) (g7.mono (zcZ H.sub)) (g18.mono (zcZ H.sub)) e18) ?_
  refine t_valF (fun w hx hF => zbC (vals := [(0, v11), (1, (vs4 10).v), (2, (vs4 14).v)]) (l := ([v11] ++ ([(vs4 10).v] ++ ([(vs4 14).v])))) tb161 rfl (by simp only [fillL, lkp, RdS.cells g33, RdS.cells (zbH hF 10 rfl rfl), RdS.cells (zbH hF 14 rfl rfl)]; rfl)) rfl rfl ?_
  refine zbP <| H.tf fun w14 S10 hle10 H gs => ?_
  have g39 := gs 4 rfl rfl
  have g40 := gs 5 rfl rfl
  have g41 := gs 9 rfl rfl
  have g42 := gs 10 rfl rfl
  have g43 := gs 14 rfl rfl
  replace g3 := g3.mono hle10
  replace g6 := g6.mono hle10
  replace g7 := g7.mono hle10
  replace g12 := g12.mono hle10
  replace g13 := g13.mono hle10
  replace g18 := g18.mono hle10
  replace g24 := g24.mono hle10
  replace g28 := g28.mono hle10
  replace g29 := g29.mono hle10
  replace g31 := g31.mono hle10
  replace g32 := g32.mono hle10
  replace g33 := g33.mono hle10
  refine zdB (zbE (k := 0) (l := ([v11] ++ ([(vs4 10).v] ++ ([(vs4 14).v])))) tsz161 H rfl rfl rfl (zaV _) rfl (Rp.one (rpP (rpL g33) (rpP (rpL g42) (rpL g43)))) rfl) fun w15 H => asB rfl <| wpList_nil <| zaP <| xn hK11 <| wp_ret ?_
  obtain rfl := osi hF
  refine e_2 rfl (zeD (l := ([v11] ++ ([(vs4 10).v] ++ ([(vs4 14).v])))) tg161 H rfl (k := 0) rfl rfl rfl) (zbD rfl) ?_
  exact ⟨H.toExt, _, rfl, Rp.mono (rpP (rpL g33) (rpP (rpL g42) (rpL g43))) H.gr⟩
def zhM (x0 : (List UInt32) × (List UInt32) × (List UInt32)) : Option ((Bool × (List UInt32) × (List UInt32))) :=
  bif (((x0.2.2).length : Int) == 0) then (some ((true, ([] : List UInt32), ([] : List UInt32)))) else (Option.bind (zeU 0 x0.2.2) fun y1 => Option.bind (zaZ y1 y1) fun y2 => Option.bind (zaZ x0.1 y2) fun y3 => Option.bind (zaZ y2 y1) fun y4 => Option.bind (zaZ x0.2.1 y4) fun y5 => some ((false, y3, y5)))
theorem r7_long_end_c (hS : Sub S w) {c0_ : List Value} {x0 : (List UInt32) × (List UInt32) × (List UInt32)} (h0_ : Rp.rep S c0_ x0) {r : (Bool × (List UInt32) × (List UInt32))} (hF : zhM x0 = some r) :
    Calls Tryz.prog 128 #[.agg c0_.toArray] w fun e w' => Ext w w' ∧ ∃ (c0' : List Value), e = .returned (.agg c0'.toArray) ∧ Rp.rep (gr S w w') c0' r := by
 refine enter (n := 27) Tryz.func128 rfl rfl rfl ?_
 have H := HS.start hS
 obtain ⟨c1, c2, rfl, g1, g2⟩ := elP h0_
 obtain ⟨v1, rfl, g3⟩ := elL g1
 obtain ⟨c3, c4, rfl, g4, g5⟩ := elP g2
 obtain ⟨v2, rfl, g6⟩ := elL g4
 obtain ⟨v3, rfl, g7⟩ := elL g5
 refine sr fun K1 hK1 => zdI (zkN (l := ([v1] ++ ([v2] ++ ([v3])))) H rfl) fun w1 b1 H => zdI (zcP (l := ([Value.bool (false)] ++ ([Value.slice none 0 0] ++ ([Value.slice none 0 0])))) H tz65 rfl) fun w2 b2 H => xk hK1 <| wp_seq_k fun K2 hK2 => sr fun K3 hK3 => zaA (zaJ fa161_2 rfl) <| zaA (zaR (v := v3) to63 H rfl (k := 1) rfl rfl) <| zaA (r_lenR' u63 rfl g7 H.sub) ?_
 refine zaA (zdS rfl rfl) <| xk hK3 ?_
 refine zbR hF rfl (fun hF hc1 => ?_) fun hF hc1 => ?_
 ·refine sr fun K4 hK4 => ?_
  refine zaA (zbC (vals := [(0, .bool (true))]) (l := ([Value.bool (true)] ++ ([Value.slice none 0 0] ++ ([Value.slice none 0 0])))) tb65 rfl rfl) <| zdB (zbE (k := 0) (l := ([Value.bool (true)] ++ ([Value.slice none 0 0] ++ ([Value.slice none 0 0])))) tsz65 H rfl rfl rfl (zaV _) rfl (onz rfl) rfl) fun w3 H => xk hK4 <| wp_ret <| zdC ?_
  obtain rfl := osi hF
  refine e_1 rfl (zeD (l := ([Value.bool (true)] ++ ([Value.slice none 0 0] ++ ([Value.slice none 0 0])))) tg65 H rfl (k := 0) rfl rfl rfl) ?_
  exact ⟨H.toExt, _, rfl, Rp.mono (rpP rpB (rpP (rpL RdS.nil) (rpL RdS.nil))) H.gr⟩
 ·refine wp_skip ?_
  refine xn hK2 <| sr fun K5 hK5 => zaA (zaJ fa161_2 rfl) <| zaA (zaR (v := v3) to63 H rfl (k := 1) rfl rfl) <| bn hF fun y1 e1 hF => zaF is64 rfl <| (r6_Inverse_c H.sub g7 e1).mono <| H.ye fun w4 v4 S1 hle1 H g8 => ?_
  replace g3 := g3.mono hle1
  replace g6 := g6.mono hle1
  replace g7 := g7.mono hle1
  refine p_as (v := v4) rfl <| xk hK5 <| sr fun K6 hK6 => p_mv (v := v4) rfl <| p_mv (v := v4) rfl <| bn hF fun y2 e2 hF => zaF zhP rfl <| (zbI H.sub g8 g8 e2).mono <| H.ye fun w5 v5 S2 hle2 H g9 => ?_
  replace g3 := g3.mono hle2
  replace g6 := g6.mono hle2
  replace g7 := g7.mono hle2
  replace g8 := g8.mono hle2
  refine p_as (v := v5) rfl <| xk hK6 <| wp_seq_k fun K7 hK7 => bn hF fun y3 e3 hF => bn hF fun y4 e4 hF => bn hF fun y5 e5 hF => wrS H 11 [(3, kR S2 w5.drew y3), (8, kR S2 w5.drew y4), (9, kR S2 w5.drew y5)] fun vs1 H => ?_
  refine tp (zaJ fa161_0 rfl) <| t_v (fun w hx => zaR (v := v1) to63 (H.ext hx) rfl (k := 1) rfl rfl) <| tp (zaC (v := v5) rfl) <| tcF zhP (fun w hx => zbI (zdD H.sub hx) (g3.mono (zcZ H.sub)) (g9.mono (zcZ H.sub)) e3) <| tp (zaJ fa161_1 rfl) <| t_v (fun w hx => zaR (v := v2) to63 (H.ext hx) rfl (k := 1) rfl rfl) <| tp (zaC (v := v5) rfl) ?_
  refine tp (zaC (v := v4) rfl) <| tcF zhP (fun w hx => zbI (zdD H.sub hx) (g9.mono (zcZ H.sub)) (g8.mono (zcZ H.sub)) e4) <| zgB (l := [v2, (vs1 8).v]) rfl rfl (stRd) zhP rfl (fun w hx hF => zkR hx (zbI (zdD H.sub hx) (g6.mono (zcZ H.sub)) (RdS.mono (zbH hF 8 rfl rfl) (ziJ hF 8 rfl rfl)) e5)) ?_
  refine t_valF (fun w hx hF => zbC (vals := [(1, (vs1 3).v), (2, (vs1 9).v)]) (l := ([Value.bool (false)] ++ ([(vs1 3).v] ++ ([(vs1 9).v])))) tb65 rfl (by simp only [fillL, lkp, RdS.cells (zbH hF 3 rfl rfl), RdS.cells (zbH hF 9 rfl rfl)]; rfl)) rfl rfl ?_
  refine zbP <| H.tf fun w6 S3 hle3 H gs => ?_
  have g13 := gs 3 rfl rfl
  have g14 := gs 8 rfl rfl
  have g15 := gs 9 rfl rfl
  replace g3 := g3.mono hle3
  replace g6 := g6.mono hle3
  replace g7 := g7.mono hle3
  replace g8 := g8.mono hle3
  replace g9 := g9.mono hle3
  refine zdB (zbE (k := 0) (l := ([Value.bool (false)] ++ ([(vs1 3).v] ++ ([(vs1 9).v])))) tsz65 H rfl rfl rfl (zaV _) rfl (Rp.one (rpP rpB (rpP (rpL g13) (rpL g15)))) rfl) fun w7 H => wpList_nil <| zaP <| xn hK7 <| wp_ret ?_
  obtain rfl := osi hF
  refine e_1 rfl (zeD (l := ([Value.bool (false)] ++ ([(vs1 3).v] ++ ([(vs1 9).v])))) tg65 H rfl (k := 0) rfl rfl rfl) ?_
  exact ⟨H.toExt, _, rfl, Rp.mono (rpP rpB (rpP (rpL g13) (rpL g15))) H.gr⟩
def zgN (x0 : Bool × (List UInt32) × (List UInt32)) (x1 : List UInt32) (s1 : Int × (List UInt32) × (List UInt32) × (List UInt32)) : Option ((Int × (List UInt32) × (List UInt32) × (List UInt32)) ⊕ ((List UInt32) × (List UInt32) × (List UInt32))) :=
  bif decide ((0 : Int) ≤ s1.1) then (Option.bind (Option.bind (bif decide ((0 : Int) < ((s1.2.2.2).length : Int)) then (Option.bind (zfU s1.2) fun y1 => some ((y1.1, y1.2.1, y1.2.2))) else (some ((s1.2.1, s1.2.2.1, s1.2.2.2)))) (fun t3 => Option.bind (idx x1 (w64 (Int.tdiv s1.1 16))) fun y2 => Option.bind (chk (decide (0 ≤ (Int.tmod s1.1 16)))) fun y3 => bif (((((i32 (shrI .u32 ((y2).toNat : Int) (Int.tmod s1.1 16))) &&& (1 : UInt32))).toNat : Int) == 0) then (some ((t3.1, t3.2.1, t3.2.2))) else (bif (((t3.2.2).length : Int) == 0) then (some ((x0.2.1, x0.2.2, ([1] : List UInt32)))) else (Option.bind (zhW t3 x0) fun y4 => Option.bind (bif (!y4.2) then (Option.bind (zhM t3) fun y5 => Option.bind (zjX y5 x0) fun y6 => bif y6.1 then (some ((([] : List UInt32), ([] : List UInt32), ([] : List UInt32)))) else (some ((y6.2.1, y6.2.2, ([1] : List UInt32))))) else (some ((y4.1.1, y4.1.2.1, y4.1.2.2)))) (fun t4 => some ((t4.1, t4.2.1, t4.2.2))))))) (fun t2 => some (.inl (((w64 (s1.1 - 1)), t2.1, t2.2.1, t2.2.2))))) else (some (.inr ((s1.2.1, s1.2.2.1, s1.2.2.2))))
def ziV (x0 : Bool × (List UInt32) × (List UInt32)) (x1 : List UInt32) : Option ((Bool × (List UInt32) × (List UInt32))) :=
  bif x0.1 then (some (x0)) else (Option.bind (Option.bind (iter (zgN x0 x1) (((w64 ((w64 ((16 : Int) * ((x1).length : Int))) - 1)), ([] : List UInt32), ([] : List UInt32), ([] : List UInt32)))) (fun e => some (e))) (fun t1 => Option.bind (zhM t1) fun y7 => some (y7)))
theorem r7_Point_Fast_c (hS : Sub S w) {c0_ : List Value} {x0 : Bool × (List UInt32) × (List UInt32)} (h0_ : Rp.rep S c0_ x0) {v1_ : Value} {x1 : List UInt32} (h1_ : RdS S v1_ x1) {r : (Bool × (List UInt32) × (List UInt32))} (hF : ziV x0 x1 = some r) :
    Calls Tryz.prog 68 #[.agg c0_.toArray, v1_] w fun e w' => Ext w w' ∧ ∃ (c0' : List Value), e = .returned (.agg c0'.toArray) ∧ Rp.rep (gr S w w') c0' r := by
 refine enter (n := 72) Tryz.func68 rfl rfl rfl ?_
 have H := HS.start hS
 obtain ⟨c1, c2, rfl, g1, g2⟩ := elP h0_
 obtain rfl := elB g1
 obtain ⟨c3, c4, rfl, g3, g4⟩ := elP g2
 obtain ⟨v1, rfl, g5⟩ := elL g3
 obtain ⟨v2, rfl, g6⟩ := elL g4
 refine sr fun K1 hK1 => zdI (zkN (l := ([Value.bool (x0.1)] ++ ([v1] ++ ([v2])))) H rfl) fun w1 b1 H => zdI (zcP (l := ([Value.bool (false)] ++ ([Value.slice none 0 0] ++ ([Value.slice none 0 0])))) H tz65 rfl) fun w2 b2 H => xk hK1 <| wp_seq_k fun K2 hK2 => sr fun K3 hK3 => zaA (zaJ fa65_0 rfl) <| zaA (zaR (v := .bool (x0.1)) to4 H rfl (k := 1) rfl rfl) <| xk hK3 ?_
 refine zbR hF rfl (fun hF hc1 => ?_) fun hF hc1 => ?_
 ·refine sr fun K4 hK4 => ?_
  refine zaA (zbL (l := ([Value.bool (x0.1)] ++ ([v1] ++ ([v2])))) tg65 H rfl (k := 1) rfl rfl rfl) <| zdB (zbE (k := 0) (l := ([Value.bool (x0.1)] ++ ([v1] ++ ([v2])))) tsz65 H rfl rfl rfl (zaV _) rfl (Rp.one (rpP rpB (rpP (rpL g5) (rpL g6)))) rfl) fun w3 H => xk hK4 <| wp_ret <| zdC ?_
  obtain rfl := osi hF
  refine e_1 rfl (zeD (l := ([Value.bool (x0.1)] ++ ([v1] ++ ([v2])))) tg65 H rfl (k := 0) rfl rfl rfl) ?_
  exact ⟨H.toExt, _, rfl, Rp.mono (rpP rpB (rpP (rpL g5) (rpL g6))) H.gr⟩
 ·refine wp_skip ?_
  refine xn hK2 <| sr fun K5 hK5 => zaA (zbC (vals := []) (l := ([Value.slice none 0 0] ++ ([Value.slice none 0 0] ++ ([Value.slice none 0 0])))) tb161 rfl rfl) <| zdI (zcP (l := ([Value.slice none 0 0] ++ ([Value.slice none 0 0] ++ ([Value.slice none 0 0])))) H tz161 rfl) fun w4 b3 H => ?_
  refine zdB (zbE (k := 0) (l := ([Value.slice none 0 0] ++ ([Value.slice none 0 0] ++ ([Value.slice none 0 0])))) tsz161 H rfl rfl rfl (zaV _) rfl (onz rfl) rfl) fun w5 H => xk hK5 <| wp_seq_k fun K6 hK6 => zaY fun m1 k1 => bn hF fun t1 hE1 hF1 => ?_
  have J4 : ∀ (v27 : Value) (v28 : Value) (v29 : Value) (S10 : Mem) (m10 : FM) (w23 : World), Kp (6 :: 7 :: 8 :: 9 :: rg 14 56 []) m10 m1 → Mem.le S S10 → HS ⟨S, [], w⟩ S10 w23 [.blk b3 (([v27] ++ ([v28] ++ ([v29])))) 161, .blk b2 (([Value.bool (false)] ++ ([Value.slice none 0 0] ++ ([Value.slice none 0 0])))) 65, .blk b1 (([Value.bool (x0.1)] ++ ([v1] ++ ([v2])))) 65] → RdS S10 v27 t1.1 → RdS S10 v28 t1.2.1 → RdS S10 v29 t1.2.2 → K6 (fr 72 m10) w23 := by
   clear H; intro v27 v28 v29 S10 m10 w23 k11 hle10 H g53 g54 g55
   replace g5 := g5.mono hle10
   replace g6 := g6.mono hle10
   replace h1_ := h1_.mono hle10
   have q22 : look m10 4 = .pointer (some ⟨b2, 0, none⟩) := (k11 4 rfl).trans (k1 4)
   have q23 : look m10 5 = .pointer (some ⟨b3, 0, none⟩) := (k11 5 rfl).trans (k1 5)
   refine hK6 _ _ <| sr fun K24 hK24 => zaA (zbL (l := ([v27] ++ ([v28] ++ ([v29])))) tg161 H q23 (k := 0) rfl rfl rfl) <| bn hF1 fun y7 e7 hF1 => zaF is128 rfl <| (r7_long_end_c H.sub (rpP (rpL g53) (rpP (rpL g54) (rpL g55))) e7).mono <| H.yc fun w24 c26 S11 hle11 H g56 => ?_
   replace g5 := g5.mono hle11
   replace g6 := g6.mono hle11
   replace g53 := g53.mono hle11
   replace g54 := g54.mono hle11
   replace g55 := g55.mono hle11
   obtain ⟨c27, c28, rfl, g57, g58⟩ := elP g56
   obtain rfl := elB g57
   obtain ⟨c29, c30, rfl, g59, g60⟩ := elP g58
   obtain ⟨v30, rfl, g61⟩ := elL g59
   obtain ⟨v31, rfl, g62⟩ := elL g60
   refine zdB (zbE (k := 1) (l := ([Value.bool (y7.1)] ++ ([v30] ++ ([v31])))) tsz65 H q22 rfl rfl (zaV _) rfl (Rp.one (rpP rpB (rpP (rpL g61) (rpL g62)))) rfl) fun w25 H => xk hK24 <| wp_ret ?_
   obtain rfl := osi hF1
   refine e_1 rfl (zeD (l := ([Value.bool (y7.1)] ++ ([v30] ++ ([v31])))) tg65 H q22 (k := 1) rfl rfl rfl) ?_
   exact ⟨H.toExt, _, rfl, Rp.mono (rpP rpB (rpP (rpL g61) (rpL g62))) H.gr⟩
  refine sr fun K7 hK7 => p_mv (v := v1_) (k1 1) <| zaA (r_lenR' u63 rfl h1_ H.sub) <| zaA (r_mulI rfl rfl) <| zaA (zdQ rfl rfl) <| asI rfl <| xk hK7 <| wp_block <| zaY fun m2 k2 => ?_
  refine bn hE1 fun out1 hL1 hE2 => ?_
  refine zdL (6 :: 7 :: 8 :: 9 :: rg 18 52 []) (fun (s1 : Int × (List UInt32) × (List UInt32) × (List UInt32)) (m3 : FM) (w6 : World) => ∃ (S1 : Mem) (v3 : Value) (v4 : Value) (v5 : Value), look m3 6 = .int .i64 (s1.1) ∧ Mem.le S S1 ∧ HS ⟨S, [], w⟩ S1 w6 [.blk b3 (([v3] ++ ([v4] ++ ([v5])))) 161, .blk b2 (([Value.bool (false)] ++ ([Value.slice none 0 0] ++ ([Value.slice none 0 0])))) 65, .blk b1 (([Value.bool (x0.1)] ++ ([v1] ++ ([v2])))) 65] ∧ RdS S1 v3 s1.2.1 ∧ RdS S1 v4 s1.2.2.1 ∧ RdS S1 v5 s1.2.2.2) hL1 ⟨_, _, _, _, (k2 6), (Mem.le_refl _), H, RdS.nil, RdS.nil, RdS.nil⟩ ?_
  clear H; intro k4 s1 m3 w6 k3 hI1 o2 hb1 hh1; obtain ⟨S1, v3, v4, v5, q1, hle1, H, g7, g8, g9⟩ := hI1
  replace g5 := g5.mono hle1
  replace g6 := g6.mono hle1
  replace h1_ := h1_.mono hle1
  have q2 : look m3 1 = v1_ := (k3 1 rfl).trans ((k2 1).trans (k1 1))
  have q3 : look m3 2 = .pointer (some ⟨b1, 0, none⟩) := (k3 2 rfl).trans ((k2 2).trans (k1 2))
  have q4 : look m3 4 = .pointer (some ⟨b2, 0, none⟩) := (k3 4 rfl).trans ((k2 4).trans (k1 4))
  have q5 : look m3 5 = .pointer (some ⟨b3, 0, none⟩) := (k3 5 rfl).trans ((k2 5).trans (k1 5))
  refine wp_seq_k fun K8 hK8 => sr fun K9 hK9 => p_mv q1 <| zaA (r_geqI rfl rfl) <| xk hK9 ?_
  refine zbR hb1 rfl (fun hb1 hc2 => ?_) fun hb1 hc2 => ?_
  ·refine wp_skip ?_
   refine xn hK8 <| wp_seq_k fun K10 hK10 => zaY fun m4 k5 => bn hb1 fun t2 hE3 hF2 => ?_
   have J3 : ∀ (v24 : Value) (v25 : Value) (v26 : Value) (S9 : Mem) (m9 : FM) (w22 : World), Kp (7 :: 8 :: 9 :: rg 22 48 []) m9 m4 → Mem.le S1 S9 → HS ⟨S, [], w⟩ S9 w22 [.blk b3 (([v24] ++ ([v25] ++ ([v26])))) 161, .blk b2 (([Value.bool (false)] ++ ([Value.slice none 0 0] ++ ([Value.slice none 0 0])))) 65, .blk b1 (([Value.bool (x0.1)] ++ ([v1] ++ ([v2])))) 65] → RdS S9 v24 t2.1 → RdS S9 v25 t2.2.1 → RdS S9 v26 t2.2.2 → K10 (fr 72 m9) w22 := by
    clear H; intro v24 v25 v26 S9 m9 w22 k10 hle9 H g50 g51 g52
    replace g5 := g5.mono hle9
    replace g6 := g6.mono hle9
    replace h1_ := h1_.mono hle9
    replace g7 := g7.mono hle9
    replace g8 := g8.mono hle9
    replace g9 := g9.mono hle9
    have q17 := (k10 1 rfl).trans ((k5 1).trans q2)
    have q18 := (k10 2 rfl).trans ((k5 2).trans q3)
    have q19 := (k10 4 rfl).trans ((k5 4).trans q4)
    have q20 := (k10 5 rfl).trans ((k5 5).trans q5)
    have q21 := (k10 6 rfl).trans ((k5 6).trans q1)
    refine hK10 _ _ <| wp_region_lit <| p_mv q21 <| zaA (zdQ rfl rfl) <| asI rfl <| wpList_nil <| zaG ?_
    obtain rfl := osi hF2
    exact ⟨((w64 (s1.1 - 1)), t2.1, t2.2.1, t2.2.2), _, rfl, (kS k10 rfl (kN k5 (kS k3 rfl kcx))), ⟨_, _, _, _, rfl, (Mem.le_trans hle1 hle9), H, g50, g51, g52⟩, hh1⟩
   refine wp_block <| wp_seq_k fun K11 hK11 => zaY fun m5 k6 => bn hE3 fun t3 hE4 hF3 => ?_
   have J2 : ∀ (v9 : Value) (v10 : Value) (v11 : Value) (S3 : Mem) (m6 : FM) (w9 : World), Kp (rg 22 6 []) m6 m5 → Mem.le S1 S3 → HS ⟨S, [], w⟩ S3 w9 [.blk b3 (([v9] ++ ([v10] ++ ([v11])))) 161, .blk b2 (([Value.bool (false)] ++ ([Value.slice none 0 0] ++ ([Value.slice none 0 0])))) 65, .blk b1 (([Value.bool (x0.1)] ++ ([v1] ++ ([v2])))) 65] → RdS S3 v9 t3.1 → RdS S3 v10 t3.2.1 → RdS S3 v11 t3.2.2 → K11 (fr 72 m6) w9 := by
    clear H; intro v9 v10 v11 S3 m6 w9 k7 hle3 H g18 g19 g20
    replace g5 := g5.mono hle3
    replace g6 := g6.mono hle3
    replace h1_ := h1_.mono hle3
    replace g7 := g7.mono hle3
    replace g8 := g8.mono hle3
    replace g9 := g9.mono hle3
    have q6 := (k7 1 rfl).trans ((k6 1).trans ((k5 1).trans q2))
    have q7 := (k7 2 rfl).trans ((k6 2).trans ((k5 2).trans q3))
    have q8 := (k7 4 rfl).trans ((k6 4).trans ((k5 4).trans q4))
    have q9 := (k7 5 rfl).trans ((k6 5).trans ((k5 5).trans q5))
    have q10 := (k7 6 rfl).trans ((k6 6).trans ((k5 6).trans q1))
    refine hK11 _ _ <| wp_seq_k fun K13 hK13 => sr fun K14 hK14 => p_mv (v := v1_) q6 <| p_mv q10 <| zaA (r_quo (r := w64 (Int.tdiv s1.1 16)) rfl rfl (by decide) rfl) <| bn hF3 fun y2 e2 hF3 => ?_
    obtain ⟨b4, o5, N1, c10, cs1, hv1, hi1, hc4, hr1⟩ := h1_.get (zaD e2).2
    refine zaA (zaU (i := ((w64 (Int.tdiv s1.1 16)) : Int).toNat) u63 zbG rfl hv1 rfl (zaD e2).1 hi1) ?_
    obtain rfl := zeG hr1
    refine zaA (zbM (p := (o5 + ((w64 (Int.tdiv s1.1 16)) : Int).toNat * 1)) (o := 0) (v := .int .u32 (((y2).toNat : Int))) zcW H.sub rfl hc4 rfl) <| p_mv q10 <| zaA (r_rem (r := Int.tmod s1.1 16) rfl rfl (by decide) rfl) <| bn hF3 fun y3 e3 hF3 => zaA (zeM rfl rfl (Int.not_lt.2 (of_decide_eq_true (zdT e3))) (zjJ _ _)) ?_
    refine zaA (zbJ (bo := .and) (by simp) rfl rfl (ziY _ (1 : UInt32))) <| zaA (zdS rfl rfl) <| xk hK14 ?_
    refine zbR hF3 rfl (fun hF3 hc5 => ?_) fun hF3 hc5 => ?_
    ·refine wp_exit ?_
     refine zaN <| zcK <| zaG ?_
     obtain rfl := osi hF3
     exact J3 _ _ _ _ _ _ (kS k7 rfl (kN k6 kcx)) hle3 H g18 g19 g20
    ·refine wp_skip ?_
     refine xn hK13 <| wp_seq_k fun K15 hK15 => sr fun K16 hK16 => zaA (zaJ fa161_2 q9) <| zaA (zaR (v := v11) to63 H rfl (k := 0) rfl rfl) <| zaA (r_lenR' u63 rfl g20 H.sub) <| zaA (zdS rfl rfl) <| xk hK16 ?_
     refine zbR hF3 rfl (fun hF3 hc6 => ?_) fun hF3 hc6 => ?_
     ·refine sr fun K17 hK17 => ?_
      refine zaA (zaJ fa65_1 q7) <| zaA (zaR (v := v1) to63 H rfl (k := 2) rfl rfl) <| zaA (zaJ fa65_2 q7) <| zaA (zaR (v := v2) to63 H rfl (k := 2) rfl rfl) <| zhD (zbO (N := 1) (xs := ([1] : List UInt32)) (RL.cons (zkE (x := (1 : UInt32)) rfl) RL.nil) tn63 H rfl rfl rfl) fun w10 v12 cs2 H g21 => ?_
      obtain ⟨S4, hle4, g22, H1⟩ := H.fixX (k := 0) rfl g21; clear H; have H := H1; clear H1
      replace g5 := g5.mono hle4
      replace g6 := g6.mono hle4
      replace h1_ := h1_.mono hle4
      replace g18 := g18.mono hle4
      replace g19 := g19.mono hle4
      replace g20 := g20.mono hle4
      refine zaA (zbC (vals := [(0, v1), (1, v2), (2, v12)]) (l := ([v1] ++ ([v2] ++ ([v12])))) tb161 rfl (by simp only [fillL, lkp, RdS.cells g5, RdS.cells g6, RdS.cells g22]; rfl)) ?_
      refine zdB (zbE (k := 0) (l := ([v1] ++ ([v2] ++ ([v12])))) tsz161 H q9 rfl rfl (zaV _) rfl (Rp.one (rpP (rpL g5) (rpP (rpL g6) (rpL g22)))) rfl) fun w11 H => xk hK17 <| wp_exit <| zaN <| zcK <| zaG ?_
      obtain rfl := osi hF3
      exact J3 _ _ _ _ _ _ (kS k7 rfl (kN k6 kcx)) (Mem.le_trans hle3 hle4) H g5 g6 g22
     ·refine wp_skip ?_
      refine xn hK15 <| sr fun K18 hK18 => zaA (zbL (l := ([v9] ++ ([v10] ++ ([v11])))) tg161 H q9 (k := 0) rfl rfl rfl) <| zaA (zbL (l := ([Value.bool (x0.1)] ++ ([v1] ++ ([v2])))) tg65 H q7 (k := 2) rfl rfl rfl) <| bn hF3 fun y4 e4 hF3 => zaF is127 rfl ?_
      refine (r7_long_more_c H.sub (rpP (rpL g18) (rpP (rpL g19) (rpL g20))) (rpP rpB (rpP (rpL g5) (rpL g6))) e4).mono <| H.yc fun w12 c11 S5 hle5 H g23 => ?_
      replace g5 := g5.mono hle5
      replace g6 := g6.mono hle5
      replace h1_ := h1_.mono hle5
      replace g18 := g18.mono hle5
      replace g19 := g19.mono hle5
      replace g20 := g20.mono hle5
      obtain ⟨c12, c13, rfl, g24, g25⟩ := elP g23
      obtain ⟨v13, rfl, g26⟩ := elL g24
      obtain ⟨c14, c15, rfl, g27, g28⟩ := elP g25
      obtain ⟨v14, rfl, g29⟩ := elL g27
      obtain ⟨v15, rfl, g30⟩ := elL g28
      refine mvU rfl <| zaA (zaM (v := .agg (([v13] ++ ([v14] ++ ([v15])))).toArray) rfl rfl) <| zaA (zaM (v := .bool (y4.2)) rfl rfl) <| zdI (zcP (l := ([Value.slice none 0 0] ++ ([Value.slice none 0 0] ++ ([Value.slice none 0 0])))) H tz161 rfl) fun w13 b5 H => ?_
      refine zdB (zbE (k := 0) (l := ([v13] ++ ([v14] ++ ([v15])))) tsz161 H rfl rfl rfl (zaV _) rfl (Rp.one (rpP (rpL g26) (rpP (rpL g29) (rpL g30)))) rfl) fun w14 H => asB rfl <| xk hK18 <| wp_seq_k fun K19 hK19 => zaY fun m7 k8 => bn hF3 fun t4 hE5 hF4 => ?_
      have J1 : ∀ (v21 : Value) (v22 : Value) (v23 : Value) (S8 : Mem) (m8 : FM) (w20 : World), Kp (9 :: rg 54 15 []) m8 m7 → Mem.le S5 S8 → HS ⟨S, [], w⟩ S8 w20 [.blk b5 (([v21] ++ ([v22] ++ ([v23])))) 161, .blk b3 (([v9] ++ ([v10] ++ ([v11])))) 161, .blk b2 (([Value.bool (false)] ++ ([Value.slice none 0 0] ++ ([Value.slice none 0 0])))) 65, .blk b1 (([Value.bool (x0.1)] ++ ([v1] ++ ([v2])))) 65] → RdS S8 v21 t4.1 → RdS S8 v22 t4.2.1 → RdS S8 v23 t4.2.2 → K19 (fr 72 m8) w20 := by
       clear H; intro v21 v22 v23 S8 m8 w20 k9 hle8 H g47 g48 g49
       replace g5 := g5.mono hle8
       replace g6 := g6.mono hle8
       replace h1_ := h1_.mono hle8
       replace g18 := g18.mono hle8
       replace g19 := g19.mono hle8
       replace g20 := g20.mono hle8
       replace g26 := g26.mono hle8
       replace g29 := g29.mono hle8
       replace g30 := g30.mono hle8
       have q11 := (k9 1 rfl).trans ((k8 1).trans q6)
       have q12 := (k9 2 rfl).trans ((k8 2).trans q7)
       have q13 := (k9 4 rfl).trans ((k8 4).trans q8)
       have q14 := (k9 5 rfl).trans ((k8 5).trans q9)
       have q15 := (k9 6 rfl).trans ((k8 6).trans q10)
       have q16 : look m8 7 = .pointer (some ⟨b5, 0, none⟩) := (k9 7 rfl).trans (k8 7)
       refine hK19 _ _ <| wp_region_lit <| zaA (zbL (l := ([v21] ++ ([v22] ++ ([v23])))) tg161 H q16 (k := 0) rfl rfl rfl) <| zdB (zbE (k := 1) (l := ([v21] ++ ([v22] ++ ([v23])))) tsz161 H q14 rfl rfl (zaV _) rfl (Rp.one (rpP (rpL g47) (rpP (rpL g48) (rpL g49)))) rfl) fun w21 H => wpList_nil <| zaS <| zaG ?_
       replace H := H.sel [1, 2, 3] rfl
       replace H := hsn H
       obtain rfl := osi hF4
       exact J3 _ _ _ _ _ _ (kS k9 rfl (kN k8 (kS k7 rfl (kN k6 kcx)))) (Mem.le_trans hle3 (Mem.le_trans hle5 hle8)) H g47 g48 g49
      refine sr fun K20 hK20 => p_mv (k8 8) <| zaA (zlK (t := (!y4.2)) rfl rfl) <| xk hK20 ?_
      refine zbR hE5 rfl (fun hE5 hc7 => ?_) fun hE5 hc7 => ?_
      ·refine wp_seq_k fun K21 hK21 => ?_
       refine bn hE5 fun y5 e5 hE5 => bn hE5 fun y6 e6 hE5 => wrS H 5 [(1, .inr (fun g w' => ∃ c0', g.v = .agg c0'.toArray ∧ Rp.rep (gf S5 w14.drew g.f w') c0' y5)), (3, .inr (fun g w' => ∃ c0', g.v = .agg c0'.toArray ∧ Rp.rep (gf S5 w14.drew g.f w') c0' y6)), (4, .inr (lowR (NewAt w14.drew (([Value.bool (false)] ++ ([Value.slice none 0 0] ++ ([Value.slice none 0 0])))) 65)))] fun vs1 H => ?_
       refine t_v (fun w hx => zbL (l := ([v9] ++ ([v10] ++ ([v11])))) tg161 (H.ext hx) ((k8 5).trans q9) (k := 1) rfl rfl rfl) ?_
       refine zgB (l := [.agg (([v9] ++ ([v10] ++ ([v11])))).toArray]) rfl rfl (fun _ _ _ ⟨c0', e, h0⟩ hx => ⟨c0', e, Rp.mono h0 (gf_mono hx)⟩) is128 rfl (fun w hx hF => (r7_long_end_c (zdD H.sub hx) (rpP (rpL (g18.mono (zcZ H.sub))) (rpP (rpL (g19.mono (zcZ H.sub))) (rpL (g20.mono (zcZ H.sub))))) e5).mono (fun _ w' ⟨hx2, c0', he, h0⟩ => ⟨_, he, hx2, c0', rfl, Rp.mono h0 (gr_gf hx hx2)⟩)) ?_
       refine t_v (fun w hx => zbL (l := ([Value.bool (x0.1)] ++ ([v1] ++ ([v2])))) tg65 (H.ext hx) ((k8 2).trans q7) (k := 3) rfl rfl rfl) ?_
       refine zgB (l := [(vs1 1).v, .agg (([Value.bool (x0.1)] ++ ([v1] ++ ([v2])))).toArray]) rfl rfl (fun _ _ _ ⟨c0', e, h0⟩ hx => ⟨c0', e, Rp.mono h0 (gf_mono hx)⟩) is66 rfl (fun w hx hF => by obtain ⟨c0_, e0_, h0_⟩ := (zbH hF 1 rfl rfl); rw [e0_]; exact (r7_Point_Sum_c (zdD H.sub hx) (Rp.mono h0_ (ziJ hF 1 rfl rfl)) (rpP rpB (rpP (rpL (g5.mono (zcZ H.sub))) (rpL (g6.mono (zcZ H.sub))))) e6).mono (fun _ w' ⟨hx2, c0', he, h0⟩ => ⟨_, he, hx2, c0', rfl, Rp.mono h0 (gr_gf hx hx2)⟩)) ?_
       refine zeA rfl rfl tz65 rfl ?_
       refine zbP (fun w15 hx hF hA => ?_)
       obtain ⟨F1, hd1, h01⟩ := depE hF
       obtain ⟨c16, eq1, g31⟩ := zbH hF 1 rfl rfl
       replace g31 := Rp.mono g31 (hd1 1 rfl rfl)
       obtain ⟨c17, eq2, g32⟩ := zbH hF 3 rfl rfl
       replace g32 := Rp.mono g32 (hd1 3 rfl rfl)
       obtain ⟨⟨b6, eq3, hb2, hh2⟩, hn1⟩ := zbH hF 4 rfl rfl
       have hle6 := zcZ (F := F1) (w := w15) H.sub; replace H := (HS.adopt (H.callF (F := F1) hx) (Nat.le_trans H.fr.size hb2) (gf_none hb2 (by rw [h01]; exact noF hA (by decide) rfl eq3 hn1)) hh2 (HS.keys_lt H hb2)); clear hx hF hA hd1 h01; generalize gf S5 w14.drew F1 w15 = S6 at hle6 H g31 g32
       replace g5 := g5.mono hle6
       replace g6 := g6.mono hle6
       replace h1_ := h1_.mono hle6
       replace g18 := g18.mono hle6
       replace g19 := g19.mono hle6
       replace g20 := g20.mono hle6
       replace g26 := g26.mono hle6
       replace g29 := g29.mono hle6
       replace g30 := g30.mono hle6
       obtain ⟨c18, c19, rfl, g33, g34⟩ := elP g31
       obtain rfl := elB g33
       obtain ⟨c20, c21, rfl, g35, g36⟩ := elP g34
       obtain ⟨v16, rfl, g37⟩ := elL g35
       obtain ⟨v17, rfl, g38⟩ := elL g36
       obtain ⟨c22, c23, rfl, g39, g40⟩ := elP g32
       obtain rfl := elB g39
       obtain ⟨c24, c25, rfl, g41, g42⟩ := elP g40
       obtain ⟨v18, rfl, g43⟩ := elL g41
       obtain ⟨v19, rfl, g44⟩ := elL g42
       refine zdB (zbE (k := 0) (l := ([Value.bool (y6.1)] ++ ([v18] ++ ([v19])))) tsz65 H eq3 rfl eq2 (zaV _) rfl (Rp.one (rpP rpB (rpP (rpL g43) (rpL g44)))) rfl) fun w16 H => wpList_nil <| zaP <| xn hK21 <| sr fun K22 hK22 => zaA (zaJ fa65_1 eq3) <| zaA (zaR (v := v18) to63 H rfl (k := 0) rfl rfl) <| zaA (zaJ fa65_2 eq3) <| zaA (zaR (v := v19) to63 H rfl (k := 0) rfl rfl) ?_
       refine zhD (zbO (N := 1) (xs := ([1] : List UInt32)) (RL.cons (zkE (x := (1 : UInt32)) rfl) RL.nil) tn63 H rfl rfl rfl) fun w17 v20 cs3 H g45 => ?_
       obtain ⟨S7, hle7, g46, H1⟩ := H.fixX (k := 0) rfl g45; clear H; have H := H1; clear H1
       replace g5 := g5.mono hle7
       replace g6 := g6.mono hle7
       replace h1_ := h1_.mono hle7
       replace g18 := g18.mono hle7
       replace g19 := g19.mono hle7
       replace g20 := g20.mono hle7
       replace g26 := g26.mono hle7
       replace g29 := g29.mono hle7
       replace g30 := g30.mono hle7
       replace g43 := g43.mono hle7
       replace g44 := g44.mono hle7
       refine zaA (zbC (vals := [(0, v18), (1, v19), (2, v20)]) (l := ([v18] ++ ([v19] ++ ([v20])))) tb161 rfl (by simp only [fillL, lkp, RdS.cells g43, RdS.cells g44, RdS.cells g46]; rfl)) ?_
       refine zdB (zbE (k := 1) (l := ([v18] ++ ([v19] ++ ([v20])))) tsz161 H (k8 7) rfl rfl (zaV _) rfl (Rp.one (rpP (rpL g43) (rpP (rpL g44) (rpL g46)))) rfl) fun w18 H => xk hK22 <| sr fun K23 hK23 => zaA (zaJ fa65_0 eq3) <| zaA (zaR (v := .bool (y6.1)) to4 H rfl (k := 0) rfl rfl) <| xk hK23 ?_
       refine zbR hE5 rfl (fun hE5 hc8 => ?_) fun hE5 hc8 => ?_
       ·refine wp_region_lit ?_
        refine zaA (zbC (vals := []) (l := ([Value.slice none 0 0] ++ ([Value.slice none 0 0] ++ ([Value.slice none 0 0])))) tb161 rfl rfl) <| zdB (zbE (k := 1) (l := ([Value.slice none 0 0] ++ ([Value.slice none 0 0] ++ ([Value.slice none 0 0])))) tsz161 H (k8 7) rfl rfl (zaV _) rfl (onz rfl) rfl) fun w19 H => wpList_nil <| zaG ?_
        replace H := H.sel [1, 2, 3, 4] rfl
        replace H := hsn H
        obtain rfl := osi hE5
        exact J1 _ _ _ _ _ _ kcx (Mem.le_trans hle6 hle7) H RdS.nil RdS.nil RdS.nil
       ·refine wp_skip ?_
        refine zaG ?_
        replace H := H.sel [1, 2, 3, 4] rfl
        replace H := hsn H
        obtain rfl := osi hE5
        exact J1 _ _ _ _ _ _ kcx (Mem.le_trans hle6 hle7) H g43 g44 g46
      ·refine wp_skip ?_
       refine zaG ?_
       obtain rfl := osi hE5
       exact J1 _ _ _ _ _ _ kcx (Mem.le_refl _) H g26 g29 g30
   refine sr fun K12 hK12 => zaA (zaJ fa161_2 ((k6 5).trans ((k5 5).trans q5))) <| zaA (zaR (v := v5) to63 H rfl (k := 0) rfl rfl) <| zaA (r_lenR' u63 rfl g9 H.sub) <| zaA (r_gtrI rfl rfl) <| xk hK12 ?_
   refine zbR hE4 rfl (fun hE4 hc3 => ?_) fun hE4 hc3 => ?_
   ·refine wp_region_lit ?_
    refine zaA (zbL (l := ([v3] ++ ([v4] ++ ([v5])))) tg161 H ((k6 5).trans ((k5 5).trans q5)) (k := 0) rfl rfl rfl) <| bn hE4 fun y1 e1 hE4 => zaF is126 rfl <| (r7_long_twice_c H.sub (rpP (rpL g7) (rpP (rpL g8) (rpL g9))) e1).mono <| H.yc fun w7 c5 S2 hle2 H g10 => ?_
    replace g5 := g5.mono hle2
    replace g6 := g6.mono hle2
    replace h1_ := h1_.mono hle2
    replace g7 := g7.mono hle2
    replace g8 := g8.mono hle2
    replace g9 := g9.mono hle2
    obtain ⟨c6, c7, rfl, g11, g12⟩ := elP g10
    obtain ⟨v6, rfl, g13⟩ := elL g11
    obtain ⟨c8, c9, rfl, g14, g15⟩ := elP g12
    obtain ⟨v7, rfl, g16⟩ := elL g14
    obtain ⟨v8, rfl, g17⟩ := elL g15
    refine zdB (zbE (k := 0) (l := ([v6] ++ ([v7] ++ ([v8])))) tsz161 H ((k6 5).trans ((k5 5).trans q5)) rfl rfl (zaV _) rfl (Rp.one (rpP (rpL g13) (rpP (rpL g16) (rpL g17)))) rfl) fun w8 H => wpList_nil <| zaG ?_
    obtain rfl := osi hE4
    exact J2 _ _ _ _ _ _ kcx hle2 H g13 g16 g17
   ·refine wp_skip ?_
    refine zaG ?_
    obtain rfl := osi hE4
    exact J2 _ _ _ _ _ _ kcx (Mem.le_refl _) H g7 g8 g9
  ·refine wp_exit ?_
   refine zaN <| zaN <| zcK <| zaG ?_
   obtain rfl := osi hb1
   obtain rfl := osi hh1
   obtain rfl := osi hE2
   exact J4 _ _ _ _ _ _ (kS k3 rfl (kN k2 kcx)) hle1 H g7 g8 g9
theorem is36 : IsFn Tryz.prog 36 := isFn Tryz.func36
theorem is37 : IsFn Tryz.prog 37 := isFn Tryz.func37
theorem is58 : IsFn Tryz.prog 58 := isFn Tryz.func58
theorem is67 : IsFn Tryz.prog 67 := isFn Tryz.func67
theorem is68 : IsFn Tryz.prog 68 := isFn Tryz.func68
theorem is83 : IsFn Tryz.prog 83 := isFn Tryz.func83
def zlM (x0 : List UInt32) : Option (Bool) :=
  Option.bind (zfC x0 ([] : List UInt32)) fun y1 => Option.bind (bif decide ((0 : Int) < y1) then (Option.bind (zdN 1) fun y2 => Option.bind (zfC x0 y2) fun y3 => some (decide (y3 < 0))) else (some (false))) (fun t1 => some (t1))
theorem r8_fine_c (hS : Sub S w) {v0_ : Value} {x0 : List UInt32} (h0_ : RdS S v0_ x0) {r : Bool} (hF : zlM x0 = some r) :
    Calls Tryz.prog 58 #[v0_] w fun e w' => e = .returned (.bool (r)) ∧ Ext w w' := by
 refine enter (n := 13) Tryz.func58 rfl rfl rfl ?_
 have H := HS.start hS
 refine sr fun K1 hK1 => asB rfl <| xk hK1 <| sr fun K2 hK2 => p_mv (v := v0_) rfl ?_
 have g1 : RL S ([] : List Value) ([] : List UInt32) := RL.nil
 refine p_of1 (zeN (N := 0) (vals := []) (l := ([] : List Value)) tn63 H rfl rfl rfl g1.len) fun w1 v1 H => bn hF fun y1 e1 hF => zaF is69 rfl <| (zjV (subMem w1) (h0_.mono H.sub) (RdS.ofOwn H (k := 0) rfl g1) e1).mono <| H.xe fun w2 H => zaA (r_gtrI rfl rfl) <| mvB rfl <| zkU fun m1 k1 => zkX 5 fun K3 hK3 R2 hR2 => bn hF fun t1 hE1 hF1 => ?_
 have J1 : ∀ (S2 : Mem) (m2 : FM) (w5 : World), Kp [8, 9, 10, 11, 12] m2 m1 → look m2 12 = .bool (t1) → Mem.le S S2 → HS ⟨S, [], w⟩ S2 w5 [.osl (v1) (([] : List UInt32)).length 1 ([] : List Value) [] 107] → K3 m2 w5 := by
  clear H; intro S2 m2 w5 k2 q1 hle2 H
  replace h0_ := h0_.mono hle2
  replace g1 := g1.mono hle2
  refine hK3 _ _ <| p_as q1 <| xk hK2 <| wp_ret ?_
  obtain rfl := osi hF1
  refine e_1 rfl (zbD rfl) ?_
  exact ⟨rfl, H.toExt⟩
 refine p_gs (j := 4) (zaI rfl rfl (k1 7)) (fun hb1 => ?_) (fun hb1 => ?_)
 ·replace hE1 := zfK hE1 hb1
  refine zaT (zaI rfl rfl (k1 7)) hb1 <| p_mv (v := v0_) (k1 0) <| zaT (zaI rfl rfl (k1 7)) hb1 <| bn hE1 fun y2 e2 hE1 => zaF is71 rfl <| (zeV H.sub e2).mono <| H.ye fun w3 v2 S1 hle1 H g2 => ?_
  replace h0_ := h0_.mono hle1
  replace g1 := g1.mono hle1
  refine zaT (zaI rfl rfl (k1 7)) hb1 <| bn hE1 fun y3 e3 hE1 => zaF is69 rfl <| (zjV H.sub h0_ g2 e3).mono <| H.xe fun w4 H => zaT (zaI rfl rfl (k1 7)) hb1 <| zaA (zcR rfl rfl) <| zaA (zbQ (v := .bool (decide (y3 < 0))) (k1 7) hb1 rfl) <| hR2 _ _ ?_
  obtain rfl := osi hE1
  exact J1 _ _ _ kcx rfl hle1 H
 ·replace hE1 := zfR hE1 hb1
  refine zaW (zaI rfl rfl (k1 7)) hb1 ?_
  rw [zaH]
  refine zaW (zaI rfl rfl (k1 7)) hb1 ?_
  rw [zaH]
  refine zaW (zaI rfl rfl (k1 7)) hb1 ?_
  rw [zaH]
  refine zaW (zaI rfl rfl (k1 7)) hb1 ?_
  rw [zaH]
  refine zaA (zaX (v := .bool (false)) (k1 7) hb1 rfl) <| hR2 _ _ ?_
  obtain rfl := osi hE1
  exact J1 _ _ _ kcx rfl (Mem.le_refl _) H
def r8_Fine_p (x0 : Qw) : Option (Bool) :=
  Option.bind (r6_In_p x0) fun y1 => Option.bind (zlM y1) fun y2 => some (y2)
theorem r8_Fine_c (hS : Sub S w) {x0 : Qw} {r : Bool} (hF : r8_Fine_p x0 = some r) :
    Calls Tryz.prog 36 #[.agg ((cl24 x0)).toArray] w fun e w' => e = .returned (.bool (r)) ∧ Ext w w' := by
 refine enter (n := 6) Tryz.func36 rfl rfl rfl ?_
 have H := HS.start hS
 refine sr fun K1 hK1 => zdI (zkN (l := (cl24 x0)) H rfl) fun w1 b1 H => asB rfl <| xk hK1 <| sr fun K2 hK2 => zaA (zbL (l := (cl24 x0)) tg24 H rfl (k := 0) rfl rfl rfl) <| bn hF fun y1 e1 hF => zaF is38 rfl <| (r6_In_c H.sub e1).mono <| H.ye fun w2 v1 S1 hle1 H g1 => ?_
 refine bn hF fun y2 e2 hF => zaF is58 rfl <| (r8_fine_c H.sub g1 e2).mono <| H.xe fun w3 H => asB rfl <| xk hK2 <| wp_ret ?_
 obtain rfl := osi hF
 refine e_1 rfl (zbD rfl) ?_
 exact ⟨rfl, H.toExt⟩
def r8_Point_p (x0 : List UInt32) : Option ((Bool × (List UInt32) × (List UInt32))) :=
  Option.bind (r7_Base_p) fun y1 => Option.bind (r7_In_p y1) fun y2 => Option.bind (ziV y2 x0) fun y3 => some (y3)
theorem r8_Point_c (hS : Sub S w) {v0_ : Value} {x0 : List UInt32} (h0_ : RdS S v0_ x0) {r : (Bool × (List UInt32) × (List UInt32))} (hF : r8_Point_p x0 = some r) :
    Calls Tryz.prog 37 #[v0_] w fun e w' => Ext w w' ∧ ∃ (c0' : List Value), e = .returned (.agg c0'.toArray) ∧ Rp.rep (gr S w w') c0' r := by
 refine enter (n := 7) Tryz.func37 rfl rfl rfl ?_
 have H := HS.start hS
 refine sr fun K1 hK1 => zdI (zcP (l := ([Value.bool (false)] ++ ([Value.slice none 0 0] ++ ([Value.slice none 0 0])))) H tz65 rfl) fun w1 b1 H => xk hK1 <| sr fun K2 hK2 => bn hF fun y1 e1 hF => zaF is83 rfl <| (r7_Base_c H.sub e1).mono <| H.xe fun w2 H => bn hF fun y2 e2 hF => zaF is67 rfl ?_
 refine (r7_In_c H.sub e2).mono <| H.yc fun w3 c1 S1 hle1 H g1 => ?_
 replace h0_ := h0_.mono hle1
 obtain ⟨c2, c3, rfl, g2, g3⟩ := elP g1
 obtain rfl := elB g2
 obtain ⟨c4, c5, rfl, g4, g5⟩ := elP g3
 obtain ⟨v1, rfl, g6⟩ := elL g4
 obtain ⟨v2, rfl, g7⟩ := elL g5
 refine p_mv (v := v0_) rfl <| bn hF fun y3 e3 hF => zaF is68 rfl <| (r7_Point_Fast_c H.sub (rpP rpB (rpP (rpL g6) (rpL g7))) h0_ e3).mono <| H.yc fun w4 c6 S2 hle2 H g8 => ?_
 replace h0_ := h0_.mono hle2
 replace g6 := g6.mono hle2
 replace g7 := g7.mono hle2
 obtain ⟨c7, c8, rfl, g9, g10⟩ := elP g8
 obtain rfl := elB g9
 obtain ⟨c9, c10, rfl, g11, g12⟩ := elP g10
 obtain ⟨v3, rfl, g13⟩ := elL g11
 obtain ⟨v4, rfl, g14⟩ := elL g12
 refine zdB (zbE (k := 0) (l := ([Value.bool (y3.1)] ++ ([v3] ++ ([v4])))) tsz65 H rfl rfl rfl (zaV _) rfl (Rp.one (rpP rpB (rpP (rpL g13) (rpL g14)))) rfl) fun w5 H => xk hK2 <| wp_ret ?_
 obtain rfl := osi hF
 refine e_1 rfl (zeD (l := ([Value.bool (y3.1)] ++ ([v3] ++ ([v4])))) tg65 H rfl (k := 0) rfl rfl rfl) ?_
 exact ⟨H.toExt, _, rfl, Rp.mono (rpP rpB (rpP (rpL g13) (rpL g14))) H.gr⟩
def r6_Read_b0 (x0 : List UInt8) (s1 : Int × (List UInt32)) : Option ((Int × (List UInt32)) ⊕ ((List UInt32))) :=
  bif decide ((0 : Int) ≤ s1.1) then (Option.bind (bif ((Int.tmod (w64 ((w64 (((x0).length : Int) - 1)) - s1.1)) 2) == 0) then (Option.bind (app s1.2 ([0] : List UInt32)) fun y1 => some (y1)) else (some (s1.2))) (fun t2 => Option.bind (idx t2 (w64 (Int.tdiv (w64 ((w64 (((x0).length : Int) - 1)) - s1.1)) 2))) fun y2 => Option.bind (idx x0 s1.1) fun y3 => Option.bind (chk (decide (0 ≤ (w64 ((8 : Int) * (Int.tmod (w64 ((w64 (((x0).length : Int) - 1)) - s1.1)) 2)))))) fun y4 => Option.bind (idx t2 (w64 (Int.tdiv (w64 ((w64 (((x0).length : Int) - 1)) - s1.1)) 2))) fun y5 => Option.bind (setL t2 ((w64 (Int.tdiv (w64 ((w64 (((x0).length : Int) - 1)) - s1.1)) 2)) : Int) (y2 ||| (i32 (shlI .u32 (((i32 ((y3).toNat : Int))).toNat : Int) (w64 ((8 : Int) * (Int.tmod (w64 ((w64 (((x0).length : Int) - 1)) - s1.1)) 2))))))) fun y6 => some (.inl (((w64 (s1.1 - 1)), y6))))) else (some (.inr (s1.2)))
def r6_Read_p (x0 : List UInt8) : Option ((List UInt32)) :=
  Option.bind (Option.bind (iter (r6_Read_b0 x0) (((w64 (((x0).length : Int) - 1)), ([] : List UInt32)))) (fun e => some (e))) (fun t1 => Option.bind (zfS t1) fun y7 => some (y7))
theorem r6_Read_c (hS : Sub S w) {x0 : List UInt8} {r : (List UInt32)} (hF : r6_Read_p x0 = some r) :
    Calls Tryz.prog 57 #[str (x0)] w fun e w' => Ext w w' ∧ ∃ (v0' : Value), e = .returned (v0') ∧ RdS (gr S w w') v0' r := by
 refine enter (n := 42) Tryz.func57 rfl rfl rfl ?_
 have H := HS.start hS
 refine sr fun K1 hK1 => asN rfl <| xk hK1 <| sr fun K2 hK2 => ?_
 have g1 : RL S ([] : List Value) ([] : List UInt32) := RL.nil
 refine p_of1 (zeN (N := 0) (vals := []) (l := ([] : List Value)) tn63 H rfl rfl rfl g1.len) fun w1 v1 H => p_as (v := v1) rfl <| xk hK2 <| wp_seq_k fun K3 hK3 => zaY fun m1 k1 => bn hF fun t1 hE1 hF1 => ?_
 have J2 : ∀ (v6 : Value) (cs8 rs4 : List Value) (m6 : FM) (w8 : World), Kp (3 :: 4 :: 5 :: rg 7 33 []) m6 m1 → look m6 3 = v6 → HS ⟨S, [], w⟩ S w8 [.osl (v6) (t1).length 1 cs8 rs4 107] → RL S cs8 t1 → K3 (fr 42 m6) w8 := by
  clear H; intro v6 cs8 rs4 m6 w8 k7 q8 H g7
  refine hK3 _ _ <| sr fun K11 hK11 => p_mv (v := v6) q8 ?_
  obtain ⟨S1, hle1, g8, H1⟩ := H.fixX (k := 0) rfl g7; clear H; have H := H1; clear H1
  replace H := hsn H
  refine bn hF1 fun y7 e7 hF1 => zaF is84 rfl <| (ziT H.sub g8 e7).mono <| H.ye fun w9 v7 S2 hle2 H g9 => ?_
  replace g8 := g8.mono hle2
  refine p_as (v := v7) rfl <| xk hK11 <| wp_ret ?_
  obtain rfl := osi hF1
  refine e_1 rfl (zbD rfl) ?_
  exact ⟨H.toExt, _, rfl, RdS.mono g9 H.gr⟩
 refine sr fun K4 hK4 => p_mv (k1 0) <| zaA (zkQ (N := (x0).length) u9 rfl rfl) <| zaA (zdQ rfl rfl) <| asI rfl <| xk hK4 <| wp_block <| zaY fun m2 k2 => bn hE1 fun out1 hL1 hE2 => ?_
 refine zdL (3 :: 4 :: 5 :: rg 10 30 []) (fun (s1 : Int × (List UInt32)) (m3 : FM) (w2 : World) => ∃ (v2 : Value) (cs2 rs1 : List Value), look m3 3 = v2 ∧ look m3 4 = .int .i64 (s1.1) ∧ HS ⟨S, [], w⟩ S w2 [.osl (v2) (s1.2).length 1 cs2 rs1 107] ∧ RL S cs2 s1.2) hL1 ⟨_, _, _, (show _ = (v1 : Value) from ((k2 3).trans (k1 3))), (k2 4), H, g1⟩ ?_
 clear H; intro k4 s1 m3 w2 k3 hI1 o2 hb1 hh1; obtain ⟨v2, cs2, rs1, q1, q2, H, g2⟩ := hI1
 have q3 : look m3 0 = str (x0) := (k3 0 rfl).trans ((k2 0).trans (k1 0))
 refine wp_seq_k fun K5 hK5 => sr fun K6 hK6 => p_mv q2 <| zaA (r_geqI rfl rfl) <| xk hK6 ?_
 refine zbR hb1 rfl (fun hb1 hc1 => ?_) fun hb1 hc1 => ?_
 ·refine wp_skip ?_
  refine xn hK5 <| wp_seq_k fun K7 hK7 => wp_block <| sr fun K8 hK8 => p_mv q3 <| zaA (zkQ (N := (x0).length) u9 rfl rfl) <| zaA (zdQ rfl rfl) <| p_mv q2 <| zaA (zdQ rfl rfl) ?_
  refine asI rfl <| xk hK8 <| wp_seq_k fun K9 hK9 => zaY fun m4 k5 => bn hb1 fun t2 hE3 hF2 => ?_
  have J1 : ∀ (v5 : Value) (cs5 rs3 : List Value) (m5 : FM) (w5 : World), Kp (3 :: rg 19 6 []) m5 m4 → look m5 3 = v5 → HS ⟨S, [], w⟩ S w5 [.osl (v5) (t2).length 1 cs5 rs3 107] → RL S cs5 t2 → K9 (fr 42 m5) w5 := by
   clear H; intro v5 cs5 rs3 m5 w5 k6 q4 H g5
   have q5 := (k6 0 rfl).trans ((k5 0).trans q3)
   have q6 := (k6 4 rfl).trans ((k5 4).trans q2)
   have q7 : look m5 5 = .int .i64 ((w64 ((w64 (((x0).length : Int) - 1)) - s1.1))) := (k6 5 rfl).trans (k5 5)
   refine hK9 _ _ <| bn hF2 fun y2 e2 hF2 => ?_
   obtain ⟨b1, c1, hv1⟩ := H.ownAt (k := 0) rfl (zbA e2)
   subst hv1
   have hr1 := RL.get g5 (zaD e2).2; generalize hghr1 : piece cs5 _ _ = cs6 at hr1
   obtain rfl := zeG hr1
   refine bn hF2 fun y3 e3 hF2 => bn hF2 fun y4 e4 hF2 => bn hF2 fun y5 e5 hF2 => wrS H 15 [] fun vs1 H => ?_
   refine tp (zaC (v := (sl b1 0 (t2).length c1)) q4) <| tp (zaC q7) <| tp (r_quo (r := w64 (Int.tdiv (w64 ((w64 (((x0).length : Int) - 1)) - s1.1)) 2)) rfl rfl (by decide) rfl) <| tp (zaU (i := ((w64 (Int.tdiv (w64 ((w64 (((x0).length : Int) - 1)) - s1.1)) 2)) : Int).toNat) u63 zbG rfl rfl rfl (zaD e2).1 (zbA e2)) ?_
   refine t_v (fun w hx => zeJ (v := .int .u32 (((y2).toNat : Int))) zcW (H.ext hx) (k := 0) rfl rfl (zbA e2) hghr1) <| tp (zaC q5) <| tp (zaC q6) <| tp (r_idxT (i := (s1.1 : Int).toNat) (u := y3) u9 rfl rfl (zaD e3).1 (zaD e3).2) <| tp (zcE u5 u107 rfl (zbN _)) <| tp (zaC q7) ?_
   refine tp (r_rem (r := Int.tmod (w64 ((w64 (((x0).length : Int) - 1)) - s1.1)) 2) rfl rfl (by decide) rfl) <| tp (r_mulI rfl rfl) <| tp (r_shl rfl rfl (Int.not_lt.2 (of_decide_eq_true (zdT e4))) (i32_shl _ _)) <| tp (zbJ (bo := .or) (by simp) rfl rfl (i32_or _ _)) ?_
   refine tp (zaU (i := ((w64 (Int.tdiv (w64 ((w64 (((x0).length : Int) - 1)) - s1.1)) 2)) : Int).toNat) u63 zbG rfl (HS.ownV H (k := 0) rfl) rfl (zaD e5).1 (zbA e5)) <| zbP <| H.tn fun w6 H => bn hF2 fun y6 e6 hF2 => ?_
   refine p_oft (zfE (k := 0) (l := [Value.int .u32 ((((y2 ||| (i32 (shlI .u32 (((i32 ((y3).toNat : Int))).toNat : Int) (w64 ((8 : Int) * (Int.tmod (w64 ((w64 (((x0).length : Int) - 1)) - s1.1)) 2))))))).toNat : Int))]) zbG rfl H rfl g5 rfl rfl (cells_one rfl) zkO e6) fun w7 cs7 H g6 => wpList_nil <| zaP <| zaS <| xn hK7 <| wp_region_lit <| p_mv q6 <| zaA (zdQ rfl rfl) <| asI rfl ?_
   refine wpList_nil <| zaG ?_
   obtain rfl := osi hF2
   exact ⟨((w64 (s1.1 - 1)), y6), _, rfl, (kS k6 rfl (kN k5 (kS k3 rfl kcx))), ⟨_, _, _, (show _ = (sl b1 0 (t2).length c1 : Value) from q4), rfl, H, g6⟩, hh1⟩
  refine sr fun K10 hK10 => p_mv (k5 5) <| zaA (r_rem (r := Int.tmod (w64 ((w64 (((x0).length : Int) - 1)) - s1.1)) 2) rfl rfl (by decide) rfl) <| zaA (zdS rfl rfl) <| xk hK10 ?_
  refine zbR hE3 rfl (fun hE3 hc2 => ?_) fun hE3 hc2 => ?_
  ·refine wp_region_lit ?_
   refine p_mv (v := v2) ((k5 3).trans q1) <| zhD (zbO (N := 1) (xs := ([0] : List UInt32)) (RL.cons (zkE (x := (0 : UInt32)) rfl) RL.nil) tn63 H rfl rfl rfl) fun w3 v3 cs3 H g3 => bn hE3 fun y1 e1 hE3 => zjF (zcX (k := 1) (v2 := v3) tn63 rfl H rfl rfl g2 rfl (H.slW (k := 0) rfl) g3 e1) fun w4 v4 cs4 rs2 H g4 => ?_
   replace H := H.sel [1] rfl
   replace H := hsn H
   refine p_as (v := v4) rfl <| wpList_nil <| zaG ?_
   obtain rfl := osi hE3
   exact J1 _ _ _ _ _ kcx rfl H g4
  ·refine wp_skip ?_
   refine zaG ?_
   obtain rfl := osi hE3
   exact J1 _ _ _ _ _ kcx (show _ = (v2 : Value) from ((k5 3).trans q1)) H g2
 ·refine wp_exit ?_
  refine zaN <| zaN <| zcK <| zaG ?_
  obtain rfl := osi hb1
  obtain rfl := osi hh1
  obtain rfl := osi hE2
  exact J2 _ _ _ _ _ (kS k3 rfl (kN k2 kcx)) (show _ = (v2 : Value) from q1) H g2
def r6_Bytes_b1 (x0 : Qw) (s1 : Int × (List UInt8)) (s2 : Int × (List UInt8)) : Option ((Int × (List UInt8)) ⊕ ((List UInt8))) :=
  bif decide ((0 : Int) ≤ s2.1) then (Option.bind (idx ([x0.1, x0.2.1, x0.2.2.1, x0.2.2.2] : List UInt64) s1.1) fun y1 => Option.bind (chk (decide (0 ≤ s2.1))) fun y2 => Option.bind (app s2.2 ([(i8 ((((i64 (shrI .u64 ((y1).toNat : Int) s2.1)) &&& (255 : UInt64))).toNat : Int))] : List UInt8)) fun y3 => some (.inl (((w64 (s2.1 - 8)), y3)))) else (some (.inr (s2.2)))
def r6_Bytes_b0 (x0 : Qw) (s1 : Int × (List UInt8)) : Option ((Int × (List UInt8)) ⊕ ((List UInt8))) :=
  bif decide ((0 : Int) ≤ s1.1) then (Option.bind (Option.bind (iter (r6_Bytes_b1 x0 s1) ((56, s1.2))) (fun e => some (e))) (fun t2 => some (.inl (((w64 (s1.1 - 1)), t2))))) else (some (.inr (s1.2)))
def r6_Bytes_p (x0 : Qw) : Option ((List UInt8)) :=
  Option.bind (Option.bind (iter (r6_Bytes_b0 x0) ((3, ([] : List UInt8)))) (fun e => some (e))) (fun t1 => some (t1))
theorem r6_Bytes_c (hS : Sub S w) {x0 : Qw} {r : (List UInt8)} (hF : r6_Bytes_p x0 = some r) :
    Calls Tryz.prog 53 #[.agg ((cl24 x0)).toArray] w fun e w' => e = .returned (str (r)) ∧ Ext w w' := by
 refine enter (n := 27) Tryz.func53 rfl rfl rfl ?_
 have H := HS.start hS
 refine sr fun K1 hK1 => zdI (zkN (l := (cl24 x0)) H rfl) fun w1 b1 H => asT rfl <| xk hK1 <| sr fun K2 hK2 => ?_
 have g1 : RL S ([] : List Value) ([] : List UInt8) := RL.nil
 refine p_of1 (zeN (N := 0) (vals := []) (l := ([] : List Value)) zhR H rfl rfl rfl g1.len) fun w2 v1 H => p_as (v := v1) rfl <| xk hK2 <| wp_seq_k fun K3 hK3 => zaY fun m1 k1 => bn hF fun t1 hE1 hF1 => ?_
 have J2 : ∀ (v7 : Value) (cs7 rs5 : List Value) (m8 : FM) (w8 : World), Kp (3 :: 4 :: 5 :: rg 7 18 []) m8 m1 → look m8 3 = v7 → HS ⟨S, [], w⟩ S w8 [.osl (v7) (t1).length 1 cs7 rs5 5, .blk b1 ((cl24 x0)) 24] → RL S cs7 t1 → K3 (fr 27 m8) w8 := by
  clear H; intro v7 cs7 rs5 m8 w8 k10 q11 H g7
  refine hK3 _ _ <| sr fun K12 hK12 => p_mv (v := v7) q11 <| zaA (r_strO u127 u5 u9 rfl H (k := 0) rfl g7) <| asT rfl <| xk hK12 <| wp_ret ?_
  obtain rfl := osi hF1
  refine e_1 rfl (zbD rfl) ?_
  exact ⟨rfl, H.toExt⟩
 refine sr fun K4 hK4 => asI rfl <| xk hK4 <| wp_block <| zaY fun m2 k2 => bn hE1 fun out1 hL1 hE2 => ?_
 refine zdL (3 :: 4 :: 5 :: rg 7 18 []) (fun (s1 : Int × (List UInt8)) (m3 : FM) (w3 : World) => ∃ (v2 : Value) (cs2 rs1 : List Value), look m3 3 = v2 ∧ look m3 4 = .int .i64 (s1.1) ∧ HS ⟨S, [], w⟩ S w3 [.osl (v2) (s1.2).length 1 cs2 rs1 5, .blk b1 ((cl24 x0)) 24] ∧ RL S cs2 s1.2) hL1 ⟨_, _, _, (show _ = (v1 : Value) from ((k2 3).trans (k1 3))), (k2 4), H, g1⟩ ?_
 clear H; intro k4 s1 m3 w3 k3 hI1 o2 hb1 hh1; obtain ⟨v2, cs2, rs1, q1, q2, H, g2⟩ := hI1
 have q3 : look m3 1 = .pointer (some ⟨b1, 0, none⟩) := (k3 1 rfl).trans ((k2 1).trans (k1 1))
 refine wp_seq_k fun K5 hK5 => sr fun K6 hK6 => p_mv q2 <| zaA (r_geqI rfl rfl) <| xk hK6 ?_
 refine zbR hb1 rfl (fun hb1 hc1 => ?_) fun hb1 hc1 => ?_
 ·refine wp_skip ?_
  refine xn hK5 <| wp_seq_k fun K7 hK7 => zaY fun m4 k5 => bn hb1 fun t2 hE3 hF2 => ?_
  have J1 : ∀ (v6 : Value) (cs6 rs4 : List Value) (m7 : FM) (w7 : World), Kp (3 :: 5 :: rg 11 14 []) m7 m4 → look m7 3 = v6 → HS ⟨S, [], w⟩ S w7 [.osl (v6) (t2).length 1 cs6 rs4 5, .blk b1 ((cl24 x0)) 24] → RL S cs6 t2 → K7 (fr 27 m7) w7 := by
   clear H; intro v6 cs6 rs4 m7 w7 k9 q8 H g6
   have q9 := (k9 1 rfl).trans ((k5 1).trans q3)
   have q10 := (k9 4 rfl).trans ((k5 4).trans q2)
   refine hK7 _ _ <| wp_region_lit <| p_mv q10 <| zaA (zdQ rfl rfl) <| asI rfl <| wpList_nil <| zaG ?_
   obtain rfl := osi hF2
   exact ⟨((w64 (s1.1 - 1)), t2), _, rfl, (kS k9 rfl (kN k5 (kS k3 rfl kcx))), ⟨_, _, _, (show _ = (v6 : Value) from q8), rfl, H, g6⟩, hh1⟩
  refine wp_block <| sr fun K8 hK8 => asI rfl <| xk hK8 <| wp_block <| zaY fun m5 k6 => bn hE3 fun out2 hL2 hE4 => ?_
  refine zdL (3 :: 5 :: rg 11 14 []) (fun (s2 : Int × (List UInt8)) (m6 : FM) (w4 : World) => ∃ (v3 : Value) (cs3 rs2 : List Value), look m6 3 = v3 ∧ look m6 5 = .int .i64 (s2.1) ∧ HS ⟨S, [], w⟩ S w4 [.osl (v3) (s2.2).length 1 cs3 rs2 5, .blk b1 ((cl24 x0)) 24] ∧ RL S cs3 s2.2) hL2 ⟨_, _, _, (show _ = (v2 : Value) from ((k6 3).trans ((k5 3).trans q1))), (k6 5), H, g2⟩ ?_
  clear H; intro k8 s2 m6 w4 k7 hI2 o4 hb2 hh2; obtain ⟨v3, cs3, rs2, q4, q5, H, g3⟩ := hI2
  have q6 := (k7 1 rfl).trans ((k6 1).trans ((k5 1).trans q3))
  have q7 := (k7 4 rfl).trans ((k6 4).trans ((k5 4).trans q2))
  refine wp_seq_k fun K9 hK9 => sr fun K10 hK10 => p_mv q5 <| zaA (r_geqI rfl rfl) <| xk hK10 ?_
  refine zbR hb2 rfl (fun hb2 hc2 => ?_) fun hb2 hc2 => ?_
  ·refine wp_skip ?_
   refine xn hK9 <| wp_seq_k fun K11 hK11 => wp_block <| wp_region_lit <| p_mv (v := v3) q4 <| p_mv q7 <| bn hb2 fun y1 e1 hb2 => zaA (zaQ (i := (s1.1 : Int).toNat) u24 sz22 q6 rfl rfl (by have h1_ := (zaD e1).1; omega) (by have h1_ := (zaD e1).1; have h2_ := zbA e1; simp only [List.length_cons, List.length_nil] at h2_; omega)) ?_
   refine zaA (h_loadA (cf := fun a_ : UInt64 => Value.int .u64 (((a_).toNat : Int))) (o := 0) to22 H rfl (k := 1) rfl e1 rfl) <| p_mv q5 <| bn hb2 fun y2 e2 hb2 => zaA (zeM rfl rfl (Int.not_lt.2 (of_decide_eq_true (zdT e2))) (zjC _ _)) <| zaA (zbJ (bo := .and) (by simp) rfl rfl (zjO _ (255 : UInt64))) <| zaA (zcE u22 u5 rfl (i8_wrap _)) ?_
   refine zhD (zbO (N := 1) (xs := ([(i8 ((((i64 (shrI .u64 ((y1).toNat : Int) s2.1)) &&& (255 : UInt64))).toNat : Int))] : List UInt8)) (RL.cons rpU8 RL.nil) zhR H rfl rfl rfl) fun w5 v4 cs4 H g4 => bn hb2 fun y3 e3 hb2 => zjF (zcX (k := 1) (v2 := v4) zhR rfl H rfl rfl g3 rfl (H.slW (k := 0) rfl) g4 e3) fun w6 v5 cs5 rs3 H g5 => ?_
   replace H := H.sel [1, 2] rfl
   replace H := hsn H
   refine p_as (v := v5) rfl <| wpList_nil <| zaS <| xn hK11 <| wp_region_lit <| p_mv q5 <| zaA (zdQ rfl rfl) <| asI rfl <| wpList_nil ?_
   refine zaG ?_
   obtain rfl := osi hb2
   exact ⟨((w64 (s2.1 - 8)), y3), _, rfl, (kS k7 rfl kcx), ⟨_, _, _, rfl, rfl, H, g5⟩, hh2⟩
  ·refine wp_exit ?_
   refine zaN <| zaN <| zcK <| zaS <| zaG ?_
   obtain rfl := osi hb2
   obtain rfl := osi hh2
   obtain rfl := osi hE4
   exact J1 _ _ _ _ _ (kS k7 rfl (kN k6 kcx)) (show _ = (v3 : Value) from q4) H g3
 ·refine wp_exit ?_
  refine zaN <| zaN <| zcK <| zaG ?_
  obtain rfl := osi hb1
  obtain rfl := osi hh1
  obtain rfl := osi hE2
  exact J2 _ _ _ _ _ (kS k3 rfl (kN k2 kcx)) (show _ = (v2 : Value) from q1) H g2
end
end Go.Proofs.YtmbcolbbekbccaaGreat
