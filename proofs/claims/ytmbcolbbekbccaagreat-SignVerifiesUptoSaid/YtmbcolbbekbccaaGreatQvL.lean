/- What some functions compute, and that they do. Package hash: what its sums and macs are: plain laws. Base64 texts: what package codec and its reference write. Package sign: what its keys and rings are: plain laws. Package sign: the calls whose answers the document fixes, and what the laws ask of them: plain laws. What the calls of awake (layer 6) answer: plain lemmas. Points and their bytes, there and back; what the calls of awake (layer 7) answer: plain lemmas. The way over three numbers and the points that it stands for: plain lemmas. The order of the group: N times any point is far out. Plain lemmas. Signatures of the curve: what is signed fits, and so does its twin: plain laws over points. Package sign: private and public keys: plain laws. Conditions: as each theorem says. -/
import Derived.KernelRfl
import Derived.Test.YtmbcolbbekbccaaGreatQvK
namespace Go.Proofs.YtmbcolbbekbccaaGreat
open Go Go.RowKit
attribute [local irreducible] wpList wpT Code.wp Calls Code.rounds
theorem is52 : IsFn Tryz.prog 52 := isFn Tryz.func52
theorem is57 : IsFn Tryz.prog 57 := isFn Tryz.func57
theorem is63 : IsFn Tryz.prog 63 := isFn Tryz.func63
theorem is103 : IsFn Tryz.prog 103 := isFn Tryz.func103
def r8_Sum_p (x0 : List UInt8) : Option ((List UInt32)) :=
  Option.bind (r4_Sum_p x0) fun y1 => Option.bind (r6_Read_p y1) fun y2 => Option.bind (r6_Modulus_p 1) fun y3 => Option.bind (r6_Left_p y2 y3) fun y4 => some (y4)
theorem r8_Sum_c {S : Mem} {w : World} (hS : Sub S w) {x0 : List UInt8} {r : (List UInt32)} (hF : r8_Sum_p x0 = some r) :
    Calls Tryz.prog 52 #[str (x0)] w fun e w' => Ext w w' ∧ ∃ (v0' : Value), e = .returned (v0') ∧ RdS (gr S w w') v0' r := by
 refine enter (n := 8) Tryz.func52 rfl rfl rfl ?_
 have H := HS.start hS
 unfold r8_Sum_p at hF
 refine sr fun K1 hK1 => asN rfl <| xk hK1 <| sr fun K2 hK2 => mvT rfl <| bn hF fun y1 e1 hF => p_call (l := [str (x0)]) is103 rfl <| (r4_Sum_c H.sub e1).mono <| H.xe fun w1 H => bn hF fun y2 e2 hF => ?_
 refine p_call (l := [str (y1)]) is57 rfl <| (r6_Read_c H.sub e2).mono <| H.ye fun w2 v1 S1 hle1 H g1 => bn hF fun y3 e3 hF => p_call (l := [.int .i64 (1)]) is71 rfl <| (r6_Modulus_c H.sub e3).mono <| H.ye fun w3 v2 S2 hle2 H g2 => ?_
 replace g1 := g1.mono hle2
 refine bn hF fun y4 e4 hF => p_call (l := [v1, v2]) is70 rfl <| (r6_Left_c H.sub g1 g2 e4).mono <| H.ye fun w4 v3 S3 hle3 H g3 => ?_
 replace g1 := g1.mono hle3
 replace g2 := g2.mono hle3
 refine p_as (v := v3) rfl <| xk hK2 <| wp_ret ?_
 obtain rfl := osi hF
 refine e_1 rfl (q_tmp rfl) ?_
 exact ⟨H.toExt, _, rfl, RdS.mono g3 H.gr⟩
def r8_Verify_p (x0 : Qp) (x1 : List UInt8) (x2 : List UInt8) : Option (Bool) :=
  Option.bind (bif (((x2).length : Int) != 64) then (some (true)) else (Option.bind (r7_On_p x0) fun y1 => some ((!y1)))) (fun t1 => Option.bind (bif t1 then (some (true)) else (some (x0.2.2))) (fun t2 => bif t2 then (some (false)) else (Option.bind (subH x2 32) fun y2 => Option.bind (r6_Read_p y2) fun y3 => Option.bind (subL x2 32) fun y4 => Option.bind (r6_Read_p y4) fun y5 => Option.bind (r8_fine_p y3) fun y6 => Option.bind (bif (!y6) then (some (true)) else (Option.bind (r8_fine_p y5) fun y7 => some ((!y7)))) (fun t3 => bif t3 then (some (false)) else (Option.bind (r6_Inverse_p 1 y5) fun y8 => Option.bind (r8_Sum_p x1) fun y9 => Option.bind (r6_Product_p 1 y9 y8) fun y10 => Option.bind (r8_Point_p y10) fun y11 => Option.bind (r7_In_p x0) fun y12 => Option.bind (r6_Product_p 1 y3 y8) fun y13 => Option.bind (r7_Point_Fast_p y12 y13) fun y14 => Option.bind (r7_Point_Sum_p y11 y14) fun y15 => bif (!y15.1) then (Option.bind (r6_Modulus_p 1) fun y16 => Option.bind (r6_Left_p y15.2.1 y16) fun y17 => Option.bind (r6_Cmp_p y17 y3) fun y18 => some ((y18 == 0))) else (some (false)))))))
theorem r8_Verify_c {S : Mem} {w : World} (hS : Sub S w) {x0 : Qp} {x1 : List UInt8} {x2 : List UInt8} {r : Bool} (hF : r8_Verify_p x0 x1 x2 = some r) :
    Calls Tryz.prog 15 #[.agg ((cl26 x0)).toArray, str (x1), str (x2)] w fun e w' => e = .returned (.bool (r)) ∧ Ext w w' := by
 refine enter (n := 63) Tryz.func15 rfl rfl rfl ?_
 have H := HS.start hS
 unfold r8_Verify_p at hF
 refine sr fun K1 hK1 => p_ofb (a_box (l := (cl26 x0)) H rfl) fun w1 b1 H => asB rfl <| xk hK1 <| wp_seq_k fun K2 hK2 => sr fun K3 hK3 => mvT rfl <| p_val (r_lenT (N := (x2).length) u9 rfl rfl) <| p_val (r_neqI rfl rfl) ?_
 refine mvB rfl <| nameL fun m1 k1 => gs_at 4 fun K4 hK4 R2 hR2 => bn hF fun t1 hE1 hF1 => ?_
 have J3 : ∀ (m2 : FM) (w3 : World), (∀ t, has [15, 16, 17, 18] t = false → look m2 t = look m1 t) → look m2 18 = .bool (t1) → HS ⟨S, [], w⟩ S w3 [.blk b1 ((cl26 x0)) 26] → K4 m2 w3 := by
  clear H; intro m2 w3 k2 q1 H
  have q2 : look m2 1 = str (x1) := (k2 1 rfl).trans (k1 1)
  have q3 : look m2 2 = str (x2) := (k2 2 rfl).trans (k1 2)
  have q4 : look m2 3 = .pointer (some ⟨b1, 0, none⟩) := (k2 3 rfl).trans (k1 3)
  refine hK4 _ _ <| p_mv q1 <| nameL fun m3 k3 => gs_at 3 fun K5 hK5 R3 hR3 => bn hF1 fun t2 hE2 hF2 => ?_
  have J2 : ∀ (m4 : FM) (w4 : World), (∀ t, has [20, 21, 22] t = false → look m4 t = look m3 t) → look m4 22 = .bool (t2) → HS ⟨S, [], w⟩ S w4 [.blk b1 ((cl26 x0)) 26] → K5 m4 w4 := by
   clear H; intro m4 w4 k4 q5 H
   have q6 := (k4 1 rfl).trans ((k3 1).trans q2)
   have q7 := (k4 2 rfl).trans ((k3 2).trans q3)
   have q8 := (k4 3 rfl).trans ((k3 3).trans q4)
   refine hK5 _ _ <| xk hK3 ?_
   refine c_split q5 (fun hc1 => ?_) (fun hc1 => ?_)
   ·replace hF2 := cnd_t hF2 hc1
    refine sr fun K6 hK6 => asB rfl <| xk hK6 <| wp_ret <| x_ret ?_
    obtain rfl := osi hF2
    refine e_1 rfl (q_tmp rfl) ?_
    exact ⟨rfl, H.toExt⟩
   ·replace hF2 := cnd_f hF2 hc1
    refine wp_skip <| xn hK2 <| wp_seq_k fun K7 hK7 => bn hF2 fun y2 e2 hF2 => bn hF2 fun y3 e3 hF2 => bn hF2 fun y4 e4 hF2 => bn hF2 fun y5 e5 hF2 => ?_
    apply wp_region_ext 6 (kindsF [(2, .inr (fun g w' => RdS (gf S w4.drew g.f w') g.v y3)), (5, .inr (fun g w' => RdS (gf S w4.drew g.f w') g.v y5))]) rfl rfl (by kernel_rfl); intro vs1
    simp only [tkS, tkZ, drS, drZ]
    replace H := H.drew
    refine tp (r_move q7) <| tp (r_sliceTH (h := (32 : Int).toNat) (r := y2) u9 rfl rfl (subH_some e2).1 (subH_some e2).2.1 (subH_some e2).2.2) <| t_callF (l := [str (y2)]) rfl rfl (stRd) is57 rfl (fun w hx hF => callRd hx (r6_Read_c (gf_sub H.sub hx) e3)) <| tp (r_move q7) <| tp (r_sliceTL (p := (32 : Int).toNat) (r := y4) u9 rfl rfl (subL_some e4).1 (subL_some e4).2.1 (subL_some e4).2.2) ?_
    refine t_callF (l := [str (y4)]) rfl rfl (stRd) is57 rfl (fun w hx hF => callRd hx (r6_Read_c (gf_sub H.sub hx) e5)) ?_
    refine t_nil (fun w5 hx hF hA => ?_)
    obtain ⟨F1, hd1, h01⟩ := depE hF
    have g3 := RdS.mono (fact_relF hF 2 rfl rfl) (hd1 2 rfl rfl)
    have g4 := RdS.mono (fact_relF hF 5 rfl rfl) (hd1 5 rfl rfl)
    have hle1 := gf_le (F := F1) (w := w5) H.sub; replace H := H.callF (F := F1) hx; clear hx hF hA hd1 h01; generalize gf S w4.drew F1 w5 = S1 at hle1 H g3 g4
    refine p_as (v := (vs1 2).v) rfl <| p_as (v := (vs1 5).v) rfl ?_
    refine wpList_nil ?_; refine on_norm ?_
    refine xn hK7 <| wp_seq_k fun K8 hK8 => sr fun K9 hK9 => p_mv (v := (vs1 2).v) rfl <| bn hF2 fun y6 e6 hF2 => p_call (l := [(vs1 2).v]) is58 rfl <| (r8_fine_c H.sub g3 e6).mono <| H.xe fun w6 H => p_val (r_not (t := (!y6)) rfl rfl) <| mvB rfl ?_
    refine nameL fun m5 k5 => gs_at 4 fun K10 hK10 R4 hR4 => bn hF2 fun t3 hE3 hF3 => ?_
    have J1 : ∀ (m6 : FM) (w8 : World), (∀ t, has [33, 34, 35, 36] t = false → look m6 t = look m5 t) → look m6 36 = .bool (t3) → HS ⟨S, [], w⟩ S1 w8 [.blk b1 ((cl26 x0)) 26] → K10 m6 w8 := by
     clear H; intro m6 w8 k6 q9 H
     have q10 := (k6 1 rfl).trans ((k5 1).trans q6)
     have q11 := (k6 3 rfl).trans ((k5 3).trans q8)
     have q12 : look m6 7 = (vs1 2).v := (k6 7 rfl).trans (k5 7)
     have q13 : look m6 8 = (vs1 5).v := (k6 8 rfl).trans (k5 8)
     refine hK10 _ _ <| xk hK9 ?_
     refine c_split q9 (fun hc2 => ?_) (fun hc2 => ?_)
     ·replace hF3 := cnd_t hF3 hc2
      refine sr fun K11 hK11 => asB rfl <| xk hK11 <| wp_ret <| x_ret ?_
      obtain rfl := osi hF3
      refine e_1 rfl (q_tmp rfl) ?_
      exact ⟨rfl, H.toExt⟩
     ·replace hF3 := cnd_f hF3 hc2
      refine wp_skip <| xn hK8 <| sr fun K12 hK12 => p_mv (v := (vs1 5).v) q13 <| bn hF3 fun y8 e8 hF3 => p_call (l := [.int .i64 (1), (vs1 5).v]) is64 rfl <| (r6_Inverse_c H.sub g4 e8).mono <| H.ye fun w9 v1 S2 hle2 H g5 => ?_
      replace g3 := g3.mono hle2
      replace g4 := g4.mono hle2
      refine p_as (v := v1) rfl <| xk hK12 <| wp_seq_k fun K13 hK13 => bn hF3 fun y9 e9 hF3 => bn hF3 fun y10 e10 hF3 => bn hF3 fun y11 e11 hF3 => bn hF3 fun y12 e12 hF3 => bn hF3 fun y13 e13 hF3 => bn hF3 fun y14 e14 hF3 => ?_
      refine bn hF3 fun y15 e15 hF3 => ?_
      apply wp_region_ext 13 (kindsF [(1, .inr (fun g w' => RdS (gf S2 w9.drew g.f w') g.v y9)), (3, .inr (fun g w' => RdS (gf S2 w9.drew g.f w') g.v y10)), (4, .inr (fun g w' => ∃ c0', g.v = .agg c0'.toArray ∧ Rp.rep (gf S2 w9.drew g.f w') c0' y11)), (6, .inr (fun g w' => ∃ c0', g.v = .agg c0'.toArray ∧ Rp.rep (gf S2 w9.drew g.f w') c0' y12)), (9, .inr (fun g w' => RdS (gf S2 w9.drew g.f w') g.v y13)), (10, .inr (fun g w' => ∃ c0', g.v = .agg c0'.toArray ∧ Rp.rep (gf S2 w9.drew g.f w') c0' y14)), (11, .inr (fun g w' => ∃ c0', g.v = .agg c0'.toArray ∧ Rp.rep (gf S2 w9.drew g.f w') c0' y15)), (12, .inr (lowR (NewAt w9.drew (([Value.bool (false)] ++ ([Value.slice none 0 0] ++ ([Value.slice none 0 0])))) 65)))]) rfl rfl (by kernel_rfl); intro vs2
      simp only [tkS, tkZ, drS, drZ]
      replace H := H.drew
      refine tp (r_move q10) <| t_callF (l := [str (x1)]) rfl rfl (stRd) is52 rfl (fun w hx hF => callRd hx (r8_Sum_c (gf_sub H.sub hx) e9)) <| tp (r_move (v := v1) rfl) <| t_callF (l := [.int .i64 (1), (vs2 1).v, v1]) rfl rfl (stRd) is65 rfl (fun w hx hF => callRd hx (r6_Product_c (gf_sub H.sub hx) (RdS.mono (fact_relF hF 1 rfl rfl) (dep_of hF 1 rfl rfl)) (g5.mono (gf_le H.sub)) e10)) ?_
      refine t_callF (l := [(vs2 3).v]) rfl rfl (fun _ _ _ ⟨c0', e, h0⟩ hx => ⟨c0', e, Rp.mono h0 (gf_mono hx)⟩) is37 rfl (fun w hx hF => (r8_Point_c (gf_sub H.sub hx) (RdS.mono (fact_relF hF 3 rfl rfl) (dep_of hF 3 rfl rfl)) e11).mono (fun _ w' ⟨hx2, c0', he, h0⟩ => ⟨_, he, hx2, c0', rfl, Rp.mono h0 (gr_gf hx hx2)⟩)) ?_
      refine t_v (fun w hx => h_load (l := (cl26 x0)) tg26 (H.ext hx) q11 (k := 0) rfl rfl rfl) <| t_callF (l := [.agg ((cl26 x0)).toArray]) rfl rfl (fun _ _ _ ⟨c0', e, h0⟩ hx => ⟨c0', e, Rp.mono h0 (gf_mono hx)⟩) is67 rfl (fun w hx hF => (r7_In_c (gf_sub H.sub hx) e12).mono (fun _ w' ⟨hx2, c0', he, h0⟩ => ⟨_, he, hx2, c0', rfl, Rp.mono h0 (gr_gf hx hx2)⟩)) <| tp (r_move (v := (vs1 2).v) q12) ?_
      refine tp (r_move (v := v1) rfl) <| t_callF (l := [.int .i64 (1), (vs1 2).v, v1]) rfl rfl (stRd) is65 rfl (fun w hx hF => callRd hx (r6_Product_c (gf_sub H.sub hx) (g3.mono (gf_le H.sub)) (g5.mono (gf_le H.sub)) e13)) ?_
      refine t_callF (l := [(vs2 6).v, (vs2 9).v]) rfl rfl (fun _ _ _ ⟨c0', e, h0⟩ hx => ⟨c0', e, Rp.mono h0 (gf_mono hx)⟩) is68 rfl (fun w hx hF => by obtain ⟨c0_, e0_, h0_⟩ := (fact_relF hF 6 rfl rfl); rw [e0_]; exact (r7_Point_Fast_c (gf_sub H.sub hx) (Rp.mono h0_ (dep_of hF 6 rfl rfl)) (RdS.mono (fact_relF hF 9 rfl rfl) (dep_of hF 9 rfl rfl)) e14).mono (fun _ w' ⟨hx2, c0', he, h0⟩ => ⟨_, he, hx2, c0', rfl, Rp.mono h0 (gr_gf hx hx2)⟩)) ?_
      refine t_callF (l := [(vs2 4).v, (vs2 10).v]) rfl rfl (fun _ _ _ ⟨c0', e, h0⟩ hx => ⟨c0', e, Rp.mono h0 (gf_mono hx)⟩) is66 rfl (fun w hx hF => by obtain ⟨c0_, e0_, h0_⟩ := (fact_relF hF 4 rfl rfl); rw [e0_]; obtain ⟨c1_, e1_, h1_⟩ := (fact_relF hF 10 rfl rfl); rw [e1_]; exact (r7_Point_Sum_c (gf_sub H.sub hx) (Rp.mono h0_ (dep_of hF 4 rfl rfl)) (Rp.mono h1_ (dep_of hF 10 rfl rfl)) e15).mono (fun _ w' ⟨hx2, c0', he, h0⟩ => ⟨_, he, hx2, c0', rfl, Rp.mono h0 (gr_gf hx hx2)⟩)) ?_
      refine t_alloc rfl rfl tz65 rfl ?_
      refine t_nil (fun w10 hx hF hA => ?_)
      obtain ⟨F2, hd2, h02⟩ := depE hF
      have g9 := RdS.mono (fact_relF hF 1 rfl rfl) (hd2 1 rfl rfl)
      have g10 := RdS.mono (fact_relF hF 3 rfl rfl) (hd2 3 rfl rfl)
      obtain ⟨c1, eq1, g11⟩ := fact_relF hF 4 rfl rfl
      replace g11 := Rp.mono g11 (hd2 4 rfl rfl)
      obtain ⟨c2, eq2, g12⟩ := fact_relF hF 6 rfl rfl
      replace g12 := Rp.mono g12 (hd2 6 rfl rfl)
      have g13 := RdS.mono (fact_relF hF 9 rfl rfl) (hd2 9 rfl rfl)
      obtain ⟨c3, eq3, g14⟩ := fact_relF hF 10 rfl rfl
      replace g14 := Rp.mono g14 (hd2 10 rfl rfl)
      obtain ⟨c4, eq4, g15⟩ := fact_relF hF 11 rfl rfl
      replace g15 := Rp.mono g15 (hd2 11 rfl rfl)
      obtain ⟨⟨b2, eq5, hb4, hh1⟩, hn1⟩ := fact_relF hF 12 rfl rfl
      have hle3 := gf_le (F := F2) (w := w10) H.sub; replace H := (HS.adopt (H.callF (F := F2) hx) (Nat.le_trans H.fr.size hb4) (gf_none hb4 (by rw [h02]; exact noF hA (by decide) rfl eq5 hn1)) hh1 (HS.keys_lt H hb4)); clear hx hF hA hd2 h02; generalize gf S2 w9.drew F2 w10 = S3 at hle3 H g9 g10 g11 g12 g13 g14 g15
      replace g3 := g3.mono hle3
      replace g4 := g4.mono hle3
      replace g5 := g5.mono hle3
      obtain ⟨c5, c6, rfl, g16, g17⟩ := elP g11
      obtain rfl := elB g16
      obtain ⟨c7, c8, rfl, g18, g19⟩ := elP g17
      obtain ⟨v2, rfl, g20⟩ := elL g18
      obtain ⟨v3, rfl, g21⟩ := elL g19
      obtain ⟨c9, c10, rfl, g22, g23⟩ := elP g12
      obtain rfl := elB g22
      obtain ⟨c11, c12, rfl, g24, g25⟩ := elP g23
      obtain ⟨v4, rfl, g26⟩ := elL g24
      obtain ⟨v5, rfl, g27⟩ := elL g25
      obtain ⟨c13, c14, rfl, g28, g29⟩ := elP g14
      obtain rfl := elB g28
      obtain ⟨c15, c16, rfl, g30, g31⟩ := elP g29
      obtain ⟨v6, rfl, g32⟩ := elL g30
      obtain ⟨v7, rfl, g33⟩ := elL g31
      obtain ⟨c17, c18, rfl, g34, g35⟩ := elP g15
      obtain rfl := elB g34
      obtain ⟨c19, c20, rfl, g36, g37⟩ := elP g35
      obtain ⟨v8, rfl, g38⟩ := elL g36
      obtain ⟨v9, rfl, g39⟩ := elL g37
      refine p_ofs (a_store (k := 0) (l := ([Value.bool (y15.1)] ++ ([v8] ++ ([v9])))) tsz65 H eq5 rfl eq4 (cells_agg _) rfl (Rp.one (rpP rpB (rpP (rpL g38) (rpL g39)))) rfl) fun w11 H => ?_
      replace H := hsn H
      refine wpList_nil ?_; refine on_norm ?_
      refine xn hK13 <| wp_seq_k fun K14 hK14 => ?_
      rcases Bool.eq_false_or_eq_true ((!y15.1)) with hb5 | hb5
      ·replace hF3 := cnd_t hF3 hb5
       refine bn hF3 fun y16 e16 hF3 => bn hF3 fun y17 e17 hF3 => bn hF3 fun y18 e18 hF3 => ?_
       apply wp_region_ext 12 (kindsF [(6, .inr (fun g w' => RdS (gf S3 w11.drew g.f w') g.v y16)), (7, .inr (fun g w' => RdS (gf S3 w11.drew g.f w') g.v y17)), (9, .inl (.int .i64 (y18)))]) rfl rfl (by kernel_rfl); intro vs3
       simp only [tkS, tkZ, drS, drZ]
       replace H := H.drew
       refine tp (r_field fa65_0 eq5) <| t_v (fun w hx => h_load1 (v := .bool (y15.1)) to4 (H.ext hx) rfl (k := 0) rfl rfl) <| tp (r_not (t := (!y15.1)) rfl rfl) <| tp (r_move (v := .bool ((!y15.1))) rfl) <| t_valG rfl hb5 (fun w hx => r_field fa65_1 eq5) rfl rfl <| t_valG rfl hb5 (fun w hx => h_load1 (v := v8) to63 (H.ext hx) rfl (k := 0) rfl rfl) rfl rfl ?_
       refine t_callFG rfl hb5 (l := [.int .i64 (1)]) rfl rfl (stRd) is71 rfl (fun w hx hF => callRd hx (r6_Modulus_c (gf_sub H.sub hx) e16)) <| t_callFG rfl hb5 (l := [v8, (vs3 6).v]) rfl rfl (stRd) is70 rfl (fun w hx hF => callRd hx (r6_Left_c (gf_sub H.sub hx) (g38.mono (gf_le H.sub)) (RdS.mono (fact_relF hF 6 rfl rfl) (dep_of hF 6 rfl rfl)) e17)) ?_
       refine t_valG rfl hb5 (fun w hx => r_move (v := (vs1 2).v) q12) rfl rfl <| t_callG rfl hb5 (l := [(vs3 7).v, (vs1 2).v]) rfl rfl is69 rfl (fun w hx hF => (r6_Cmp_c (gf_sub H.sub hx) (RdS.mono (fact_relF hF 7 rfl rfl) (dep_of hF 7 rfl rfl)) (g3.mono (gf_le H.sub)) e18).mono (fun _ _ h => h)) <| t_valG rfl hb5 (fun w hx => r_eqlI rfl rfl) rfl rfl ?_
       refine tp (r_pickt (v := .bool ((y18 == 0))) rfl hb5 rfl) ?_
       refine t_nil (fun w12 hx hF hA => ?_)
       obtain ⟨F3, hd3, h03⟩ := depE hF
       have g42 := RdS.mono (fact_relF hF 6 rfl rfl) (hd3 6 rfl rfl)
       have g43 := RdS.mono (fact_relF hF 7 rfl rfl) (hd3 7 rfl rfl)
       have hle4 := gf_le (F := F3) (w := w12) H.sub; replace H := H.callF (F := F3) hx; clear hx hF hA hd3 h03; generalize gf S3 w11.drew F3 w12 = S4 at hle4 H g42 g43
       replace g3 := g3.mono hle4
       replace g4 := g4.mono hle4
       replace g5 := g5.mono hle4
       replace g9 := g9.mono hle4
       replace g10 := g10.mono hle4
       replace g20 := g20.mono hle4
       replace g21 := g21.mono hle4
       replace g26 := g26.mono hle4
       replace g27 := g27.mono hle4
       replace g13 := g13.mono hle4
       replace g32 := g32.mono hle4
       replace g33 := g33.mono hle4
       replace g38 := g38.mono hle4
       replace g39 := g39.mono hle4
       refine asB rfl ?_
       refine wpList_nil ?_; refine on_norm ?_
       refine xn hK14 <| wp_ret ?_
       obtain rfl := osi hF3
       refine e_1 rfl (q_tmp rfl) ?_
       exact ⟨rfl, H.toExt⟩
      ·replace hF3 := cnd_f hF3 hb5
       apply wp_region_ext 12 (kindsF []) rfl rfl (by kernel_rfl); intro vs3
       simp only [tkS, tkZ, drS, drZ]
       replace H := H.drew
       refine tp (r_field fa65_0 eq5) <| t_v (fun w hx => h_load1 (v := .bool (y15.1)) to4 (H.ext hx) rfl (k := 0) rfl rfl) <| tp (r_not (t := (!y15.1)) rfl rfl) <| tp (r_move (v := .bool ((!y15.1))) rfl) <| t_skip rfl hb5 rfl ?_
       rw [put_fr]
       refine t_skip rfl hb5 rfl ?_
       rw [put_fr]
       refine t_skip rfl hb5 rfl ?_
       rw [put_fr]
       refine t_skip rfl hb5 rfl ?_
       rw [put_fr]
       refine t_skip rfl hb5 rfl ?_
       rw [put_fr]
       refine t_skip rfl hb5 rfl ?_
       rw [put_fr]
       refine t_skip rfl hb5 rfl ?_
       rw [put_fr]
       refine tp (r_pickf (v := .bool (false)) rfl hb5 rfl) ?_
       refine t_nil (fun w13 hx hF hA => ?_)
       replace H := H.ext hx; clear hx hF hA
       refine asB rfl ?_
       refine wpList_nil ?_; refine on_norm ?_
       refine xn hK14 <| wp_ret ?_
       obtain rfl := osi hF3
       refine e_1 rfl (q_tmp rfl) ?_
       exact ⟨rfl, H.toExt⟩
    refine p_gs (j := 3) (gvl_at rfl rfl (k5 32)) (fun hb3 => ?_) (fun hb3 => ?_)
    ·replace hE3 := cnd_t hE3 hb3
     refine p_skip (gvl_at rfl rfl (k5 32)) hb3 ?_
     rw [put_fr]
     refine p_skip (gvl_at rfl rfl (k5 32)) hb3 ?_
     rw [put_fr]
     refine p_skip (gvl_at rfl rfl (k5 32)) hb3 ?_
     rw [put_fr]
     refine p_val (r_pickt (v := .bool (true)) (k5 32) hb3 rfl) <| hR4 _ _ ?_
     replace H := hsn H
     obtain rfl := osi hE3
     exact J1 _ _ kcx rfl H
    ·replace hE3 := cnd_f hE3 hb3
     refine p_want (gvl_at rfl rfl (k5 32)) hb3 <| p_mv (v := (vs1 5).v) (k5 8) <| p_want (gvl_at rfl rfl (k5 32)) hb3 <| bn hE3 fun y7 e7 hE3 => p_call (l := [(vs1 5).v]) is58 rfl <| (r8_fine_c H.sub g4 e7).mono <| H.xe fun w7 H => p_want (gvl_at rfl rfl (k5 32)) hb3 <| p_val (r_not (t := (!y7)) rfl rfl) <| p_val (r_pickf (v := .bool ((!y7))) (k5 32) hb3 rfl) ?_
     refine hR4 _ _ ?_
     replace H := hsn H
     obtain rfl := osi hE3
     exact J1 _ _ kcx rfl H
  refine p_gs (j := 8) (gvl_at rfl rfl (k3 19)) (fun hb2 => ?_) (fun hb2 => ?_)
  ·replace hE2 := cnd_t hE2 hb2
   refine p_skip (gvl_at rfl rfl (k3 19)) hb2 ?_
   rw [put_fr]
   refine p_skip (gvl_at rfl rfl (k3 19)) hb2 ?_
   rw [put_fr]
   refine p_val (r_pickt (v := .bool (true)) (k3 19) hb2 rfl) <| hR3 _ _ ?_
   replace H := hsn H
   obtain rfl := osi hE2
   exact J2 _ _ kcx rfl H
  ·replace hE2 := cnd_f hE2 hb2
   refine p_want (gvl_at rfl rfl (k3 19)) hb2 <| p_val (r_field fa26_2 ((k3 3).trans q4)) <| p_want (gvl_at rfl rfl (k3 19)) hb2 <| p_val (h_load1 (v := .bool (x0.2.2)) to4 H rfl (k := 0) rfl rfl) <| p_val (r_pickf (v := .bool (x0.2.2)) (k3 19) hb2 rfl) <| hR3 _ _ ?_
   replace H := hsn H
   obtain rfl := osi hE2
   exact J2 _ _ kcx rfl H
 refine p_gs (j := 3) (gvl_at rfl rfl (k1 14)) (fun hb1 => ?_) (fun hb1 => ?_)
 ·replace hE1 := cnd_t hE1 hb1
  refine p_skip (gvl_at rfl rfl (k1 14)) hb1 ?_
  rw [put_fr]
  refine p_skip (gvl_at rfl rfl (k1 14)) hb1 ?_
  rw [put_fr]
  refine p_skip (gvl_at rfl rfl (k1 14)) hb1 ?_
  rw [put_fr]
  refine p_val (r_pickt (v := .bool (true)) (k1 14) hb1 rfl) <| hR2 _ _ ?_
  replace H := hsn H
  obtain rfl := osi hE1
  exact J3 _ _ kcx rfl H
 ·replace hE1 := cnd_f hE1 hb1
  refine p_want (gvl_at rfl rfl (k1 14)) hb1 <| p_val (h_load (l := (cl26 x0)) tg26 H (k1 3) (k := 0) rfl rfl rfl) <| p_want (gvl_at rfl rfl (k1 14)) hb1 <| bn hE1 fun y1 e1 hE1 => p_call (l := [.agg ((cl26 x0)).toArray]) is63 rfl <| (r7_On_c H.sub e1).mono <| H.xe fun w2 H => p_want (gvl_at rfl rfl (k1 14)) hb1 <| p_val (r_not (t := (!y1)) rfl rfl) ?_
  refine p_val (r_pickf (v := .bool ((!y1))) (k1 14) hb1 rfl) <| hR2 _ _ ?_
  replace H := hsn H
  obtain rfl := osi hE1
  exact J3 _ _ kcx rfl H
end Go.Proofs.YtmbcolbbekbccaaGreat
namespace Go.Proofs.YtmbcolbbekbccaaGreat
open Go Go.RowKit
attribute [local irreducible] wpList wpT Code.wp Calls Code.rounds
theorem u37 : Tryz.prog.underlying 37 = some (.pointer 103) := by kernel_rfl
theorem u40 : Tryz.prog.underlying 40 = some (.slice 9) := by kernel_rfl
theorem eg37 : Tryz.prog.eqGuardType Tryz.prog.depth 37 = false := by kernel_rfl
theorem is9 : IsFn Tryz.prog 9 := isFn Tryz.func9
theorem is11 : IsFn Tryz.prog 11 := isFn Tryz.func11
theorem is12 : IsFn Tryz.prog 12 := isFn Tryz.func12
theorem is14 : IsFn Tryz.prog 14 := isFn Tryz.func14
theorem is15 : IsFn Tryz.prog 15 := isFn Tryz.func15
theorem is16 : IsFn Tryz.prog 16 := isFn Tryz.func16
theorem is17 : IsFn Tryz.prog 17 := isFn Tryz.func17
theorem is19 : IsFn Tryz.prog 19 := isFn Tryz.func19
theorem is21 : IsFn Tryz.prog 21 := isFn Tryz.func21
theorem is26 : IsFn Tryz.prog 26 := isFn Tryz.func26
theorem eqt26 (x y : Qp) : EqR Tryz.prog 3 26 (.agg (cl26 x).toArray) (.agg (cl26 y).toArray) (x == y) :=
  EqR.str (fs := fieldsOf Tryz.prog 26) (by kernel_rfl) (by kernel_rfl) (by kernel_rfl) (l := [(24, 0), (24, 4), (4, 8)]) (by kernel_rfl) (EqL.cons (partA tg24 rfl) (partA tg24 rfl) (eqt24 x.1 y.1) (EqL.cons (partA tg24 rfl) (partA tg24 rfl) (eqt24 x.2.1 y.2.1) (EqL.last (part1 (v := Value.bool (x.2.2)) to4 rfl) (part1 (v := Value.bool (y.2.2)) to4 rfl) ((eqB u4).le 2 (Nat.le_of_ble_eq_true rfl)))))
noncomputable def l8_fixed_p  : Option (Bool) :=
  Option.bind (sign_Public_p ((1 : UInt64), (0 : UInt64), (0 : UInt64), (0 : UInt64))) fun y1 => Option.bind (sign_Public_p ((0 : UInt64), (0 : UInt64), (0 : UInt64), (0 : UInt64))) fun y2 => Option.bind (field_Modulus_p 1) fun y3 => Option.bind (sign_Sign_p y3 ([] : List UInt8)) fun y4 => Option.bind (sign_NewRing_p ([97] : List UInt8)) fun y5 => Option.bind (sign_Ring_Turn_p y5 ([97] : List UInt8)) fun y6 => Option.bind (bif (y6.1 != 80) then (some ((true, y6.2))) else (Option.bind (sign_Ring_Turn_p y6.2 ([98] : List UInt8)) fun y7 => some (((y7.1 != 0), y7.2)))) (fun t1 => Option.bind (bif t1.1 then (some (true)) else (Option.bind (sign_Ring_Kids_p (some t1.2)) fun y8 => some ((((y8).length : Int) != 2)))) (fun t2 => bif t2 then (some (false)) else (Option.bind (sign_Ring_Mac_p (some t1.2) ([115] : List UInt8)) fun y9 => Option.bind (curve_Base_p) fun y10 => bif ((y1.1 : Qp) == (y10 : Qp)) then (bif (y1.2 == 0) then (bif (y2.2 == 80) then (bif (y4.2 == 80) then (Option.bind (sign_Ring_Vouch_p (some t1.2) y9.1 ([115] : List UInt8) y9.2) fun y11 => bif y11 then (Option.bind (sign_Ring_Vouch_p (some t1.2) ([] : List UInt8) ([115] : List UInt8) y9.2) fun y12 => bif (!y12) then (Option.bind (sign_Verify_p y1.1 ([] : List UInt8) ([] : List UInt8)) fun y13 => some ((bif (bif (bif (bif (!y13) then true else false) then true else false) then true else false) then true else false))) else (some (false))) else (some (false))) else (some (false))) else (some (false))) else (some (false))) else (some (false)))))
set_option maxRecDepth 20000 in
set_option maxHeartbeats 2000000 in
theorem l8_fixed_c {S : Mem} {w : World} (hS : Sub S w)  {r : Bool} (hF : l8_fixed_p = some r) :
    Calls Tryz.prog 11 #[] w fun e w' => e = .returned (.bool (r)) ∧ Ext w w' := by
 refine enter (n := 89) Tryz.func11 rfl rfl rfl ?_
 have H := HS.start hS
 unfold l8_fixed_p at hF
 refine sr fun K1 hK1 => asB rfl <| xk hK1 <| sr fun K2 hK2 => p_val (r_build (vals := [(0, .int .u64 (1))]) (l := (cl24 ((1 : UInt64), (0 : UInt64), (0 : UInt64), (0 : UInt64)))) tb24 rfl rfl) <| bn hF fun y1 e1 hF => p_call (l := [.agg ((cl24 ((1 : UInt64), (0 : UInt64), (0 : UInt64), (0 : UInt64)))).toArray]) is9 rfl <| (sign_Public_c H.sub e1).mono <| H.xe fun w1 H => mvU rfl ?_
 refine p_val (r_extract (v := .agg ((cl26 y1.1)).toArray) rfl rfl) <| p_val (r_extract (v := .int .i64 (y1.2)) rfl rfl) <| p_ofb (a_alloc (l := (cl26 (((0 : UInt64), (0 : UInt64), (0 : UInt64), (0 : UInt64)), ((0 : UInt64), (0 : UInt64), (0 : UInt64), (0 : UInt64)), false))) H tz26 rfl) fun w2 b1 H => ?_
 refine p_ofs (a_store (k := 0) (l := (cl26 y1.1)) tsz26 H rfl rfl rfl (cells_agg _) rfl (onz rfl) rfl) fun w3 H => ?_
 replace H := hsn H
 refine asI rfl <| xk hK2 <| sr fun K3 hK3 => p_val (r_build (vals := []) (l := (cl24 ((0 : UInt64), (0 : UInt64), (0 : UInt64), (0 : UInt64)))) tb24 rfl rfl) <| bn hF fun y2 e2 hF => p_call (l := [.agg ((cl24 ((0 : UInt64), (0 : UInt64), (0 : UInt64), (0 : UInt64)))).toArray]) is9 rfl <| (sign_Public_c H.sub e2).mono <| H.xe fun w4 H => mvU rfl <| p_val (r_extract (v := .agg ((cl26 y2.1)).toArray) rfl rfl) ?_
 refine p_val (r_extract (v := .int .i64 (y2.2)) rfl rfl) <| p_ofb (a_alloc (l := (cl26 (((0 : UInt64), (0 : UInt64), (0 : UInt64), (0 : UInt64)), ((0 : UInt64), (0 : UInt64), (0 : UInt64), (0 : UInt64)), false))) H tz26 rfl) fun w5 b2 H => p_ofs (a_store (k := 0) (l := (cl26 y2.1)) tsz26 H rfl rfl rfl (cells_agg _) rfl (onz rfl) rfl) fun w6 H => ?_
 replace H := hsn H
 refine asI rfl <| xk hK3 <| sr fun K4 hK4 => bn hF fun y3 e3 hF => p_call (l := [.int .i64 (1)]) is40 rfl <| (field_Modulus_c H.sub e3).mono <| H.xe fun w7 H => bn hF fun y4 e4 hF => p_call (l := [.agg ((cl24 y3)).toArray, str (([] : List UInt8))]) is12 rfl <| (sign_Sign_c H.sub e4).mono <| H.xe fun w8 H => ?_
 refine mvU rfl <| p_val (r_extract (v := str (y4.1)) rfl rfl) <| p_val (r_extract (v := .int .i64 (y4.2)) rfl rfl) <| asT rfl <| asI rfl <| xk hK4 <| sr fun K5 hK5 => bn hF fun y5 e5 hF => p_call (l := [str (([97] : List UInt8))]) is16 rfl ?_
 refine (sign_NewRing_c (H.hand [] rfl) e5).mono ?_; rintro _ w9 ⟨S1, pb1, pv1, pcs1, prs1, rfl, H2, pg1⟩
 obtain ⟨H1, hle1⟩ := H.frame [] [0, 1] rfl H2; clear H H2; have H := H1; clear H1
 replace H := hsn H
 refine asP rfl <| xk hK5 <| wp_seq_k fun K6 hK6 => sr fun K7 hK7 => mvP rfl <| p_val (r_eqPn u37 eg37 rfl rfl) <| mvB rfl <| p_want rfl rfl <| mvP rfl ?_
 refine p_want rfl rfl <| bn hF fun y6 e6 hF => p_call (l := [.pointer (some ⟨pb1, 0, none⟩), str (([97] : List UInt8))]) is17 rfl <| (sign_Ring_Turn_c (H.hand [0, 1] rfl) pg1 e6).mono ?_; rintro _ w10 ⟨S2, pv2, pcs2, prs2, rfl, H2, pg2⟩
 obtain ⟨H1, hle2⟩ := H.frame [0, 1] [2, 3] rfl H2; clear H H2; have H := H1; clear H1
 replace H := hsn H
 refine p_want rfl rfl <| p_val (r_neqI rfl rfl) <| p_val (r_pickf (v := .bool ((y6.1 != 80))) rfl rfl rfl) <| mvB rfl <| nameL fun m1 k1 => gs_at 4 fun K8 hK8 R6 hR6 => bn hF fun t1 hE1 hF1 => ?_
 have J2 : ∀ (v1 : Value) (cs1 rs1 : List Value) (S4 : Mem) (m2 : FM) (w12 : World), (∀ t, has [34, 35, 36, 37] t = false → look m2 t = look m1 t) → look m2 37 = .bool (t1.1) → Mem.le S2 S4 → HS ⟨S, [], w⟩ S4 w12 [.blk pb1 (([v1])) 103, .osl (v1) (t1.2).length 1 cs1 rs1 99, .blk b2 ((cl26 y2.1)) 26, .blk b1 ((cl26 y1.1)) 26] → RL S4 cs1 t1.2 → K8 m2 w12 := by
  clear H; intro v1 cs1 rs1 S4 m2 w12 k2 q1 hle4 H g1
  have q2 : look m2 1 = .pointer (some ⟨b1, 0, none⟩) := (k2 1 rfl).trans (k1 1)
  have q3 : look m2 2 = .int .i64 (y1.2) := (k2 2 rfl).trans (k1 2)
  have q4 : look m2 4 = .int .i64 (y2.2) := (k2 4 rfl).trans (k1 4)
  have q5 : look m2 6 = .int .i64 (y4.2) := (k2 6 rfl).trans (k1 6)
  have q6 : look m2 7 = .pointer (some ⟨pb1, 0, none⟩) := (k2 7 rfl).trans (k1 7)
  refine hK8 _ _ <| p_mv q1 <| nameL fun m3 k3 => gs_at 5 fun K9 hK9 R8 hR8 => bn hF1 fun t2 hE2 hF2 => ?_
  have J1 : ∀ (m4 : FM) (w14 : World), (∀ t, has [39, 40, 41, 42, 43] t = false → look m4 t = look m3 t) → look m4 43 = .bool (t2) → HS ⟨S, [], w⟩ S4 w14 [.blk pb1 (([v1])) 103, .osl (v1) (t1.2).length 1 cs1 rs1 99, .blk b2 ((cl26 y2.1)) 26, .blk b1 ((cl26 y1.1)) 26] → K9 m4 w14 := by
   clear H; intro m4 w14 k4 q7 H
   have q8 := (k4 1 rfl).trans ((k3 1).trans q2)
   have q9 := (k4 2 rfl).trans ((k3 2).trans q3)
   have q10 := (k4 4 rfl).trans ((k3 4).trans q4)
   have q11 := (k4 6 rfl).trans ((k3 6).trans q5)
   have q12 := (k4 7 rfl).trans ((k3 7).trans q6)
   refine hK9 _ _ <| xk hK7 ?_
   refine c_split q7 (fun hc1 => ?_) (fun hc1 => ?_)
   ·replace hF2 := cnd_t hF2 hc1
    refine sr fun K10 hK10 => asB rfl <| xk hK10 <| wp_ret <| x_ret ?_
    obtain rfl := osi hF2
    refine e_1 rfl (q_tmp rfl) ?_
    exact ⟨rfl, H.toExt⟩
   ·replace hF2 := cnd_f hF2 hc1
    refine wp_skip <| xn hK6 <| sr fun K11 hK11 => p_mv (v := .pointer (some ⟨pb1, 0, none⟩)) q12 <| bn hF2 fun y9 e9 hF2 => p_call (l := [.pointer (some ⟨pb1, 0, none⟩), str (([115] : List UInt8))]) is19 rfl <| (sign_Ring_Mac_c (subMem w14) (rpK (HS.blkAt H (k := 0) rfl) (rpL (RdS.ofOwn H (k := 1) rfl g1))) e9).mono <| H.xe fun w15 H => mvU rfl <| p_val (r_extract (v := str (y9.1)) rfl rfl) ?_
    refine p_val (r_extract (v := str (y9.2)) rfl rfl) <| asT rfl <| asT rfl <| xk hK11 <| wp_seq_k fun K12 hK12 => bn hF2 fun y10 e10 hF2 => ?_
    rcases Bool.eq_false_or_eq_true (((y1.1 : Qp) == (y10 : Qp))) with hb3 | hb3
    ·replace hF2 := cnd_t hF2 hb3
     rcases Bool.eq_false_or_eq_true ((y1.2 == 0)) with hb4 | hb4
     ·replace hF2 := cnd_t hF2 hb4
      rcases Bool.eq_false_or_eq_true ((y2.2 == 80)) with hb5 | hb5
      ·replace hF2 := cnd_t hF2 hb5
       rcases Bool.eq_false_or_eq_true ((y4.2 == 80)) with hb6 | hb6
       ·replace hF2 := cnd_t hF2 hb6
        refine bn hF2 fun y11 e11 hF2 => ?_
        rcases Bool.eq_false_or_eq_true (y11) with hb7 | hb7
        ·replace hF2 := cnd_t hF2 hb7
         refine bn hF2 fun y12 e12 hF2 => ?_
         rcases Bool.eq_false_or_eq_true ((!y12)) with hb8 | hb8
         ·replace hF2 := cnd_t hF2 hb8
          refine bn hF2 fun y13 e13 hF2 => ?_
          apply wp_region_ext 40 (kindsF [(1, .inl (.agg ((cl26 y10)).toArray)), (19, .inl (.bool (y11))), (24, .inl (.bool (y12))), (29, .inl (.bool (y13)))]) rfl rfl (by kernel_rfl); intro vs1
          simp only [tkS, tkZ, drS, drZ]
          replace H := H.drew
          refine t_v (fun w hx => h_load (l := (cl26 y1.1)) tg26 (H.ext hx) q8 (k := 3) rfl rfl rfl) <| t_call (l := []) rfl rfl is41 rfl (fun w hx hF => (curve_Base_c (H.ext hx).sub e10).mono (fun _ _ h => h)) <| tp (r_eqR eg26 (by decide) (eqt26 y1.1 y10) rfl rfl) <| tp (r_move (v := .bool (((y1.1 : Qp) == (y10 : Qp)))) rfl) <| t_valG rfl hb3 (fun w hx => r_move q9) rfl rfl ?_
          refine t_valG rfl hb3 (fun w hx => r_eqlI rfl rfl) rfl rfl <| tp (r_pickt (v := .bool ((y1.2 == 0))) rfl hb3 rfl) <| tp (r_move (v := .bool ((y1.2 == 0))) rfl) <| t_valG rfl hb4 (fun w hx => r_move q10) rfl rfl <| t_valG rfl hb4 (fun w hx => r_eqlI rfl rfl) rfl rfl <| tp (r_pickt (v := .bool ((y2.2 == 80))) rfl hb4 rfl) <| tp (r_move (v := .bool ((y2.2 == 80))) rfl) ?_
          refine t_valG rfl hb5 (fun w hx => r_move q11) rfl rfl <| t_valG rfl hb5 (fun w hx => r_eqlI rfl rfl) rfl rfl <| tp (r_pickt (v := .bool ((y4.2 == 80))) rfl hb5 rfl) <| tp (r_move (v := .bool ((y4.2 == 80))) rfl) <| t_valG rfl hb6 (fun w hx => r_move (v := .pointer (some ⟨pb1, 0, none⟩)) q12) rfl rfl <| t_valG rfl hb6 (fun w hx => r_move (v := str (y9.1)) rfl) rfl rfl ?_
          refine t_valG rfl hb6 (fun w hx => r_move (v := str (y9.2)) rfl) rfl rfl <| t_callG rfl hb6 (l := [.pointer (some ⟨pb1, 0, none⟩), str (y9.1), str (([115] : List UInt8)), str (y9.2)]) rfl rfl is21 rfl (fun w hx hF => (sign_Ring_Vouch_c (subMem w) (rpK (HS.blkAt (H.ext hx) (k := 0) rfl) (rpL (RdS.ofOwn (H.ext hx) (k := 1) rfl g1))) e11).mono (fun _ _ h => h)) <| tp (r_pickt (v := .bool (y11)) rfl hb6 rfl) ?_
          refine tp (r_move (v := .bool (y11)) rfl) <| t_valG rfl hb7 (fun w hx => r_move (v := .pointer (some ⟨pb1, 0, none⟩)) q12) rfl rfl <| t_valG rfl hb7 (fun w hx => r_move (v := str (y9.2)) rfl) rfl rfl ?_
          refine t_callG rfl hb7 (l := [.pointer (some ⟨pb1, 0, none⟩), str (([] : List UInt8)), str (([115] : List UInt8)), str (y9.2)]) rfl rfl is21 rfl (fun w hx hF => (sign_Ring_Vouch_c (subMem w) (rpK (HS.blkAt (H.ext hx) (k := 0) rfl) (rpL (RdS.ofOwn (H.ext hx) (k := 1) rfl g1))) e12).mono (fun _ _ h => h)) <| t_valG rfl hb7 (fun w hx => r_not (t := (!y12)) rfl rfl) rfl rfl ?_
          refine tp (r_pickt (v := .bool ((!y12))) rfl hb7 rfl) <| tp (r_move (v := .bool ((!y12))) rfl) <| t_valG rfl hb8 (fun w hx => h_load (l := (cl26 y1.1)) tg26 (H.ext hx) q8 (k := 3) rfl rfl rfl) rfl rfl <| t_callG rfl hb8 (l := [.agg ((cl26 y1.1)).toArray, str (([] : List UInt8)), str (([] : List UInt8))]) rfl rfl is14 rfl (fun w hx hF => (sign_Verify_c (H.ext hx).sub e13).mono (fun _ _ h => h)) ?_
          refine t_valG rfl hb8 (fun w hx => r_not (t := (!y13)) rfl rfl) rfl rfl <| tp (r_pickt (v := .bool ((!y13))) rfl hb8 rfl) <| tp (r_move (v := .bool ((!y13))) rfl) <| tp (r_pick (t := (bif (!y13) then true else false)) rfl rfl rfl rfl) <| tp (r_move (v := .bool ((bif (!y13) then true else false))) rfl) <| tp (r_pick (t := (bif (bif (!y13) then true else false) then true else false)) rfl rfl rfl rfl) ?_
          refine tp (r_move (v := .bool ((bif (bif (!y13) then true else false) then true else false))) rfl) <| tp (r_pick (t := (bif (bif (bif (!y13) then true else false) then true else false) then true else false)) rfl rfl rfl rfl) <| tp (r_move (v := .bool ((bif (bif (bif (!y13) then true else false) then true else false) then true else false))) rfl) ?_
          refine tp (r_pick (t := (bif (bif (bif (bif (!y13) then true else false) then true else false) then true else false) then true else false)) rfl rfl rfl rfl) ?_
          refine t_nil (fun w16 hx hF hA => ?_)
          replace H := H.ext hx; clear hx hF hA
          refine asB rfl ?_
          refine wpList_nil ?_; refine on_norm ?_
          refine xn hK12 <| wp_ret ?_
          obtain rfl := osi hF2
          refine e_1 rfl (q_tmp rfl) ?_
          exact ⟨rfl, H.toExt⟩
         ·replace hF2 := cnd_f hF2 hb8
          apply wp_region_ext 40 (kindsF [(1, .inl (.agg ((cl26 y10)).toArray)), (19, .inl (.bool (y11))), (24, .inl (.bool (y12)))]) rfl rfl (by kernel_rfl); intro vs1
          simp only [tkS, tkZ, drS, drZ]
          replace H := H.drew
          refine t_v (fun w hx => h_load (l := (cl26 y1.1)) tg26 (H.ext hx) q8 (k := 3) rfl rfl rfl) <| t_call (l := []) rfl rfl is41 rfl (fun w hx hF => (curve_Base_c (H.ext hx).sub e10).mono (fun _ _ h => h)) <| tp (r_eqR eg26 (by decide) (eqt26 y1.1 y10) rfl rfl) <| tp (r_move (v := .bool (((y1.1 : Qp) == (y10 : Qp)))) rfl) <| t_valG rfl hb3 (fun w hx => r_move q9) rfl rfl ?_
          refine t_valG rfl hb3 (fun w hx => r_eqlI rfl rfl) rfl rfl <| tp (r_pickt (v := .bool ((y1.2 == 0))) rfl hb3 rfl) <| tp (r_move (v := .bool ((y1.2 == 0))) rfl) <| t_valG rfl hb4 (fun w hx => r_move q10) rfl rfl <| t_valG rfl hb4 (fun w hx => r_eqlI rfl rfl) rfl rfl <| tp (r_pickt (v := .bool ((y2.2 == 80))) rfl hb4 rfl) <| tp (r_move (v := .bool ((y2.2 == 80))) rfl) ?_
          refine t_valG rfl hb5 (fun w hx => r_move q11) rfl rfl <| t_valG rfl hb5 (fun w hx => r_eqlI rfl rfl) rfl rfl <| tp (r_pickt (v := .bool ((y4.2 == 80))) rfl hb5 rfl) <| tp (r_move (v := .bool ((y4.2 == 80))) rfl) <| t_valG rfl hb6 (fun w hx => r_move (v := .pointer (some ⟨pb1, 0, none⟩)) q12) rfl rfl <| t_valG rfl hb6 (fun w hx => r_move (v := str (y9.1)) rfl) rfl rfl ?_
          refine t_valG rfl hb6 (fun w hx => r_move (v := str (y9.2)) rfl) rfl rfl <| t_callG rfl hb6 (l := [.pointer (some ⟨pb1, 0, none⟩), str (y9.1), str (([115] : List UInt8)), str (y9.2)]) rfl rfl is21 rfl (fun w hx hF => (sign_Ring_Vouch_c (subMem w) (rpK (HS.blkAt (H.ext hx) (k := 0) rfl) (rpL (RdS.ofOwn (H.ext hx) (k := 1) rfl g1))) e11).mono (fun _ _ h => h)) <| tp (r_pickt (v := .bool (y11)) rfl hb6 rfl) ?_
          refine tp (r_move (v := .bool (y11)) rfl) <| t_valG rfl hb7 (fun w hx => r_move (v := .pointer (some ⟨pb1, 0, none⟩)) q12) rfl rfl <| t_valG rfl hb7 (fun w hx => r_move (v := str (y9.2)) rfl) rfl rfl ?_
          refine t_callG rfl hb7 (l := [.pointer (some ⟨pb1, 0, none⟩), str (([] : List UInt8)), str (([115] : List UInt8)), str (y9.2)]) rfl rfl is21 rfl (fun w hx hF => (sign_Ring_Vouch_c (subMem w) (rpK (HS.blkAt (H.ext hx) (k := 0) rfl) (rpL (RdS.ofOwn (H.ext hx) (k := 1) rfl g1))) e12).mono (fun _ _ h => h)) <| t_valG rfl hb7 (fun w hx => r_not (t := (!y12)) rfl rfl) rfl rfl ?_
          refine tp (r_pickt (v := .bool ((!y12))) rfl hb7 rfl) <| tp (r_move (v := .bool ((!y12))) rfl) <| t_skip rfl hb8 rfl ?_
          rw [put_fr]
          refine t_skip rfl hb8 rfl ?_
          rw [put_fr]
          refine t_skip rfl hb8 rfl ?_
          rw [put_fr]
          refine tp (r_pickf (v := .bool (false)) rfl hb8 rfl) <| tp (r_move (v := .bool (false)) rfl) <| tp (r_pickf (v := .bool (false)) rfl rfl rfl) <| tp (r_move (v := .bool (false)) rfl) <| tp (r_pickf (v := .bool (false)) rfl rfl rfl) <| tp (r_move (v := .bool (false)) rfl) <| tp (r_pickf (v := .bool (false)) rfl rfl rfl) <| tp (r_move (v := .bool (false)) rfl) <| tp (r_pickf (v := .bool (false)) rfl rfl rfl) ?_
          refine t_nil (fun w17 hx hF hA => ?_)
          replace H := H.ext hx; clear hx hF hA
          refine asB rfl ?_
          refine wpList_nil ?_; refine on_norm ?_
          refine xn hK12 <| wp_ret ?_
          obtain rfl := osi hF2
          refine e_1 rfl (q_tmp rfl) ?_
          exact ⟨rfl, H.toExt⟩
        ·replace hF2 := cnd_f hF2 hb7
         apply wp_region_ext 40 (kindsF [(1, .inl (.agg ((cl26 y10)).toArray)), (19, .inl (.bool (y11)))]) rfl rfl (by kernel_rfl); intro vs1
         simp only [tkS, tkZ, drS, drZ]
         replace H := H.drew
         refine t_v (fun w hx => h_load (l := (cl26 y1.1)) tg26 (H.ext hx) q8 (k := 3) rfl rfl rfl) <| t_call (l := []) rfl rfl is41 rfl (fun w hx hF => (curve_Base_c (H.ext hx).sub e10).mono (fun _ _ h => h)) <| tp (r_eqR eg26 (by decide) (eqt26 y1.1 y10) rfl rfl) <| tp (r_move (v := .bool (((y1.1 : Qp) == (y10 : Qp)))) rfl) <| t_valG rfl hb3 (fun w hx => r_move q9) rfl rfl ?_
         refine t_valG rfl hb3 (fun w hx => r_eqlI rfl rfl) rfl rfl <| tp (r_pickt (v := .bool ((y1.2 == 0))) rfl hb3 rfl) <| tp (r_move (v := .bool ((y1.2 == 0))) rfl) <| t_valG rfl hb4 (fun w hx => r_move q10) rfl rfl <| t_valG rfl hb4 (fun w hx => r_eqlI rfl rfl) rfl rfl <| tp (r_pickt (v := .bool ((y2.2 == 80))) rfl hb4 rfl) <| tp (r_move (v := .bool ((y2.2 == 80))) rfl) ?_
         refine t_valG rfl hb5 (fun w hx => r_move q11) rfl rfl <| t_valG rfl hb5 (fun w hx => r_eqlI rfl rfl) rfl rfl <| tp (r_pickt (v := .bool ((y4.2 == 80))) rfl hb5 rfl) <| tp (r_move (v := .bool ((y4.2 == 80))) rfl) <| t_valG rfl hb6 (fun w hx => r_move (v := .pointer (some ⟨pb1, 0, none⟩)) q12) rfl rfl <| t_valG rfl hb6 (fun w hx => r_move (v := str (y9.1)) rfl) rfl rfl ?_
         refine t_valG rfl hb6 (fun w hx => r_move (v := str (y9.2)) rfl) rfl rfl <| t_callG rfl hb6 (l := [.pointer (some ⟨pb1, 0, none⟩), str (y9.1), str (([115] : List UInt8)), str (y9.2)]) rfl rfl is21 rfl (fun w hx hF => (sign_Ring_Vouch_c (subMem w) (rpK (HS.blkAt (H.ext hx) (k := 0) rfl) (rpL (RdS.ofOwn (H.ext hx) (k := 1) rfl g1))) e11).mono (fun _ _ h => h)) <| tp (r_pickt (v := .bool (y11)) rfl hb6 rfl) ?_
         refine tp (r_move (v := .bool (y11)) rfl) <| t_skip rfl hb7 rfl ?_
         rw [put_fr]
         refine t_skip rfl hb7 rfl ?_
         rw [put_fr]
         refine t_skip rfl hb7 rfl ?_
         rw [put_fr]
         refine t_skip rfl hb7 rfl ?_
         rw [put_fr]
         refine tp (r_pickf (v := .bool (false)) rfl hb7 rfl) <| tp (r_move (v := .bool (false)) rfl) <| t_skip rfl rfl rfl ?_
         rw [put_fr]
         refine t_skip rfl rfl rfl ?_
         rw [put_fr]
         refine t_skip rfl rfl rfl ?_
         rw [put_fr]
         refine tp (r_pickf (v := .bool (false)) rfl rfl rfl) <| tp (r_move (v := .bool (false)) rfl) <| tp (r_pickf (v := .bool (false)) rfl rfl rfl) <| tp (r_move (v := .bool (false)) rfl) <| tp (r_pickf (v := .bool (false)) rfl rfl rfl) <| tp (r_move (v := .bool (false)) rfl) <| tp (r_pickf (v := .bool (false)) rfl rfl rfl) <| tp (r_move (v := .bool (false)) rfl) <| tp (r_pickf (v := .bool (false)) rfl rfl rfl) ?_
         refine t_nil (fun w18 hx hF hA => ?_)
         replace H := H.ext hx; clear hx hF hA
         refine asB rfl ?_
         refine wpList_nil ?_; refine on_norm ?_
         refine xn hK12 <| wp_ret ?_
         obtain rfl := osi hF2
         refine e_1 rfl (q_tmp rfl) ?_
         exact ⟨rfl, H.toExt⟩
       ·replace hF2 := cnd_f hF2 hb6
        apply wp_region_ext 40 (kindsF [(1, .inl (.agg ((cl26 y10)).toArray))]) rfl rfl (by kernel_rfl); intro vs1
        simp only [tkS, tkZ, drS, drZ]
        replace H := H.drew
        refine t_v (fun w hx => h_load (l := (cl26 y1.1)) tg26 (H.ext hx) q8 (k := 3) rfl rfl rfl) <| t_call (l := []) rfl rfl is41 rfl (fun w hx hF => (curve_Base_c (H.ext hx).sub e10).mono (fun _ _ h => h)) <| tp (r_eqR eg26 (by decide) (eqt26 y1.1 y10) rfl rfl) <| tp (r_move (v := .bool (((y1.1 : Qp) == (y10 : Qp)))) rfl) <| t_valG rfl hb3 (fun w hx => r_move q9) rfl rfl ?_
        refine t_valG rfl hb3 (fun w hx => r_eqlI rfl rfl) rfl rfl <| tp (r_pickt (v := .bool ((y1.2 == 0))) rfl hb3 rfl) <| tp (r_move (v := .bool ((y1.2 == 0))) rfl) <| t_valG rfl hb4 (fun w hx => r_move q10) rfl rfl <| t_valG rfl hb4 (fun w hx => r_eqlI rfl rfl) rfl rfl <| tp (r_pickt (v := .bool ((y2.2 == 80))) rfl hb4 rfl) <| tp (r_move (v := .bool ((y2.2 == 80))) rfl) ?_
        refine t_valG rfl hb5 (fun w hx => r_move q11) rfl rfl <| t_valG rfl hb5 (fun w hx => r_eqlI rfl rfl) rfl rfl <| tp (r_pickt (v := .bool ((y4.2 == 80))) rfl hb5 rfl) <| tp (r_move (v := .bool ((y4.2 == 80))) rfl) <| t_skip rfl hb6 rfl ?_
        rw [put_fr]
        refine t_skip rfl hb6 rfl ?_
        rw [put_fr]
        refine t_skip rfl hb6 rfl ?_
        rw [put_fr]
        refine t_skip rfl hb6 rfl ?_
        rw [put_fr]
        refine tp (r_pickf (v := .bool (false)) rfl hb6 rfl) <| tp (r_move (v := .bool (false)) rfl) <| t_skip rfl rfl rfl ?_
        rw [put_fr]
        refine t_skip rfl rfl rfl ?_
        rw [put_fr]
        refine t_skip rfl rfl rfl ?_
        rw [put_fr]
        refine t_skip rfl rfl rfl ?_
        rw [put_fr]
        refine tp (r_pickf (v := .bool (false)) rfl rfl rfl) <| tp (r_move (v := .bool (false)) rfl) <| t_skip rfl rfl rfl ?_
        rw [put_fr]
        refine t_skip rfl rfl rfl ?_
        rw [put_fr]
        refine t_skip rfl rfl rfl ?_
        rw [put_fr]
        refine tp (r_pickf (v := .bool (false)) rfl rfl rfl) <| tp (r_move (v := .bool (false)) rfl) <| tp (r_pickf (v := .bool (false)) rfl rfl rfl) <| tp (r_move (v := .bool (false)) rfl) <| tp (r_pickf (v := .bool (false)) rfl rfl rfl) <| tp (r_move (v := .bool (false)) rfl) <| tp (r_pickf (v := .bool (false)) rfl rfl rfl) <| tp (r_move (v := .bool (false)) rfl) <| tp (r_pickf (v := .bool (false)) rfl rfl rfl) ?_
        refine t_nil (fun w19 hx hF hA => ?_)
        replace H := H.ext hx; clear hx hF hA
        refine asB rfl ?_
        refine wpList_nil ?_; refine on_norm ?_
        refine xn hK12 <| wp_ret ?_
        obtain rfl := osi hF2
        refine e_1 rfl (q_tmp rfl) ?_
        exact ⟨rfl, H.toExt⟩
      ·replace hF2 := cnd_f hF2 hb5
       apply wp_region_ext 40 (kindsF [(1, .inl (.agg ((cl26 y10)).toArray))]) rfl rfl (by kernel_rfl); intro vs1
       simp only [tkS, tkZ, drS, drZ]
       replace H := H.drew
       refine t_v (fun w hx => h_load (l := (cl26 y1.1)) tg26 (H.ext hx) q8 (k := 3) rfl rfl rfl) <| t_call (l := []) rfl rfl is41 rfl (fun w hx hF => (curve_Base_c (H.ext hx).sub e10).mono (fun _ _ h => h)) <| tp (r_eqR eg26 (by decide) (eqt26 y1.1 y10) rfl rfl) <| tp (r_move (v := .bool (((y1.1 : Qp) == (y10 : Qp)))) rfl) <| t_valG rfl hb3 (fun w hx => r_move q9) rfl rfl ?_
       refine t_valG rfl hb3 (fun w hx => r_eqlI rfl rfl) rfl rfl <| tp (r_pickt (v := .bool ((y1.2 == 0))) rfl hb3 rfl) <| tp (r_move (v := .bool ((y1.2 == 0))) rfl) <| t_valG rfl hb4 (fun w hx => r_move q10) rfl rfl <| t_valG rfl hb4 (fun w hx => r_eqlI rfl rfl) rfl rfl <| tp (r_pickt (v := .bool ((y2.2 == 80))) rfl hb4 rfl) <| tp (r_move (v := .bool ((y2.2 == 80))) rfl) <| t_skip rfl hb5 rfl ?_
       rw [put_fr]
       refine t_skip rfl hb5 rfl ?_
       rw [put_fr]
       refine tp (r_pickf (v := .bool (false)) rfl hb5 rfl) <| tp (r_move (v := .bool (false)) rfl) <| t_skip rfl rfl rfl ?_
       rw [put_fr]
       refine t_skip rfl rfl rfl ?_
       rw [put_fr]
       refine t_skip rfl rfl rfl ?_
       rw [put_fr]
       refine t_skip rfl rfl rfl ?_
       rw [put_fr]
       refine tp (r_pickf (v := .bool (false)) rfl rfl rfl) <| tp (r_move (v := .bool (false)) rfl) <| t_skip rfl rfl rfl ?_
       rw [put_fr]
       refine t_skip rfl rfl rfl ?_
       rw [put_fr]
       refine t_skip rfl rfl rfl ?_
       rw [put_fr]
       refine t_skip rfl rfl rfl ?_
       rw [put_fr]
       refine tp (r_pickf (v := .bool (false)) rfl rfl rfl) <| tp (r_move (v := .bool (false)) rfl) <| t_skip rfl rfl rfl ?_
       rw [put_fr]
       refine t_skip rfl rfl rfl ?_
       rw [put_fr]
       refine t_skip rfl rfl rfl ?_
       rw [put_fr]
       refine tp (r_pickf (v := .bool (false)) rfl rfl rfl) <| tp (r_move (v := .bool (false)) rfl) <| tp (r_pickf (v := .bool (false)) rfl rfl rfl) <| tp (r_move (v := .bool (false)) rfl) <| tp (r_pickf (v := .bool (false)) rfl rfl rfl) <| tp (r_move (v := .bool (false)) rfl) <| tp (r_pickf (v := .bool (false)) rfl rfl rfl) <| tp (r_move (v := .bool (false)) rfl) <| tp (r_pickf (v := .bool (false)) rfl rfl rfl) ?_
       refine t_nil (fun w20 hx hF hA => ?_)
       replace H := H.ext hx; clear hx hF hA
       refine asB rfl ?_
       refine wpList_nil ?_; refine on_norm ?_
       refine xn hK12 <| wp_ret ?_
       obtain rfl := osi hF2
       refine e_1 rfl (q_tmp rfl) ?_
       exact ⟨rfl, H.toExt⟩
     ·replace hF2 := cnd_f hF2 hb4
      apply wp_region_ext 40 (kindsF [(1, .inl (.agg ((cl26 y10)).toArray))]) rfl rfl (by kernel_rfl); intro vs1
      simp only [tkS, tkZ, drS, drZ]
      replace H := H.drew
      refine t_v (fun w hx => h_load (l := (cl26 y1.1)) tg26 (H.ext hx) q8 (k := 3) rfl rfl rfl) <| t_call (l := []) rfl rfl is41 rfl (fun w hx hF => (curve_Base_c (H.ext hx).sub e10).mono (fun _ _ h => h)) <| tp (r_eqR eg26 (by decide) (eqt26 y1.1 y10) rfl rfl) <| tp (r_move (v := .bool (((y1.1 : Qp) == (y10 : Qp)))) rfl) <| t_valG rfl hb3 (fun w hx => r_move q9) rfl rfl ?_
      refine t_valG rfl hb3 (fun w hx => r_eqlI rfl rfl) rfl rfl <| tp (r_pickt (v := .bool ((y1.2 == 0))) rfl hb3 rfl) <| tp (r_move (v := .bool ((y1.2 == 0))) rfl) <| t_skip rfl hb4 rfl ?_
      rw [put_fr]
      refine t_skip rfl hb4 rfl ?_
      rw [put_fr]
      refine tp (r_pickf (v := .bool (false)) rfl hb4 rfl) <| tp (r_move (v := .bool (false)) rfl) <| t_skip rfl rfl rfl ?_
      rw [put_fr]
      refine t_skip rfl rfl rfl ?_
      rw [put_fr]
      refine tp (r_pickf (v := .bool (false)) rfl rfl rfl) <| tp (r_move (v := .bool (false)) rfl) <| t_skip rfl rfl rfl ?_
      rw [put_fr]
      refine t_skip rfl rfl rfl ?_
      rw [put_fr]
      refine t_skip rfl rfl rfl ?_
      rw [put_fr]
      refine t_skip rfl rfl rfl ?_
      rw [put_fr]
      refine tp (r_pickf (v := .bool (false)) rfl rfl rfl) <| tp (r_move (v := .bool (false)) rfl) <| t_skip rfl rfl rfl ?_
      rw [put_fr]
      refine t_skip rfl rfl rfl ?_
      rw [put_fr]
      refine t_skip rfl rfl rfl ?_
      rw [put_fr]
      refine t_skip rfl rfl rfl ?_
      rw [put_fr]
      refine tp (r_pickf (v := .bool (false)) rfl rfl rfl) <| tp (r_move (v := .bool (false)) rfl) <| t_skip rfl rfl rfl ?_
      rw [put_fr]
      refine t_skip rfl rfl rfl ?_
      rw [put_fr]
      refine t_skip rfl rfl rfl ?_
      rw [put_fr]
      refine tp (r_pickf (v := .bool (false)) rfl rfl rfl) <| tp (r_move (v := .bool (false)) rfl) <| tp (r_pickf (v := .bool (false)) rfl rfl rfl) <| tp (r_move (v := .bool (false)) rfl) <| tp (r_pickf (v := .bool (false)) rfl rfl rfl) <| tp (r_move (v := .bool (false)) rfl) <| tp (r_pickf (v := .bool (false)) rfl rfl rfl) <| tp (r_move (v := .bool (false)) rfl) <| tp (r_pickf (v := .bool (false)) rfl rfl rfl) ?_
      refine t_nil (fun w21 hx hF hA => ?_)
      replace H := H.ext hx; clear hx hF hA
      refine asB rfl ?_
      refine wpList_nil ?_; refine on_norm ?_
      refine xn hK12 <| wp_ret ?_
      obtain rfl := osi hF2
      refine e_1 rfl (q_tmp rfl) ?_
      exact ⟨rfl, H.toExt⟩
    ·replace hF2 := cnd_f hF2 hb3
     apply wp_region_ext 40 (kindsF [(1, .inl (.agg ((cl26 y10)).toArray))]) rfl rfl (by kernel_rfl); intro vs1
     simp only [tkS, tkZ, drS, drZ]
     replace H := H.drew
     refine t_v (fun w hx => h_load (l := (cl26 y1.1)) tg26 (H.ext hx) q8 (k := 3) rfl rfl rfl) <| t_call (l := []) rfl rfl is41 rfl (fun w hx hF => (curve_Base_c (H.ext hx).sub e10).mono (fun _ _ h => h)) <| tp (r_eqR eg26 (by decide) (eqt26 y1.1 y10) rfl rfl) <| tp (r_move (v := .bool (((y1.1 : Qp) == (y10 : Qp)))) rfl) <| t_skip rfl hb3 rfl ?_
     rw [put_fr]
     refine t_skip rfl hb3 rfl ?_
     rw [put_fr]
     refine tp (r_pickf (v := .bool (false)) rfl hb3 rfl) <| tp (r_move (v := .bool (false)) rfl) <| t_skip rfl rfl rfl ?_
     rw [put_fr]
     refine t_skip rfl rfl rfl ?_
     rw [put_fr]
     refine tp (r_pickf (v := .bool (false)) rfl rfl rfl) <| tp (r_move (v := .bool (false)) rfl) <| t_skip rfl rfl rfl ?_
     rw [put_fr]
     refine t_skip rfl rfl rfl ?_
     rw [put_fr]
     refine tp (r_pickf (v := .bool (false)) rfl rfl rfl) <| tp (r_move (v := .bool (false)) rfl) <| t_skip rfl rfl rfl ?_
     rw [put_fr]
     refine t_skip rfl rfl rfl ?_
     rw [put_fr]
     refine t_skip rfl rfl rfl ?_
     rw [put_fr]
     refine t_skip rfl rfl rfl ?_
     rw [put_fr]
     refine tp (r_pickf (v := .bool (false)) rfl rfl rfl) <| tp (r_move (v := .bool (false)) rfl) <| t_skip rfl rfl rfl ?_
     rw [put_fr]
     refine t_skip rfl rfl rfl ?_
     rw [put_fr]
     refine t_skip rfl rfl rfl ?_
     rw [put_fr]
     refine t_skip rfl rfl rfl ?_
     rw [put_fr]
     refine tp (r_pickf (v := .bool (false)) rfl rfl rfl) <| tp (r_move (v := .bool (false)) rfl) <| t_skip rfl rfl rfl ?_
     rw [put_fr]
     refine t_skip rfl rfl rfl ?_
     rw [put_fr]
     refine t_skip rfl rfl rfl ?_
     rw [put_fr]
     refine tp (r_pickf (v := .bool (false)) rfl rfl rfl) <| tp (r_move (v := .bool (false)) rfl) <| tp (r_pickf (v := .bool (false)) rfl rfl rfl) <| tp (r_move (v := .bool (false)) rfl) <| tp (r_pickf (v := .bool (false)) rfl rfl rfl) <| tp (r_move (v := .bool (false)) rfl) <| tp (r_pickf (v := .bool (false)) rfl rfl rfl) <| tp (r_move (v := .bool (false)) rfl) <| tp (r_pickf (v := .bool (false)) rfl rfl rfl) ?_
     refine t_nil (fun w22 hx hF hA => ?_)
     replace H := H.ext hx; clear hx hF hA
     refine asB rfl ?_
     refine wpList_nil ?_; refine on_norm ?_
     refine xn hK12 <| wp_ret ?_
     obtain rfl := osi hF2
     refine e_1 rfl (q_tmp rfl) ?_
     exact ⟨rfl, H.toExt⟩
  refine p_gs (j := 12) (gvl_at rfl rfl (k3 38)) (fun hb2 => ?_) (fun hb2 => ?_)
  ·replace hE2 := cnd_t hE2 hb2
   refine p_skip (gvl_at rfl rfl (k3 38)) hb2 ?_
   rw [put_fr]
   refine p_skip (gvl_at rfl rfl (k3 38)) hb2 ?_
   rw [put_fr]
   refine p_skip (gvl_at rfl rfl (k3 38)) hb2 ?_
   rw [put_fr]
   refine p_skip (gvl_at rfl rfl (k3 38)) hb2 ?_
   rw [put_fr]
   refine p_val (r_pickt (v := .bool (true)) (k3 38) hb2 rfl) <| hR8 _ _ ?_
   replace H := hsn H
   obtain rfl := osi hE2
   exact J1 _ _ kcx rfl H
  ·replace hE2 := cnd_f hE2 hb2
   refine p_want (gvl_at rfl rfl (k3 38)) hb2 <| p_mv (v := .pointer (some ⟨pb1, 0, none⟩)) ((k3 7).trans q6) <| p_want (gvl_at rfl rfl (k3 38)) hb2 <| bn hE2 fun y8 e8 hE2 => p_call (l := [.pointer (some ⟨pb1, 0, none⟩)]) is26 rfl <| (sign_Ring_Kids_c (HS.start (subMem w12)) (rpK (HS.blkAt H (k := 0) rfl) (rpL (RdS.ofOwn H (k := 1) rfl g1))) e8).mono ?_; rintro _ w13 ⟨S5, pv4, pcs4, prs4, rfl, H2, pg4⟩
   have H1 := H.joinNew H2; clear H H2; have H := H1; clear H1
   replace pg4 := RL.strs (T := S4) pg4
   replace H := hsn H
   refine p_want (gvl_at rfl rfl (k3 38)) hb2 <| p_val (r_lenO u40 rfl H (k := 0) rfl rfl) <| p_want (gvl_at rfl rfl (k3 38)) hb2 <| p_val (r_neqI rfl rfl) <| p_val (r_pickf (v := .bool ((((y8).length : Int) != 2))) (k3 38) hb2 rfl) <| hR8 _ _ ?_
   replace H := H.sel [1, 2, 3, 4] rfl
   replace H := hsn H
   obtain rfl := osi hE2
   exact J1 _ _ kcx rfl H
 refine p_gs (j := 7) (gvl_at rfl rfl (k1 33)) (fun hb1 => ?_) (fun hb1 => ?_)
 ·replace hE1 := cnd_t hE1 hb1
  refine p_skip (gvl_at rfl rfl (k1 33)) hb1 ?_
  rw [put_fr]
  refine p_skip (gvl_at rfl rfl (k1 33)) hb1 ?_
  rw [put_fr]
  refine p_skip (gvl_at rfl rfl (k1 33)) hb1 ?_
  rw [put_fr]
  refine p_val (r_pickt (v := .bool (true)) (k1 33) hb1 rfl) <| hR6 _ _ ?_
  replace H := hsn H
  obtain rfl := osi hE1
  exact J2 _ _ _ _ _ _ kcx rfl (Mem.le_refl _) H pg2
 ·replace hE1 := cnd_f hE1 hb1
  refine p_want (gvl_at rfl rfl (k1 33)) hb1 <| p_mv (v := .pointer (some ⟨pb1, 0, none⟩)) (k1 7) <| p_want (gvl_at rfl rfl (k1 33)) hb1 <| bn hE1 fun y7 e7 hE1 => p_call (l := [.pointer (some ⟨pb1, 0, none⟩), str (([98] : List UInt8))]) is17 rfl <| (sign_Ring_Turn_c (H.hand [0, 1] rfl) pg2 e7).mono ?_; rintro _ w11 ⟨S3, pv3, pcs3, prs3, rfl, H2, pg3⟩
  obtain ⟨H1, hle3⟩ := H.frame [0, 1] [2, 3] rfl H2; clear H H2; have H := H1; clear H1
  replace H := hsn H
  refine p_want (gvl_at rfl rfl (k1 33)) hb1 <| p_val (r_neqI rfl rfl) <| p_val (r_pickf (v := .bool ((y7.1 != 0))) (k1 33) hb1 rfl) <| hR6 _ _ ?_
  replace H := hsn H
  obtain rfl := osi hE1
  exact J2 _ _ _ _ _ _ kcx rfl hle3 H pg3
noncomputable def l8_SignVerifies_p (x0 : Qp) (x1 : List UInt8) (x2 : List UInt8) : Option (Bool) :=
  Option.bind (l8_fixed_p) fun y1 => bif y1 then (Option.bind (sign_Verify_p x0 x1 x2) fun y2 => Option.bind (r8_Verify_p x0 x1 x2) fun y3 => some ((y2 == y3))) else (some (false))
theorem l8_SignVerifies_c {S : Mem} {w : World} (hS : Sub S w) {x0 : Qp} {x1 : List UInt8} {x2 : List UInt8} {r : Bool} (hF : l8_SignVerifies_p x0 x1 x2 = some r) :
    Calls Tryz.prog 5 #[.agg ((cl26 x0)).toArray, str (x1), str (x2)] w fun e w' => e = .returned (.bool (r)) ∧ Ext w w' := by
 refine enter (n := 19) Tryz.func5 rfl rfl rfl ?_
 have H := HS.start hS
 unfold l8_SignVerifies_p at hF
 refine sr fun K1 hK1 => p_ofb (a_box (l := (cl26 x0)) H rfl) fun w1 b1 H => asB rfl <| xk hK1 <| wp_seq_k fun K2 hK2 => bn hF fun y1 e1 hF => ?_
 rcases Bool.eq_false_or_eq_true (y1) with hb1 | hb1
 ·replace hF := cnd_t hF hb1
  refine bn hF fun y2 e2 hF => bn hF fun y3 e3 hF => ?_
  apply wp_region_ext 12 (kindsF [(0, .inl (.bool (y1))), (5, .inl (.bool (y2))), (9, .inl (.bool (y3)))]) rfl rfl (by kernel_rfl); intro vs1
  simp only [tkS, tkZ, drS, drZ]
  replace H := H.drew
  refine t_call (l := []) rfl rfl is11 rfl (fun w hx hF => (l8_fixed_c (H.ext hx).sub e1).mono (fun _ _ h => h)) <| tp (r_move (v := .bool (y1)) rfl) <| t_valG rfl hb1 (fun w hx => h_load (l := (cl26 x0)) tg26 (H.ext hx) rfl (k := 0) rfl rfl rfl) rfl rfl <| t_valG rfl hb1 (fun w hx => r_move (v := str (x1)) rfl) rfl rfl <| t_valG rfl hb1 (fun w hx => r_move (v := str (x2)) rfl) rfl rfl ?_
  refine t_callG rfl hb1 (l := [.agg ((cl26 x0)).toArray, str (x1), str (x2)]) rfl rfl is14 rfl (fun w hx hF => (sign_Verify_c (H.ext hx).sub e2).mono (fun _ _ h => h)) <| t_valG rfl hb1 (fun w hx => h_load (l := (cl26 x0)) tg26 (H.ext hx) rfl (k := 0) rfl rfl rfl) rfl rfl <| t_valG rfl hb1 (fun w hx => r_move (v := str (x1)) rfl) rfl rfl <| t_valG rfl hb1 (fun w hx => r_move (v := str (x2)) rfl) rfl rfl ?_
  refine t_callG rfl hb1 (l := [.agg ((cl26 x0)).toArray, str (x1), str (x2)]) rfl rfl is15 rfl (fun w hx hF => (r8_Verify_c (H.ext hx).sub e3).mono (fun _ _ h => h)) <| t_valG rfl hb1 (fun w hx => r_eqB (t := (y2 == y3)) u4 rfl rfl rfl) rfl rfl <| tp (r_pickt (v := .bool ((y2 == y3))) rfl hb1 rfl) ?_
  refine t_nil (fun w2 hx hF hA => ?_)
  replace H := H.ext hx; clear hx hF hA
  refine asB rfl ?_
  refine wpList_nil ?_; refine on_norm ?_
  refine xn hK2 <| wp_ret ?_
  obtain rfl := osi hF
  refine e_1 rfl (q_tmp rfl) ?_
  exact ⟨rfl, H.toExt⟩
 ·replace hF := cnd_f hF hb1
  apply wp_region_ext 12 (kindsF [(0, .inl (.bool (y1)))]) rfl rfl (by kernel_rfl); intro vs1
  simp only [tkS, tkZ, drS, drZ]
  replace H := H.drew
  refine t_call (l := []) rfl rfl is11 rfl (fun w hx hF => (l8_fixed_c (H.ext hx).sub e1).mono (fun _ _ h => h)) <| tp (r_move (v := .bool (y1)) rfl) <| t_skip rfl hb1 rfl ?_
  rw [put_fr]
  refine t_skip rfl hb1 rfl ?_
  rw [put_fr]
  refine t_skip rfl hb1 rfl ?_
  rw [put_fr]
  refine t_skip rfl hb1 rfl ?_
  rw [put_fr]
  refine t_skip rfl hb1 rfl ?_
  rw [put_fr]
  refine t_skip rfl hb1 rfl ?_
  rw [put_fr]
  refine t_skip rfl hb1 rfl ?_
  rw [put_fr]
  refine t_skip rfl hb1 rfl ?_
  rw [put_fr]
  refine t_skip rfl hb1 rfl ?_
  rw [put_fr]
  refine tp (r_pickf (v := .bool (false)) rfl hb1 rfl) ?_
  refine t_nil (fun w3 hx hF hA => ?_)
  replace H := H.ext hx; clear hx hF hA
  refine asB rfl ?_
  refine wpList_nil ?_; refine on_norm ?_
  refine xn hK2 <| wp_ret ?_
  obtain rfl := osi hF
  refine e_1 rfl (q_tmp rfl) ?_
  exact ⟨rfl, H.toExt⟩
end Go.Proofs.YtmbcolbbekbccaaGreat
namespace Go.Proofs.YtmbcolbbekbccaaGreat
open Go Go.RowKit
section
variable {α : Type} {n : Nat}
def vset (x : Vec α n) (i : Nat) (u : α) : Vec α n := ⟨x.l.set i u, by simp [x.h]⟩
def gv (x : Vec UInt32 64) (i : Nat) : UInt32 := x.l.getD i 0
theorem setV_ok {x : Vec α n} {i : Nat} {j : Int} {u : α} (hj : j = (i : Int)) (h : i < n) : setV x j u = some (vset x i u) := by
 subst hj
 unfold setV
 rw [show (decide (0 ≤ (i : Int)) && decide ((i : Int) < (n : Int))) = true by simp; exact h]
 exact congrArg some (Vec.eq (by rw [vset]; simp))
theorem idxV_ok {x : Vec UInt32 64} {i : Nat} {j : Int} (hj : j = (i : Int)) (h : i < 64) : idx x.l j = some (gv x i) := by
 have h' : i < x.l.length := by rw [x.h]; exact h
 rw [idx_ok hj h', gv, List.getD_eq_getElem?_getD, List.getElem?_eq_getElem h']; rfl
theorem w64n {n : Nat} (h : n < 9223372036854775808) : w64 (n : Int) = (n : Int) := w64_of (by omega) (by omega)
theorem w64s (n : Nat) (h : n < 9223372036854775807) : w64 ((n : Int) + 1) = ((n + 1 : Nat) : Int) := w64_of (by omega) (by omega)
def rr (x : UInt32) (n : Nat) : UInt32 := i32 (shlI .u32 (x.toNat : Int) ((32 - n : Nat) : Int)) ||| i32 (shrI .u32 (x.toNat : Int) (n : Int))
theorem ror_ok (x : UInt32) (n : Nat) {m : Int} (h1 : ((((i64 (w64 (0 - m))) &&& (31 : UInt64))).toNat : Int) = ((32 - n : Nat) : Int)) (h2 : (((i64 ((32 : Int) - ((32 - n : Nat) : Int)))).toNat : Int) = (n : Int)) : hash_state_next_1_p x m = some (rr x n) := by
 unfold hash_state_next_1_p math_bits_RotateLeft32_p
 simp only [some_bind]
 rw [h1, h2]; rfl
def valF (l : List UInt8) : UInt64 := l.foldl (fun s b => (i64 (shlI .u64 (s.toNat : Int) 8)) ||| (i64 (b.toNat : Int))) 0
theorem value_ok {l : List UInt8} (h : l.length < 1000000) : hash_value_p l = some (valF l) := by
 have key : iter (hash_value_b0 l) ((0 : UInt64), 0) = some (valF l) := by
  refine iter_run (fun k => (valF (l.take k), (k : Int))) l.length (by omega) _ (fun k hk => ?_) ?_
  ·unfold hash_value_b0
   rw [dec_t (by omega), idx_ok rfl hk]
   simp only [some_bind]
   rw [w64s k (by omega), take_succ hk]
   simp only [valF, List.foldl_append, List.foldl_cons, List.foldl_nil]
  ·unfold hash_value_b0
   rw [dec_f (by omega), List.take_length]
 unfold hash_value_p
 rw [key]; rfl
end
abbrev St8 : Type := Qs
def W1 (blk : List UInt8) : Nat → Vec UInt32 64
 | 0 => vrep 64 0
 | k + 1 => vset (W1 blk k) k (i32 (((valF ((blk.take (4 * k + 4)).drop (4 * k))).toNat : Int)))
def extW (a b c d : UInt32) : UInt32 := i32 ((((i32 ((((i32 (((c).toNat : Int) + ((((rr a 7 ^^^ rr a 18) ^^^ (i32 (shrI .u32 ((a).toNat : Int) 3)))).toNat : Int)))).toNat : Int) + ((d).toNat : Int)))).toNat : Int) + ((((rr b 17 ^^^ rr b 19) ^^^ (i32 (shrI .u32 ((b).toNat : Int) 10)))).toNat : Int))
def W2 (w : Vec UInt32 64) : Nat → Vec UInt32 64
 | 0 => w
 | k + 1 => vset (W2 w k) (16 + k) (extW (gv (W2 w k) (k + 1)) (gv (W2 w k) (k + 14)) (gv (W2 w k) k) (gv (W2 w k) (k + 9)))
def t1F (s : St8) (K w : UInt32) : UInt32 := i32 ((((i32 ((((i32 ((((i32 (((s.2.2.2.2.2.2.2).toNat : Int) + ((((rr s.2.2.2.2.1 6 ^^^ rr s.2.2.2.2.1 11) ^^^ rr s.2.2.2.2.1 25)).toNat : Int)))).toNat : Int) + ((((s.2.2.2.2.1 &&& s.2.2.2.2.2.1) ^^^ (((4294967295 : UInt32) ^^^ s.2.2.2.2.1) &&& s.2.2.2.2.2.2.1))).toNat : Int)))).toNat : Int) + ((K).toNat : Int)))).toNat : Int) + ((w).toNat : Int))
def t2F (s : St8) : UInt32 := i32 (((((rr s.1 2 ^^^ rr s.1 13) ^^^ rr s.1 22)).toNat : Int) + (((((s.1 &&& s.2.1) ^^^ (s.1 &&& s.2.2.1)) ^^^ (s.2.1 &&& s.2.2.1))).toNat : Int))
def rnd (K w : UInt32) (s : St8) : St8 := (i32 (((t1F s K w).toNat : Int) + ((t2F s).toNat : Int)), s.1, s.2.1, s.2.2.1, i32 (((s.2.2.2.1).toNat : Int) + ((t1F s K w).toNat : Int)), s.2.2.2.2.1, s.2.2.2.2.2.1, s.2.2.2.2.2.2.1)
def R3 (K w : Vec UInt32 64) (s : St8) : Nat → St8
 | 0 => s
 | k + 1 => rnd (gv K k) (gv w k) (R3 K w s k)
def ad8 (a b : UInt32) : UInt32 := i32 (((a).toNat : Int) + ((b).toNat : Int))
def add8 (v s : St8) : St8 := (ad8 v.1 s.1, ad8 v.2.1 s.2.1, ad8 v.2.2.1 s.2.2.1, ad8 v.2.2.2.1 s.2.2.2.1, ad8 v.2.2.2.2.1 s.2.2.2.2.1, ad8 v.2.2.2.2.2.1 s.2.2.2.2.2.1, ad8 v.2.2.2.2.2.2.1 s.2.2.2.2.2.2.1, ad8 v.2.2.2.2.2.2.2 s.2.2.2.2.2.2.2)
def nextF (s : St8) (blk : List UInt8) (K : Vec UInt32 64) : St8 := add8 (R3 K (W2 (W1 blk 16) 48) s 64) s
theorem l0_ok {blk : List UInt8} (h : blk.length = 64) : iter (hash_state_next_b0 blk) (0, vrep 64 (0 : UInt32)) = some (W1 blk 16) := by
 refine iter_run (fun k => ((k : Int), W1 blk k)) 16 (by decide) _ (fun k hk => ?_) ?_
 ·unfold hash_state_next_b0
  have e1 : w64 ((4 : Int) * (k : Int)) = ((4 * k : Nat) : Int) := w64_of (by omega) (by omega)
  have e2 : w64 (((4 * k : Nat) : Int) + 4) = ((4 * k + 4 : Nat) : Int) := w64_of (by omega) (by omega)
  rw [dec_t (by omega)]
  simp only [e1, e2]
  rw [sub3_ok (by omega) (by omega), some_bind, value_ok (by simp; omega), some_bind, idxV_ok rfl (by omega), some_bind, setV_ok rfl (by omega), some_bind, w64s k (by omega)]
  rfl
 ·unfold hash_state_next_b0
  rw [dec_f (by omega)]
theorem l1_ok (w : Vec UInt32 64) : iter hash_state_next_b1 (16, w) = some (W2 w 48) := by
 refine iter_run (fun k => (((16 + k : Nat) : Int), W2 w k)) 48 (by decide) _ (fun k hk => ?_) ?_
 ·unfold hash_state_next_b1
  have e : ∀ (a : Int) (b : Nat), a = (b : Int) → b < 64 → w64 a = (b : Int) := fun a b e h => by rw [e]; exact w64n (by omega)
  rw [dec_t (by omega)]
  simp only [e (((16 + k : Nat) : Int) - 15) (k + 1) (by omega) (by omega), e (((16 + k : Nat) : Int) - 2) (k + 14) (by omega) (by omega), e (((16 + k : Nat) : Int) - 16) k (by omega) (by omega), e (((16 + k : Nat) : Int) - 7) (k + 9) (by omega) (by omega)]
  simp only [idxV_ok (x := W2 w k) (i := k + 1) rfl (by omega), idxV_ok (x := W2 w k) (i := k + 14) rfl (by omega), idxV_ok (x := W2 w k) (i := k) rfl (by omega), idxV_ok (x := W2 w k) (i := k + 9) rfl (by omega), idxV_ok (x := W2 w k) (i := 16 + k) rfl (by omega), some_bind, ror_ok _ 7 (m := 7) (by decide) (by decide), ror_ok _ 18 (m := 18) (by decide) (by decide), ror_ok _ 17 (m := 17) (by decide) (by decide), ror_ok _ 19 (m := 19) (by decide) (by decide), setV_ok (x := W2 w k) (i := 16 + k) rfl (by omega)]
  rw [w64s (16 + k) (by omega)]
  rfl
 ·unfold hash_state_next_b1
  rw [dec_f (by omega)]
theorem l2_ok (K w : Vec UInt32 64) (s : St8) : iter (hash_state_next_b2 K w) (0, s) = some (R3 K w s 64) := by
 refine iter_run (fun k => ((k : Int), R3 K w s k)) 64 (by decide) _ (fun k hk => ?_) ?_
 ·unfold hash_state_next_b2
  rw [dec_t (by omega)]
  simp only [idxV_ok (x := K) (i := k) rfl hk, idxV_ok (x := w) (i := k) rfl hk, some_bind, ror_ok _ 6 (m := 6) (by decide) (by decide), ror_ok _ 11 (m := 11) (by decide) (by decide), ror_ok _ 25 (m := 25) (by decide) (by decide), ror_ok _ 2 (m := 2) (by decide) (by decide), ror_ok _ 13 (m := 13) (by decide) (by decide), ror_ok _ 22 (m := 22) (by decide) (by decide)]
  rw [w64s k (by omega)]
  rfl
 ·unfold hash_state_next_b2
  rw [dec_f (by omega)]
def pt8 (v s : St8) (k : Nat) : St8 := (if 0 < k then ad8 v.1 s.1 else v.1, if 1 < k then ad8 v.2.1 s.2.1 else v.2.1, if 2 < k then ad8 v.2.2.1 s.2.2.1 else v.2.2.1, if 3 < k then ad8 v.2.2.2.1 s.2.2.2.1 else v.2.2.2.1, if 4 < k then ad8 v.2.2.2.2.1 s.2.2.2.2.1 else v.2.2.2.2.1, if 5 < k then ad8 v.2.2.2.2.2.1 s.2.2.2.2.2.1 else v.2.2.2.2.2.1, if 6 < k then ad8 v.2.2.2.2.2.2.1 s.2.2.2.2.2.2.1 else v.2.2.2.2.2.2.1, if 7 < k then ad8 v.2.2.2.2.2.2.2 s.2.2.2.2.2.2.2 else v.2.2.2.2.2.2.2)
theorem l3_ok (s v : St8) : iter (hash_state_next_b3 s) (0, v) = some (add8 v s) := by
 refine iter_run (fun k => ((k : Int), pt8 v s k)) 8 (by decide) _ (fun k hk => ?_) ?_
 ·rcases (by omega : k = 0 ∨ k = 1 ∨ k = 2 ∨ k = 3 ∨ k = 4 ∨ k = 5 ∨ k = 6 ∨ k = 7) with rfl | rfl | rfl | rfl | rfl | rfl | rfl | rfl <;> rfl
 ·rfl
theorem next_ok (s : St8) {blk : List UInt8} (K : Vec UInt32 64) (h : blk.length = 64) : hash_state_next_p s blk K = some (nextF s blk K, K) := by
 unfold hash_state_next_p
 rw [l0_ok h, some_bind, some_bind, l1_ok, some_bind, some_bind]
 rw [show (0, s.1, s.2.1, s.2.2.1, s.2.2.2.1, s.2.2.2.2.1, s.2.2.2.2.2.1, s.2.2.2.2.2.2.1, s.2.2.2.2.2.2.2) = ((0 : Int), s) from rfl, l2_ok, some_bind, some_bind]
 rw [show ∀ t : St8, (0, t.1, t.2.1, t.2.2.1, t.2.2.2.1, t.2.2.2.2.1, t.2.2.2.2.2.1, t.2.2.2.2.2.2.1, t.2.2.2.2.2.2.2) = ((0 : Int), t) from fun _ => rfl, l3_ok, some_bind, some_bind]
 rfl
def byF (x : UInt64) (i : Nat) : UInt8 := i8 (((i64 (shrI .u64 ((x).toNat : Int) ((8 * i : Nat) : Int)))).toNat : Int)
def beF (x : UInt64) : Nat → List UInt8
 | 0 => []
 | i + 1 => byF x i :: beF x i
theorem beF_len (x : UInt64) : ∀ n, (beF x n).length = n
 | 0 => rfl
 | n + 1 => by rw [beF, List.length_cons, beF_len x n]
theorem beF_take (x : UInt64) (n : Nat) : ∀ k, k < n → (beF x n).take (k + 1) = (beF x n).take k ++ [byF x (n - 1 - k)] := by
 have get : ∀ n k (h : k < (beF x n).length), (beF x n)[k] = byF x (n - 1 - k) := by
  intro n
  induction n with
  | zero => intro k h; simp [beF] at h
  | succ n ih =>
   intro k h
   cases k with
   | zero => simp [beF]
   | succ k =>
    simp only [beF, List.getElem_cons_succ]
    rw [ih k (by simpa [beF] using h)]
    congr 1; omega
 intro k hk
 have h : k < (beF x n).length := by rw [beF_len]; exact hk
 rw [take_succ h, get n k h]
theorem big_ok {l : List UInt8} {x : UInt64} {n : Nat} (hn : n ≤ 8) (h : l.length ≤ 68719476000) : hash_big_p l x (n : Int) = some (l ++ beF x n) := by
 have e0 : w64 ((n : Int) - 1) = (n : Int) - 1 := w64_of (by omega) (by omega)
 have key : iter (hash_big_b0 x) ((n : Int) - 1, l) = some (l ++ beF x n) := by
  have := iter_run (body := hash_big_b0 x) (fun k => ((n : Int) - 1 - (k : Int), l ++ (beF x n).take k)) n (by omega) (l ++ beF x n) (fun k hk => by
   unfold hash_big_b0
   have e1 : (n : Int) - 1 - (k : Int) = ((n - 1 - k : Nat) : Int) := by omega
   rw [dec_t (by omega)]
   simp only [e1]
   have e2 : w64 ((8 : Int) * ((n - 1 - k : Nat) : Int)) = ((8 * (n - 1 - k) : Nat) : Int) := w64_of (by omega) (by omega)
   have e3 : w64 (((n - 1 - k : Nat) : Int) - 1) = (n : Int) - 1 - ((k + 1 : Nat) : Int) := by rw [w64_of (by omega) (by omega)]; omega
   rw [e2, chk_ok (decide_eq_true (by omega)), some_bind, app_ok (by simp [List.length_take, beF_len]; omega), some_bind, e3, beF_take x n k hk]
   simp only [List.append_assoc]
   rfl) (by
   unfold hash_big_b0
   rw [dec_f (by omega), List.take_of_length_le (by rw [beF_len]; exact Nat.le_refl _)])
  simpa using this
 unfold hash_big_p
 rw [e0, key]; rfl
def bodyF (l : List UInt8) : List UInt8 := (l ++ [128]) ++ List.replicate ((119 - l.length % 64) % 64) 0
def msgF (l : List UInt8) : List UInt8 := bodyF l ++ beF (i64 ((8 : Int) * (((i64 ((l.length : Int)))).toNat : Int))) 8
theorem bodyF_len (l : List UInt8) : (bodyF l).length % 64 = 56 := by simp only [bodyF, List.length_append, List.length_replicate, List.length_cons, List.length_nil]; omega
theorem bodyF_le (l : List UInt8) : (bodyF l).length ≤ l.length + 64 := by simp only [bodyF, List.length_append, List.length_replicate, List.length_cons, List.length_nil]; omega
theorem msgF_len (l : List UInt8) : (msgF l).length % 64 = 0 := by have := bodyF_len l; simp only [msgF, List.length_append, beF_len]; omega
theorem msgF_le (l : List UInt8) : (msgF l).length ≤ l.length + 72 := by have := bodyF_le l; simp only [msgF, List.length_append, beF_len]; omega
theorem tmod64 (n : Nat) : Int.tmod (n : Int) 64 = ((n % 64 : Nat) : Int) := (Int.ofNat_tmod n 64).symm
theorem pad_ok {l : List UInt8} (h : l.length ≤ 68719470000) : iter hash_Sum_b0 (l ++ [128]) = some (bodyF l) := by
 have := iter_run (body := hash_Sum_b0) (fun k => (l ++ [128]) ++ List.replicate k (0 : UInt8)) ((119 - l.length % 64) % 64) (by omega) (bodyF l) (fun k hk => by
  unfold hash_Sum_b0
  have hl : ((l ++ [128]) ++ List.replicate k (0 : UInt8)).length = l.length + 1 + k := by simp; omega
  rw [hl, cond_t (by rw [tmod64]; simp only [bne_iff_ne, ne_eq]; omega), app_ok (by rw [hl, List.length_cons, List.length_nil]; omega), some_bind, List.append_assoc, ← List.replicate_succ']) (by
  unfold hash_Sum_b0
  rw [show (l ++ [128]) ++ List.replicate ((119 - l.length % 64) % 64) (0 : UInt8) = bodyF l from rfl]
  have := bodyF_len l
  rw [cond_f (by rw [tmod64, this]; rfl)])
 simpa using this
def ini8 : St8 := (1779033703, 3144134277, 1013904242, 2773480762, 1359893119, 2600822924, 528734635, 1541459225)
def chainF (K : Vec UInt32 64) (b : List UInt8) : Nat → St8
 | 0 => ini8
 | k + 1 => nextF (chainF K b k) ((b.drop (64 * k)).take 64) K
def outF (s : St8) : List UInt8 := beF (i64 (s.1.toNat : Int)) 4 ++ (beF (i64 (s.2.1.toNat : Int)) 4 ++ (beF (i64 (s.2.2.1.toNat : Int)) 4 ++ (beF (i64 (s.2.2.2.1.toNat : Int)) 4 ++ (beF (i64 (s.2.2.2.2.1.toNat : Int)) 4 ++ (beF (i64 (s.2.2.2.2.2.1.toNat : Int)) 4 ++ (beF (i64 (s.2.2.2.2.2.2.1.toNat : Int)) 4 ++ beF (i64 (s.2.2.2.2.2.2.2.toNat : Int)) 4))))))
def at8 (s : St8) (k : Nat) : UInt32 := ([s.1, s.2.1, s.2.2.1, s.2.2.2.1, s.2.2.2.2.1, s.2.2.2.2.2.1, s.2.2.2.2.2.2.1, s.2.2.2.2.2.2.2] : List UInt32).getD k 0
def outN (s : St8) : Nat → List UInt8
 | 0 => []
 | k + 1 => outN s k ++ beF (i64 ((at8 s k).toNat : Int)) 4
theorem outN_len (s : St8) : ∀ k, (outN s k).length = 4 * k
 | 0 => rfl
 | k + 1 => by rw [outN, List.length_append, outN_len s k, beF_len]; omega
theorem outF_eq (s : St8) : outN s 8 = outF s := by simp only [outN, outF, at8, List.nil_append, List.append_assoc]; rfl
theorem outF_len (s : St8) : (outF s).length = 32 := by rw [← outF_eq, outN_len]
def keysF : Vec UInt32 64 := (hash_keys_p).getD (vrep 64 0)
theorem keys_ok : hash_keys_p = some keysF := rfl
def shaF (l : List UInt8) : List UInt8 := outF (chainF keysF (msgF l) ((msgF l).length / 64))
theorem shaF_len (l : List UInt8) : (shaF l).length = 32 := outF_len _
theorem chain_ok (K : Vec UInt32 64) {b : List UInt8} (h : b.length % 64 = 0) (hl : b.length ≤ 68719476736) : iter hash_Sum_b1 (b, 1779033703, 3144134277, 1013904242, 2773480762, 1359893119, 2600822924, 528734635, 1541459225, K) =
  some ((chainF K b (b.length / 64)).1, (chainF K b (b.length / 64)).2.1, (chainF K b (b.length / 64)).2.2.1, (chainF K b (b.length / 64)).2.2.2.1, (chainF K b (b.length / 64)).2.2.2.2.1, (chainF K b (b.length / 64)).2.2.2.2.2.1, (chainF K b (b.length / 64)).2.2.2.2.2.2.1, (chainF K b (b.length / 64)).2.2.2.2.2.2.2, K) := by
 refine iter_run (fun k => (b.drop (64 * k), (chainF K b k).1, (chainF K b k).2.1, (chainF K b k).2.2.1, (chainF K b k).2.2.2.1, (chainF K b k).2.2.2.2.1, (chainF K b k).2.2.2.2.2.1, (chainF K b k).2.2.2.2.2.2.1, (chainF K b k).2.2.2.2.2.2.2, K)) (b.length / 64) (by omega) _ (fun k hk => ?_) ?_
 ·unfold hash_Sum_b1
  have hd : (b.drop (64 * k)).length = b.length - 64 * k := by simp
  rw [dec_t (by simp only [hd]; omega)]
  simp only []
  rw [show (64 : Int) = ((64 : Nat) : Int) from rfl, subH_ok (by rw [hd]; omega), some_bind, next_ok _ _ (by simp only [List.length_take, hd]; omega), some_bind, subL_ok (by rw [hd]; omega), some_bind, List.drop_drop]
  rfl
 ·unfold hash_Sum_b1
  rw [dec_f (by simp only [List.length_drop]; omega)]
theorem out_ok2 (s : St8) (K : Vec UInt32 64) : iter (hash_Sum_b2 (s.1, s.2.1, s.2.2.1, s.2.2.2.1, s.2.2.2.2.1, s.2.2.2.2.2.1, s.2.2.2.2.2.2.1, s.2.2.2.2.2.2.2, K)) (([] : List UInt8), 0) = some (outF s) := by
 rw [← outF_eq]
 refine iter_run (fun k => (outN s k, (k : Int))) 8 (by decide) _ (fun k hk => ?_) ?_
 ·unfold hash_Sum_b2
  have e : idx ([s.1, s.2.1, s.2.2.1, s.2.2.2.1, s.2.2.2.2.1, s.2.2.2.2.2.1, s.2.2.2.2.2.2.1, s.2.2.2.2.2.2.2] : List UInt32) (k : Int) = some (at8 s k) := by
   rcases (by omega : k = 0 ∨ k = 1 ∨ k = 2 ∨ k = 3 ∨ k = 4 ∨ k = 5 ∨ k = 6 ∨ k = 7) with rfl | rfl | rfl | rfl | rfl | rfl | rfl | rfl <;> rfl
  rw [dec_t (by omega)]
  simp only []
  rw [e, some_bind, show (4 : Int) = ((4 : Nat) : Int) from rfl, big_ok (by decide) (by rw [outN_len]; omega), some_bind, w64s k (by omega)]
  rfl
 ·unfold hash_Sum_b2
  rw [dec_f (by omega)]
theorem sum_ok4 {l : List UInt8} (h : l.length ≤ 68719470000) : hash_Sum_p l = some (shaF l) := by
 unfold hash_Sum_p
 rw [app_ok (by rw [List.length_cons, List.length_nil]; omega), some_bind, pad_ok h, some_bind, some_bind, show (8 : Int) = ((8 : Nat) : Int) from rfl, big_ok (by decide) (by have := bodyF_le l; omega), some_bind, keys_ok, some_bind]
 rw [show bodyF l ++ beF (i64 (((8 : Nat) : Int) * (((i64 ((l.length : Int)))).toNat : Int))) 8 = msgF l from rfl, chain_ok keysF (msgF_len l) (by have := msgF_le l; omega), some_bind, some_bind, out_ok2]
 rfl
theorem mul1 (c : UInt8) : math_bits_Mul_p (i64 ((([c] : List UInt8)).length : Int)) (i64 64) = some ((0 : UInt64), (64 : UInt64)) := by
 rw [show ((([c] : List UInt8)).length : Int) = 1 from rfl]; decide +kernel
theorem rep_step (c : UInt8) {n : Nat} (h0 : 0 < n) (h : n ≤ 32) {r : List UInt8} (hr : r.length = 64 - n) : bytes_Repeat_b0 ((0 : UInt64), (64 : UInt64)) 64 ((n : Int), List.replicate n c ++ r) = some (.inl (((2 * n : Nat) : Int), List.replicate (2 * n) c ++ r.drop n)) := by
 unfold bytes_Repeat_b0
 have e64 : w64 (((64 : UInt64)).toNat : Int) = 64 := by decide
 have hl : (List.replicate n c ++ r).length = 64 := by simp [hr]; omega
 simp only [e64]
 rw [dec_t (by omega), subL_ok (by omega), some_bind, dec_t (by omega), subH_ok (by omega), some_bind]
 have h1 : (List.replicate n c ++ r).drop n = r := by rw [List.drop_left' (by simp)]
 have h2 : (List.replicate n c ++ r).take n = List.replicate n c := by rw [List.take_left' (by simp)]
 rw [h2, hl, show (((n : Int)).toNat) = n from rfl, List.length_replicate]
 have h4 : min n (64 - n) = n := by omega
 rw [h4, w64_of (by omega) (by omega)]
 have h5 : putB (List.replicate n c ++ r) n (List.replicate n c) = List.replicate (2 * n) c ++ r.drop n := by
  unfold putB
  rw [h2, hl, List.length_replicate, h4, List.take_of_length_le (by simp; omega), List.drop_append, List.length_replicate, List.drop_eq_nil_of_le (by simp), List.nil_append, ← List.append_assoc, List.replicate_append_replicate]
  congr 2 <;> omega
 rw [h5]
 congr 4
 omega
theorem rep_ok (c : UInt8) : bytes_Repeat_p [c] 64 = some (List.replicate 64 c) := by
 unfold bytes_Repeat_p
 have e64 : w64 (((64 : UInt64)).toNat : Int) = 64 := by decide
 rw [cond_f (by rfl), dec_f (by decide), mul1, some_bind]
 simp only [e64]
 rw [cond_f (by decide), cond_f (by rfl), dec_f (by decide), some_bind, chk_ok (by decide), some_bind]
 refine anyJ_intro fun jk hj => ?_
 have hj' : jk.length = 64 := hj
 have h0 : putB jk 0 [c] = List.replicate 1 c ++ jk.drop 1 := by
  unfold putB
  rw [hj']; rfl
 have key : iter (bytes_Repeat_b0 ((0 : UInt64), (64 : UInt64)) 64) (((1 : Nat) : Int), List.replicate 1 c ++ jk.drop 1) = some (List.replicate 64 c) := by
  refine iter_run (fun k => (((2 ^ k : Nat) : Int), List.replicate (2 ^ k) c ++ jk.drop (2 ^ k))) 6 (by decide) _ (fun k hk => ?_) ?_
  ·have hp : 2 ^ k ≤ 32 := by rcases (by omega : k = 0 ∨ k = 1 ∨ k = 2 ∨ k = 3 ∨ k = 4 ∨ k = 5) with rfl | rfl | rfl | rfl | rfl | rfl <;> decide
   rw [rep_step c (Nat.pos_of_ne_zero (by simp)) hp (by rw [List.length_drop, hj']), List.drop_drop, ← Nat.two_mul, Nat.pow_succ, Nat.mul_comm]
  ·unfold bytes_Repeat_b0
   simp only [e64]
   rw [dec_f (by decide), List.drop_eq_nil_of_le (by rw [hj']; decide), List.append_nil]
 rw [show (((min (([c] : List UInt8)).length (jk.length - 0) : Nat)) : Int) = ((1 : Nat) : Int) by rw [hj']; rfl, h0, key]; rfl
def overF (c : UInt8) (key : List UInt8) : Nat → List UInt8
 | 0 => List.replicate 64 c
 | k + 1 => (overF c key k).set k ((overF c key k).getD k 0 ^^^ key.getD k 0)
theorem overF_len (c : UInt8) (key : List UInt8) : ∀ k, (overF c key k).length = 64
 | 0 => by simp [overF]
 | k + 1 => by rw [overF, List.length_set, overF_len c key k]
theorem idxD {l : List UInt8} {k : Nat} (h : k < l.length) : idx l (k : Int) = some (l.getD k 0) := by
 rw [idx_ok rfl h, List.getD_eq_getElem?_getD, List.getElem?_eq_getElem h]; rfl
theorem setL8_ok {l : List UInt8} {k : Nat} {u : UInt8} (h : k < l.length) : setL l (k : Int) u = some (l.set k u) := by
 unfold setL
 rw [show (decide (0 ≤ (k : Int)) && decide ((k : Int) < (l.length : Int))) = true by simp; exact h]; rfl
theorem over_ok {key : List UInt8} (h : key.length ≤ 64) : iter (hash_Mac_b0 key) (0, List.replicate 64 (92 : UInt8), List.replicate 64 (54 : UInt8)) = some (overF 92 key key.length, overF 54 key key.length) := by
 refine iter_run (fun k => ((k : Int), overF 92 key k, overF 54 key k)) key.length (by omega) _ (fun k hk => ?_) ?_
 ·unfold hash_Mac_b0
  rw [dec_t (by omega)]
  simp only []
  have hi : k < (overF 54 key k).length := by rw [overF_len]; omega
  have ho : k < (overF 92 key k).length := by rw [overF_len]; omega
  rw [idxD hi, some_bind, idxD hk, some_bind, some_bind, setL8_ok hi, some_bind, idxD ho, some_bind, some_bind, some_bind, setL8_ok ho, some_bind, w64s k (by omega)]
  rfl
 ·unfold hash_Mac_b0
  rw [dec_f (by omega)]
def keyF (key : List UInt8) : List UInt8 := bif decide (64 < key.length) then shaF key else key
def macF (key s : List UInt8) : List UInt8 := shaF (overF 92 (keyF key) (keyF key).length ++ shaF (overF 54 (keyF key) (keyF key).length ++ s))
theorem keyF_len (key : List UInt8) : (keyF key).length ≤ 64 := by
 unfold keyF
 by_cases h : 64 < key.length
 ·rw [dec_t h, shaF_len]; decide
 ·rw [dec_f h]; omega
theorem macF_len (key s : List UInt8) : (macF key s).length = 32 := shaF_len _
theorem mac_ok4 {key s : List UInt8} (hk : key.length ≤ 68719470000) (hs : s.length ≤ 68719460000) : hash_Mac_p key s = some (macF key s) := by
 unfold hash_Mac_p
 have e : (bif decide ((64 : Int) < ((key).length : Int)) then (Option.bind (hash_Sum_p key) fun y1 => some (y1)) else (some (key))) = some (keyF key) := by
  unfold keyF
  by_cases h : 64 < key.length
  ·rw [dec_t (by omega), dec_t h, sum_ok4 hk]; rfl
  ·rw [dec_f (by omega), dec_f h]
 have l2 := overF_len 92 (keyF key) (keyF key).length
 have l1 := overF_len 54 (keyF key) (keyF key).length
 have hi : (overF 54 (keyF key) (keyF key).length ++ s).length ≤ 68719470000 := by rw [List.length_append, l1]; omega
 have ho : (overF 92 (keyF key) (keyF key).length ++ shaF (overF 54 (keyF key) (keyF key).length ++ s)).length ≤ 68719470000 := by rw [List.length_append, l2, shaF_len]; omega
 rw [e, some_bind, rep_ok, some_bind, rep_ok, some_bind, over_ok (keyF_len key), some_bind, some_bind, app_ok (by rw [← List.length_append]; show (overF 54 (keyF key) (keyF key).length ++ s).length ≤ _; omega), some_bind, sum_ok4 hi, some_bind, app_ok (by rw [← List.length_append]; show (overF 92 (keyF key) (keyF key).length ++ shaF (overF 54 (keyF key) (keyF key).length ++ s)).length ≤ _; omega), some_bind, sum_ok4 ho]
 rfl
end Go.Proofs.YtmbcolbbekbccaaGreat
namespace Go.Proofs.YtmbcolbbekbccaaGreat
open Go Go.RowKit
theorem writeByte_ok {l : List UInt8} {b : UInt8} (h : l.length < 68719476736) : Builder_WriteByte_p l b = some (l ++ [b]) := by
 have h' : l.length + [b].length ≤ 68719476736 := by simp only [List.length_cons, List.length_nil]; omega
 simp only [Builder_WriteByte_p, Builder_copyCheck_p, some_bind, app_ok h']
section
variable {σ β : Type} {body : σ → Option (σ ⊕ β)}
theorem iter_1 {s s1 : σ} {b : β} (h : body s = some (.inl s1)) (h1 : body s1 = some (.inr b)) : iter body s = some b := by
 show iterN body (1099511627774 + 1 + 1) s = _
 rw [iterN_step h, iterN_end h1]
theorem iter_2 {s s1 s2 : σ} {b : β} (h : body s = some (.inl s1)) (h1 : body s1 = some (.inl s2)) (h2 : body s2 = some (.inr b)) : iter body s = some b := by
 show iterN body (1099511627773 + 1 + 1 + 1) s = _
 rw [iterN_step h, iterN_step h1, iterN_end h2]
end
abbrev alA : List UInt8 := [65, 66, 67, 68, 69, 70, 71, 72, 73, 74, 75, 76, 77, 78, 79, 80, 81, 82, 83, 84, 85, 86, 87, 88, 89, 90, 97, 98, 99, 100, 101, 102, 103, 104, 105, 106, 107, 108, 109, 110, 111, 112, 113, 114, 115, 116, 117, 118, 119, 120, 121, 122, 48, 49, 50, 51, 52, 53, 54, 55, 56, 57, 45, 95]
def ch (n : Nat) : UInt8 := alA.getD n 0
def enc : Nat → Nat → List UInt8 → List UInt8
 | 0, _, [] => []
 | 1, a, [] => [ch (a * 16)]
 | _ + 2, a, [] => [ch (a * 4)]
 | 0, _, c :: l => ch (c.toNat / 4) :: enc 1 (c.toNat % 4) l
 | 1, a, c :: l => ch (a * 16 + c.toNat / 16) :: enc 2 (c.toNat % 16) l
 | _ + 2, a, c :: l => ch (a * 4 + c.toNat / 64) :: ch (c.toNat % 64) :: enc 0 0 l
def b64 (x : List UInt8) : List UInt8 := enc 0 0 x
theorem enc_len : ∀ (x : List UInt8) (m a : Nat), m ≤ 2 → (enc m a x).length = (4 * x.length + m + 2) / 3
 | [], 0, a, _ => rfl
 | [], 1, a, _ => rfl
 | [], 2, a, _ => rfl
 | c :: l, 0, a, _ => by simp only [enc, List.length_cons, enc_len l 1 _ (by omega)]; omega
 | c :: l, 1, a, _ => by simp only [enc, List.length_cons, enc_len l 2 _ (by omega)]; omega
 | c :: l, 2, a, _ => by simp only [enc, List.length_cons, enc_len l 0 _ (by omega)]; omega
 | [], m + 3, _, h => by omega
 | _ :: _, m + 3, _, h => by omega
abbrev vv (a : Int) (c : UInt8) : Int := bits .or .i64 (shlI .i64 a 8) ((c.toNat : Nat) : Int)
theorem own0 (c : UInt8) : idx alA (bits .and .i64 (shrI .i64 (vv 0 c) 2) 63) = some (ch (c.toNat / 4)) ∧ bits .and .i64 (vv 0 c) (w64 (shlI .i64 1 2 - 1)) = ((c.toNat % 4 : Nat) : Int) := by
 have := byte_all (fun c => decide (idx alA (bits .and .i64 (shrI .i64 (vv 0 c) 2) 63) = some (ch (c.toNat / 4)) ∧ bits .and .i64 (vv 0 c) (w64 (shlI .i64 1 2 - 1)) = ((c.toNat % 4 : Nat) : Int))) (by decide +kernel) c
 exact of_decide_eq_true this
theorem own1 (a : Nat) (h : a < 4) (c : UInt8) : idx alA (bits .and .i64 (shrI .i64 (vv (a : Int) c) 4) 63) = some (ch (a * 16 + c.toNat / 16)) ∧ bits .and .i64 (vv (a : Int) c) (w64 (shlI .i64 1 4 - 1)) = ((c.toNat % 16 : Nat) : Int) := by
 have := byte_all (fun c => (List.range 4).all fun a => decide (idx alA (bits .and .i64 (shrI .i64 (vv (a : Int) c) 4) 63) = some (ch (a * 16 + c.toNat / 16)) ∧ bits .and .i64 (vv (a : Int) c) (w64 (shlI .i64 1 4 - 1)) = ((c.toNat % 16 : Nat) : Int))) (by decide +kernel) c
 exact of_decide_eq_true (List.all_eq_true.1 this a (List.mem_range.2 h))
theorem own2 (a : Nat) (h : a < 16) (c : UInt8) : idx alA (bits .and .i64 (shrI .i64 (vv (a : Int) c) 6) 63) = some (ch (a * 4 + c.toNat / 64)) ∧ idx alA (bits .and .i64 (shrI .i64 (vv (a : Int) c) 0) 63) = some (ch (c.toNat % 64)) ∧ bits .and .i64 (vv (a : Int) c) (w64 (shlI .i64 1 0 - 1)) = 0 := by
 have := byte_all (fun c => (List.range 16).all fun a => decide (idx alA (bits .and .i64 (shrI .i64 (vv (a : Int) c) 6) 63) = some (ch (a * 4 + c.toNat / 64)) ∧ idx alA (bits .and .i64 (shrI .i64 (vv (a : Int) c) 0) 63) = some (ch (c.toNat % 64)) ∧ bits .and .i64 (vv (a : Int) c) (w64 (shlI .i64 1 0 - 1)) = 0)) (by decide +kernel) c
 exact of_decide_eq_true (List.all_eq_true.1 this a (List.mem_range.2 h))
theorem b1_step (A B C : Int) (O out : List UInt8) (c e : UInt8) (t u : Int) (ht : 6 ≤ t) (htu : w64 (t - 6) = u) (hu : 0 ≤ u) (he : idx alA (bits .and .i64 (shrI .i64 (vv A c) u) 63) = some e) (hl : out.length < 68719476736) :
  codec_Base64_b1 (A, B, C, O) c (t, out) = some (.inl (u, out ++ [e])) := by
 unfold codec_Base64_b1
 dsimp only
 rw [dec_t ht, htu, chk_ok (by simpa using hu), some_bind, he, some_bind, writeByte_ok hl, some_bind]
theorem b1_end (A B C : Int) (O out : List UInt8) (c : UInt8) (t : Int) (ht : ¬ 6 ≤ t) : codec_Base64_b1 (A, B, C, O) c (t, out) = some (.inr (t, out)) := by
 unfold codec_Base64_b1
 dsimp only
 rw [dec_f ht]
theorem last1 (a : Nat) (h : a < 4) : idx alA (bits .and .i64 (shlI .i64 (a : Int) 4) 63) = some (ch (a * 16)) := by
 have : (List.range 4).all (fun a => decide (idx alA (bits .and .i64 (shlI .i64 (a : Int) 4) 63) = some (ch (a * 16)))) = true := by decide +kernel
 exact of_decide_eq_true (List.all_eq_true.1 this a (List.mem_range.2 h))
theorem last2 (a : Nat) (h : a < 16) : idx alA (bits .and .i64 (shlI .i64 (a : Int) 2) 63) = some (ch (a * 4)) := by
 have : (List.range 16).all (fun a => decide (idx alA (bits .and .i64 (shlI .i64 (a : Int) 2) 63) = some (ch (a * 4)))) = true := by decide +kernel
 exact of_decide_eq_true (List.all_eq_true.1 this a (List.mem_range.2 h))
theorem base64_run (x : List UInt8) (hx : x.length ≤ 4194304) : codec_Base64_p x = some (b64 x) := by
 have key : ∃ r, iter (codec_Base64_b0 x) (0, 0, 0, []) = some r ∧ ∃ m a : Nat, m ≤ 2 ∧ a < 4 ^ m ∧ r.1 = (a : Int) ∧ r.2.1 = ((2 * m : Nat) : Int) ∧ b64 x = r.2.2 ++ enc m a [] ∧ r.2.2.length ≤ 2 * x.length := by
  refine iter_ind (fun s => ∃ k m a : Nat, m ≤ 2 ∧ a < 4 ^ m ∧ k ≤ x.length ∧ s.1 = (a : Int) ∧ s.2.1 = ((2 * m : Nat) : Int) ∧ s.2.2.1 = (k : Int) ∧ b64 x = s.2.2.2 ++ enc m a (x.drop k) ∧ s.2.2.2.length ≤ 2 * k) (fun s => x.length - s.2.2.1.toNat) _ (0, 0, 0, []) ⟨0, 0, 0, by omega, by decide, by omega, rfl, rfl, rfl, by simp [b64], by simp⟩ (by show x.length - 0 < _; omega) ?_
  rintro ⟨A, B, C, out⟩ ⟨k, m, a, hm, ha, hk, e1, e2, e3, hI, hL⟩
  dsimp only at e1 e2 e3 hI hL
  subst e1 e2 e3
  by_cases h : k < x.length
  ·left
   have ei : idx x (k : Int) = some x[k] := idx_ok rfl h
   rw [drop_at h] at hI
   unfold codec_Base64_b0
   dsimp only
   rw [dec_t (show (k : Int) < (x.length : Int) by omega), ei, some_bind, w64_of (x := (k : Int) + 1) (by omega) (by omega)]
   match m, hm, ha with
   | 0, _, ha =>
    obtain rfl : a = 0 := by simpa using ha
    have hr := own0 x[k]
    have e : w64 (((2 * 0 : Nat) : Int) + 8) = 8 := by decide
    have hi : iter (codec_Base64_b1 (((0 : Nat) : Int), ((2 * 0 : Nat) : Int), (k : Int), out) x[k]) (8, out) = some (2, out ++ [ch (x[k].toNat / 4)]) :=
     iter_1 (b1_step _ _ _ _ _ _ _ 8 2 (by decide) (by decide) (by decide) hr.1 (by omega)) (b1_end _ _ _ _ _ _ 2 (by decide))
    rw [e, hi]
    simp only [some_bind]
    refine ⟨(((x[k].toNat % 4 : Nat) : Int), 2, (k : Int) + 1, out ++ [ch (x[k].toNat / 4)]), ?_, ⟨k + 1, 1, x[k].toNat % 4, by omega, by omega, by omega, rfl, rfl, rfl, ?_, ?_⟩, ?_⟩
    ·rw [chk_ok (show decide ((0 : Int) ≤ 2) = true by decide), some_bind]
     have := hr.2
     rw [← this]; rfl
    ·rw [hI]; simp [enc]
    ·simp only [List.length_append, List.length_cons, List.length_nil]; omega
    ·show x.length - ((k : Int) + 1).toNat < x.length - ((k : Int)).toNat; omega
   | 1, _, ha =>
    have ha : a < 4 := by simpa using ha
    have hr := own1 a ha x[k]
    have e : w64 (((2 * 1 : Nat) : Int) + 8) = 10 := by decide
    have hi : iter (codec_Base64_b1 ((a : Int), ((2 * 1 : Nat) : Int), (k : Int), out) x[k]) (10, out) = some (4, out ++ [ch (a * 16 + x[k].toNat / 16)]) :=
     iter_1 (b1_step _ _ _ _ _ _ _ 10 4 (by decide) (by decide) (by decide) hr.1 (by omega)) (b1_end _ _ _ _ _ _ 4 (by decide))
    rw [e, hi]
    simp only [some_bind]
    refine ⟨(((x[k].toNat % 16 : Nat) : Int), 4, (k : Int) + 1, out ++ [ch (a * 16 + x[k].toNat / 16)]), ?_, ⟨k + 1, 2, x[k].toNat % 16, by omega, by omega, by omega, rfl, rfl, rfl, ?_, ?_⟩, ?_⟩
    ·rw [chk_ok (show decide ((0 : Int) ≤ 4) = true by decide), some_bind]
     have := hr.2
     rw [← this]; rfl
    ·rw [hI]; simp [enc]
    ·simp only [List.length_append, List.length_cons, List.length_nil]; omega
    ·show x.length - ((k : Int) + 1).toNat < x.length - ((k : Int)).toNat; omega
   | 2, _, ha =>
    have ha : a < 16 := by simpa using ha
    have hr := own2 a ha x[k]
    have e : w64 (((2 * 2 : Nat) : Int) + 8) = 12 := by decide
    have hi : iter (codec_Base64_b1 ((a : Int), ((2 * 2 : Nat) : Int), (k : Int), out) x[k]) (12, out) = some (0, out ++ [ch (a * 4 + x[k].toNat / 64)] ++ [ch (x[k].toNat % 64)]) :=
     iter_2 (b1_step _ _ _ _ _ _ _ 12 6 (by decide) (by decide) (by decide) hr.1 (by omega)) (b1_step _ _ _ _ _ _ _ 6 0 (by decide) (by decide) (by decide) hr.2.1 (by simp only [List.length_append, List.length_cons, List.length_nil]; omega)) (b1_end _ _ _ _ _ _ 0 (by decide))
    rw [e, hi]
    simp only [some_bind]
    refine ⟨(0, 0, (k : Int) + 1, out ++ [ch (a * 4 + x[k].toNat / 64)] ++ [ch (x[k].toNat % 64)]), ?_, ⟨k + 1, 0, 0, by omega, by decide, by omega, rfl, rfl, rfl, ?_, ?_⟩, ?_⟩
    ·rw [chk_ok (show decide ((0 : Int) ≤ 0) = true by decide), some_bind]
     have := hr.2.2
     simp only [some_bind]
     rw [show bits .and .i64 (bits .or .i64 (shlI .i64 (a : Int) 8) ((x[k].toNat : Nat) : Int)) (w64 (shlI .i64 1 0 - 1)) = 0 from this]
    ·rw [hI]; simp [enc]
    ·simp only [List.length_append, List.length_cons, List.length_nil]; omega
    ·show x.length - ((k : Int) + 1).toNat < x.length - ((k : Int)).toNat; omega
  ·right
   have : k = x.length := by omega
   subst this
   refine ⟨((a : Int), ((2 * m : Nat) : Int), out), ?_, m, a, hm, ha, rfl, rfl, ?_, hL⟩
   ·unfold codec_Base64_b0
    dsimp only
    rw [dec_f (by omega)]
   ·rw [hI, List.drop_length]
 obtain ⟨⟨A, B, out⟩, hr, m, a, hm, ha, e1, e2, hI, hL⟩ := key
 dsimp only at e1 e2 hI hL
 subst e1 e2
 rw [codec_Base64_p, hr]
 simp only [some_bind]
 match m, hm, ha with
 | 0, _, ha =>
  rw [dec_f (by decide), some_bind, chk_ok (by rw [decide_eq_true_eq]; omega), some_bind, hI]; simp [enc]
 | 1, _, ha =>
  have ha : a < 4 := by simpa using ha
  have e : w64 ((6 : Int) - ((2 * 1 : Nat) : Int)) = 4 := by decide
  rw [dec_t (by decide), e, chk_ok (by decide), some_bind, last1 a ha, some_bind, writeByte_ok (by omega), some_bind, some_bind, chk_ok (by rw [decide_eq_true_eq, List.length_append]; simp only [List.length_cons, List.length_nil]; omega), some_bind, hI]; simp [enc]
 | 2, _, ha =>
  have ha : a < 16 := by simpa using ha
  have e : w64 ((6 : Int) - ((2 * 2 : Nat) : Int)) = 2 := by decide
  rw [dec_t (by decide), e, chk_ok (by decide), some_bind, last2 a ha, some_bind, writeByte_ok (by omega), some_bind, some_bind, chk_ok (by rw [decide_eq_true_eq, List.length_append]; simp only [List.length_cons, List.length_nil]; omega), some_bind, hI]; simp [enc]
end Go.Proofs.YtmbcolbbekbccaaGreat
namespace Go.Proofs.YtmbcolbbekbccaaGreat
open Go Go.RowKit
theorem or63 {a b : Nat} (ha : a < 2 ^ 63) (hb : b < 2 ^ 63) : bits .or .i64 (a : Int) (b : Int) = ((a ||| b : Nat) : Int) := by
 have h1 : a < 2 ^ IntKind.i64.bits := by show a < 2 ^ 64; omega
 have h2 : b < 2 ^ IntKind.i64.bits := by show b < 2 ^ 64; omega
 simp only [bits, BitVec.toNat_or, ofNatBV .i64 a h1, ofNatBV .i64 b h2]
 have := Nat.or_lt_two_pow ha hb
 exact wr64 (by omega) (by omega)
theorem xor63 {a b : Nat} (ha : a < 2 ^ 63) (hb : b < 2 ^ 63) : bits .xor .i64 (a : Int) (b : Int) = ((a ^^^ b : Nat) : Int) := by
 have h1 : a < 2 ^ IntKind.i64.bits := by show a < 2 ^ 64; omega
 have h2 : b < 2 ^ IntKind.i64.bits := by show b < 2 ^ 64; omega
 simp only [bits, BitVec.toNat_xor, ofNatBV .i64 a h1, ofNatBV .i64 b h2]
 have := Nat.xor_lt_two_pow ha hb
 exact wr64 (by omega) (by omega)
def unlike (x y : List UInt8) : Nat → Nat
 | 0 => x.length ^^^ y.length
 | k + 1 => unlike x y k ||| (x.getD k 0 ^^^ y.getD k 0).toNat
theorem unlike_lt {x y : List UInt8} (hx : x.length < 2 ^ 63) (hy : y.length < 2 ^ 63) : ∀ k, unlike x y k < 2 ^ 63
 | 0 => Nat.xor_lt_two_pow hx hy
 | k + 1 => Nat.or_lt_two_pow (unlike_lt hx hy k) (Nat.lt_of_lt_of_le (UInt8.toNat_lt _) (by decide))
theorem orz0 {a b : Nat} : a ||| b = 0 ↔ a = 0 ∧ b = 0 := by
 constructor
 ·intro h
  have h1 : a ≤ a ||| b := Nat.left_le_or
  have h2 : b ≤ a ||| b := Nat.right_le_or
  omega
 ·rintro ⟨rfl, rfl⟩; rfl
theorem xorz08 {a b : UInt8} : (a ^^^ b).toNat = 0 ↔ a = b := by
 rw [UInt8.toNat_xor]
 constructor
 ·intro h
  apply UInt8.toNat_inj.1
  have := congrArg (· ^^^ b.toNat) h
  simpa [Nat.xor_assoc] using this
 ·rintro rfl; simp
theorem unlike_zero {x y : List UInt8} : ∀ k, unlike x y k = 0 ↔ x.length = y.length ∧ ∀ j, j < k → x.getD j 0 = y.getD j 0
 | 0 => by
  simp only [unlike, Nat.not_lt_zero, false_imp_iff, implies_true, and_true]
  constructor
  ·intro h
   have := congrArg (· ^^^ y.length) h
   simpa [Nat.xor_assoc] using this
  ·intro h; rw [h]; simp
 | k + 1 => by
  rw [unlike, orz0, unlike_zero k, xorz08]
  constructor
  ·rintro ⟨⟨h1, h2⟩, h3⟩
   exact ⟨h1, fun j hj => by
    rcases (by omega : j < k ∨ j = k) with h | rfl
    ·exact h2 j h
    ·exact h3⟩
  ·rintro ⟨h1, h2⟩
   exact ⟨⟨h1, fun j hj => h2 j (by omega)⟩, h2 k (by omega)⟩
theorem hsame_ok {x y : List UInt8} (hx : x.length ≤ 68719476736) (hy : y.length ≤ 68719476736) : hash_Same_p x y = some (x == y) := by
 have hx2 : x.length < 2 ^ 63 := by omega
 have hy2 : y.length < 2 ^ 63 := by omega
 have key : iter (hash_Same_b0 x y) ((((x.length ^^^ y.length : Nat)) : Int), 0) = some ((unlike x y x.length : Nat) : Int) := by
  refine iter_run (fun k => (((unlike x y k : Nat) : Int), (k : Int))) x.length (by omega) _ (fun k hk => ?_) ?_
  ·unfold hash_Same_b0
   rw [dec_t (by omega)]
   simp only []
   have e : (bif decide ((k : Int) < ((y).length : Int)) then (Option.bind (idx y (k : Int)) fun y1 => some (y1)) else (some ((0 : UInt8)))) = some (y.getD k 0) := by
    by_cases h : k < y.length
    ·rw [dec_t (by omega), idxD h]; rfl
    ·rw [dec_f (by omega), List.getD_eq_getElem?_getD, List.getElem?_eq_none (by omega)]; rfl
   rw [e, some_bind, idxD hk, some_bind, or63 (unlike_lt hx2 hy2 k) (Nat.lt_of_lt_of_le (UInt8.toNat_lt _) (by decide)), w64s k (by omega)]
   rfl
  ·unfold hash_Same_b0
   rw [dec_f (by omega)]
 unfold hash_Same_p
 rw [xor63 hx2 hy2, key, some_bind, some_bind]
 congr 1
 have hz := unlike_zero (x := x) (y := y) x.length
 by_cases h : x = y
 ·subst h
  rw [hz.2 ⟨rfl, fun _ _ => rfl⟩]; simp
 ·rw [beq_false_of_ne h]
  have : ¬ unlike x y x.length = 0 := fun e => h (by
   obtain ⟨h1, h2⟩ := hz.1 e
   apply List.ext_getElem h1
   intro i hi hi'
   have := h2 i hi
   simpa [List.getD_eq_getElem?_getD, List.getElem?_eq_getElem hi, List.getElem?_eq_getElem hi'] using this)
  rw [beq_eq_false_iff_ne]; omega
abbrev Ky : Type := (List UInt8) × (List UInt8) × (List UInt8) × Qw × Onc × Qp
def kidF (s : List UInt8) : List UInt8 := b64 ((macF [107, 105, 100] s).take 9)
def mkF (s : List UInt8) : List UInt8 := macF [109, 97, 99] s
def dF (s : List UInt8) : Nat := bval (macF [107, 101, 121] s) % modN 1
def prF (s : List UInt8) : W4 := bif dF s == 0 then tv 1 else tv (dF s)
def keyOf (s : List UInt8) : Ky := (s, kidF s, mkF s, prF s, onc0, ((0, 0, 0, 0), (0, 0, 0, 0), false))
theorem kidF_len (s : List UInt8) : (kidF s).length = 12 := by
 rw [kidF, b64, enc_len _ 0 _ (by decide), List.length_take, macF_len]; decide
theorem tv_zero {A : Nat} (h : A < two256) : (tv A == ((0 : UInt64), (0 : UInt64), (0 : UInt64), (0 : UInt64))) = (A == 0) := by
 rw [show ((0 : UInt64), (0 : UInt64), (0 : UInt64), (0 : UInt64)) = tv 0 from rfl, beq_w4, nv_tv h, nv_tv two256_pos]
theorem dF_lt (s : List UInt8) : dF s < two256 := Nat.lt_of_lt_of_le (Nat.mod_lt _ (modN_pos 1)) (Nat.le_of_lt (mod_modN 1).2)
theorem made_ok {s : List UInt8} (h : s.length ≤ 68719460000) : sign_made_p s = some (some (keyOf s)) := by
 have hk : ∀ k : List UInt8, k.length ≤ 68719470000 → hash_Mac_p k s = some (macF k s) := fun k hk => mac_ok4 hk h
 unfold sign_made_p
 have hr : field_Reduce_p 1 (macF [107, 101, 121] s) = some (tv (dF s)) := by
  unfold field_Reduce_p
  rw [chk_ok (decide_eq_true (by rw [macF_len]; decide))]; rfl
 rw [hk _ (by decide), some_bind, hr, some_bind]
 have e : (Option.bind (sign_zero_p) fun y3 => bif (((tv (dF s)) : Qw) == (y3 : Qw)) then (some (((1 : UInt64), (0 : UInt64), (0 : UInt64), (0 : UInt64)))) else (some (((tv (dF s)).1, (tv (dF s)).2.1, (tv (dF s)).2.2.1, (tv (dF s)).2.2.2)))) = some (prF s) := by
  unfold sign_zero_p
  rw [some_bind, tv_zero (dF_lt s), prF]
  cases dF s == 0 <;> rfl
 rw [e, some_bind, hk _ (by decide), some_bind, show (9 : Int) = ((9 : Nat) : Int) from rfl, subH_ok (by rw [macF_len]; decide), some_bind, base64_run _ (by rw [List.length_take, macF_len]; decide), some_bind, hk _ (by decide), some_bind]
 rfl
def ringF (L : List (List UInt8)) : List (Option Ky) := L.map fun s => some (keyOf s)
theorem ringF_len (L : List (List UInt8)) : (ringF L).length = L.length := by simp [ringF]
theorem ringF_at {L : List (List UInt8)} {k : Nat} (h : k < L.length) : idx (ringF L) (k : Int) = some (some (keyOf L[k])) := by
 rw [idx_ok rfl (by rw [ringF_len]; exact h)]; simp [ringF]
theorem newRing_ok {s : List UInt8} (h : s.length ≤ 68719460000) : sign_NewRing_p s = some (ringF [s]) := by
 unfold sign_NewRing_p; rw [made_ok h]; rfl
def plF (L : List (List UInt8)) (kid : List UInt8) : Nat := L.findIdx fun s => kidF s == kid
def findF (L : List (List UInt8)) (kid : List UInt8) : Option (List UInt8) := L[plF L kid]?
theorem find_ok {L : List (List UInt8)} (hL : L.length < 1000000) (kid : List UInt8) : sign_Ring_find_p (some (ringF L)) kid = some ((findF L kid).map keyOf) := by
 have hn : plF L kid ≤ L.length := List.findIdx_le_length
 have key : iter (sign_Ring_find_b0 kid (ringF L)) 0 = some (match findF L kid with | some s => .inl (some (keyOf s)) | none => .inr ()) := by
  refine iter_run (fun k => (k : Int)) (plF L kid) (by omega) _ (fun k hk => ?_) ?_
  ·unfold sign_Ring_find_b0
   have hk2 : k < L.length := by omega
   rw [dec_t (by rw [ringF_len]; omega), ringF_at hk2, some_bind, some_bind, cond_f (by simpa [keyOf] using List.not_of_lt_findIdx hk), w64s k (by omega)]
  ·unfold sign_Ring_find_b0
   by_cases h : plF L kid < L.length
   ·rw [dec_t (by rw [ringF_len]; omega), ringF_at h, some_bind, some_bind, cond_t (show ((keyOf (L[plF L kid]'h)).2.1 == kid) = true from List.findIdx_getElem (w := h)), findF, List.getElem?_eq_getElem h]
   ·rw [dec_f (by rw [ringF_len]; omega), findF, List.getElem?_eq_none (by omega)]
 unfold sign_Ring_find_p
 rw [some_bind, key, some_bind]
 cases findF L kid <;> rfl
theorem newest_ok {L : List (List UInt8)} {s : List UInt8} (hL : L.length < 1000000) : sign_Ring_newest_p (some (ringF (L ++ [s]))) = some (some (keyOf s)) := by
 unfold sign_Ring_newest_p
 have hl : ((L ++ [s]).length : Nat) = L.length + 1 := by simp
 rw [some_bind, some_bind, ringF_len, hl, w64_of (by omega) (by omega), show (((L.length + 1 : Nat)) : Int) - 1 = ((L.length : Nat) : Int) by omega, ringF_at (by omega), some_bind]
 simp
theorem turn_ok {L : List (List UInt8)} {s : List UInt8} (hL : L.length < 1000000) (h : s.length ≤ 68719460000) : sign_Ring_Turn_p (ringF L) s =
  some (bif (findF L (kidF s)).isSome then (80, ringF L) else bif L.length == 8 then (82, ringF L) else (0, ringF (L ++ [s]))) := by
 unfold sign_Ring_Turn_p
 rw [made_ok h, some_bind, some_bind, show (keyOf s).2.1 = kidF s from rfl, find_ok hL, some_bind]
 cases e : findF L (kidF s) with
 | some q => rfl
 | none =>
  simp only [Option.map_none, Option.isNone_none, Bool.not_true, cond_false, Option.isSome_none]
  rw [ringF_len]
  by_cases h8 : L.length = 8
  ·rw [cond_t (by simp [h8]), cond_t (by simp [h8])]
  ·rw [cond_f (by rw [beq_eq_false_iff_ne]; omega), cond_f (by rw [beq_eq_false_iff_ne]; exact h8), app_ok (by rw [ringF_len, List.length_cons, List.length_nil]; omega), some_bind]
   simp [ringF]
theorem kids_ok {L : List (List UInt8)} (hL : L.length < 1000000) : sign_Ring_Kids_p (some (ringF L)) = some (L.map kidF) := by
 have key : iter (sign_Ring_Kids_b0 (ringF L)) (([] : List (List UInt8)), 0) = some (L.map kidF) := by
  refine iter_run (fun k => ((L.take k).map kidF, (k : Int))) L.length (by omega) _ (fun k hk => ?_) ?_
  ·unfold sign_Ring_Kids_b0
   rw [dec_t (by rw [ringF_len]; omega)]
   simp only []
   rw [ringF_at hk, some_bind, some_bind, app_ok (by simp; omega), some_bind, w64s k (by omega), take_succ hk, List.map_append]
   rfl
  ·unfold sign_Ring_Kids_b0
   rw [dec_f (by rw [ringF_len]; omega), List.take_length]
 unfold sign_Ring_Kids_p
 rw [some_bind, key]; rfl
theorem rmac_ok {L : List (List UInt8)} {s m : List UInt8} (hL : L.length < 1000000) (hm : m.length ≤ 68719460000) : sign_Ring_Mac_p (some (ringF (L ++ [s]))) m = some (kidF s, macF (mkF s) m) := by
 unfold sign_Ring_Mac_p
 rw [newest_ok hL, some_bind, some_bind, some_bind, show (keyOf s).2.2.1 = mkF s from rfl, mac_ok4 (by rw [mkF, macF_len]; decide) hm]
 rfl
theorem vouch_ok {L : List (List UInt8)} {kid m c : List UInt8} (hL : L.length < 1000000) (hm : m.length ≤ 68719460000) (hc : c.length ≤ 68719476736) :
  sign_Ring_Vouch_p (some (ringF L)) kid m c = some (match findF L kid with | some s => macF (mkF s) m == c | none => false) := by
 unfold sign_Ring_Vouch_p
 rw [find_ok hL, some_bind]
 cases e : findF L kid with
 | none => rfl
 | some s =>
  simp only [Option.map_some, Option.isNone_some, Bool.not_false, cond_true, some_bind]
  rw [show (keyOf s).2.2.1 = mkF s from rfl, mac_ok4 (by rw [mkF, macF_len]; decide) hm, some_bind, hsame_ok (by rw [macF_len]; decide) hc]
  rfl
end Go.Proofs.YtmbcolbbekbccaaGreat
namespace Go.Proofs.YtmbcolbbekbccaaGreat
open Go Go.RowKit
abbrev G0 : Pw := ptW (GX, GY, false)
theorem invV0_1 : invV 0 1 = 1 := by unfold invV; rw [Nat.one_pow]; rfl
theorem pub1 : sign_Public_p ((1 : UInt64), (0 : UInt64), (0 : UInt64), (0 : UInt64)) = some (G0, 0) := by
 have e1 : sign_fine_p ((1 : UInt64), (0 : UInt64), (0 : UInt64), (0 : UInt64)) = some true := of_decide_eq_true (by kernel_rfl)
 have e2 : cmul (nv ((1 : UInt64), (0 : UInt64), (0 : UInt64), (0 : UInt64))) (apT G0) = (GX, GY, false) := by
  rw [show nv ((1 : UInt64), (0 : UInt64), (0 : UInt64), (0 : UInt64)) = 1 from of_decide_eq_true (by kernel_rfl), show apT G0 = (GX, GY, false) from of_decide_eq_true (by kernel_rfl)]
  unfold cmul
  rw [show onT (GX, GY, false) = true by kernel_rfl, cond_t rfl, jmul_1 (by decide), show 1 / 2 = 0 from rfl, jmul_0, jtw_0]
  rw [show jad (0, 0, 0) (jof GX GY false) = (GX, GY, 1) from rfl]
  unfold jend
  rw [if_neg (by decide), invV0_1]
  exact of_decide_eq_true (by kernel_rfl)
 unfold sign_Public_p
 rw [e1, some_bind]
 unfold sign_times_p curve_Base_p curve_Mul_p
 rw [some_bind, some_bind, e2]
 rfl
theorem pub0 : (sign_Public_p ((0 : UInt64), (0 : UInt64), (0 : UInt64), (0 : UInt64))).map (·.2) = some 80 := of_decide_eq_true (by kernel_rfl)
theorem sgnN : sign_Sign_p (tv (modN 1)) ([] : List UInt8) = some ([], 80) := of_decide_eq_true (by kernel_rfl)
theorem kids_ab : (kidF [97] == kidF [98]) = false := by kernel_rfl
theorem kid_no (s : List UInt8) : (kidF s == ([] : List UInt8)) = false := by
 rw [beq_eq_false_iff_ne]
 intro h
 have := kidF_len s
 rw [h] at this
 simp at this
theorem find_hit (s : List UInt8) (L : List (List UInt8)) : findF (s :: L) (kidF s) = some s := by
 have : plF (s :: L) (kidF s) = 0 := by simp [plF, List.findIdx_cons]
 rw [findF, this]; rfl
theorem fixed_ok : l8_fixed_p = some true := by
 unfold l8_fixed_p
 obtain ⟨y2, h2, h80⟩ := Option.map_eq_some_iff.1 pub0
 have t1 : sign_Ring_Turn_p (ringF [[97]]) ([97] : List UInt8) = some (80, ringF [[97]]) := by
  rw [turn_ok (by decide) (by decide), find_hit]; rfl
 have t2 : sign_Ring_Turn_p (ringF [[97]]) ([98] : List UInt8) = some (0, ringF [[97], [98]]) := by
  have : findF [[97]] (kidF [98]) = none := by
   have : plF [[97]] (kidF [98]) = 1 := by simp only [plF, List.findIdx_cons, kids_ab, List.findIdx_nil]; rfl
   rw [findF, this]; rfl
  rw [turn_ok (by decide) (by decide), this]; rfl
 have k : sign_Ring_Kids_p (some (ringF [[97], [98]])) = some [kidF [97], kidF [98]] := kids_ok (by decide)
 have m : sign_Ring_Mac_p (some (ringF [[97], [98]])) ([115] : List UInt8) = some (kidF [98], macF (mkF [98]) [115]) := rmac_ok (L := [[97]]) (by decide) (by decide)
 have f1 : findF [[97], [98]] (kidF [98]) = some [98] := by
  have : plF [[97], [98]] (kidF [98]) = 1 := by simp only [plF, List.findIdx_cons, kids_ab, BEq.rfl, List.findIdx_nil]; rfl
  rw [findF, this]; rfl
 have f2 : findF [[97], [98]] [] = none := by
  have : plF [[97], [98]] [] = 2 := by simp only [plF, List.findIdx_cons, kid_no, List.findIdx_nil]; rfl
  rw [findF, this]; rfl
 have v1 : sign_Ring_Vouch_p (some (ringF [[97], [98]])) (kidF [98]) ([115] : List UInt8) (macF (mkF [98]) [115]) = some true := by
  rw [vouch_ok (by decide) (by decide) (by rw [macF_len]; decide), f1]
  simp only [BEq.rfl]
 have v2 : sign_Ring_Vouch_p (some (ringF [[97], [98]])) ([] : List UInt8) ([115] : List UInt8) (macF (mkF [98]) [115]) = some false := by
  rw [vouch_ok (by decide) (by decide) (by rw [macF_len]; decide), f2]
 rw [pub1, some_bind, h2, some_bind, show field_Modulus_p 1 = some (tv (modN 1)) from rfl, some_bind, sgnN, some_bind, newRing_ok (by decide), some_bind, t1, some_bind]
 simp only [h80, show ((80 : Int) != 80) = false from rfl, cond_false]
 rw [t2, some_bind, some_bind]
 simp only [show ((0 : Int) != 0) = false from rfl, cond_false]
 rw [k, some_bind, some_bind]
 simp only [show (((([kidF [97], kidF [98]] : List (List UInt8)).length : Int)) != 2) = false from rfl, cond_false]
 rw [m, some_bind, show curve_Base_p = some G0 from rfl, some_bind]
 simp only [BEq.rfl, cond_true]
 rw [v1, some_bind, cond_t rfl, v2, some_bind]
 rfl
end Go.Proofs.YtmbcolbbekbccaaGreat
namespace Go.Proofs.YtmbcolbbekbccaaGreat
open Go Go.RowKit
theorem HP.ofE {W w : World} (_hx : Ext W w) : HP W W [] := HP.of (Ext.refl W)
end Go.Proofs.YtmbcolbbekbccaaGreat
namespace Go.Proofs.YtmbcolbbekbccaaGreat
open Go Go.RowKit
abbrev GG : Ap := (GX, GY, false)
theorem AL_GG : AL GG := ⟨of_decide_eq_true (by kernel_rfl), of_decide_eq_true (by kernel_rfl)⟩
theorem AL_cofV (l : List UInt8) : AL (cofV l) := by
 unfold cofV
 cases l == [0]
 ·cases cofB l
  ·exact AL_0 _
  ·exact ⟨ofV_lt2 _ _, ofV_lt2 _ _⟩
 ·exact AL_0 _
theorem onT_GG : onT GG = true := by kernel_rfl
end Go.Proofs.YtmbcolbbekbccaaGreat
namespace Go.Proofs.YtmbcolbbekbccaaGreat
open Go Go.RowKit
def Rep (t : Tr) : Pt → Prop
 | none => cl t.2.2 = 0
 | some (x, y) => cl t.2.2 ≠ 0 ∧ cl t.1 = x * (cl t.2.2 * cl t.2.2) ∧ cl t.2.1 = y * (cl t.2.2 * cl t.2.2 * cl t.2.2)
def ZL (t : Tr) : Prop := t.2.2 < PP
theorem ZL_0 : ZL (0, 0, 0) := modN_pos 0
theorem tw_m {x y z s : Fp} (h : 2 * y * s = x * x + x * x + x * x - 3) : 3 * ((x * (z * z) - z * z) * (x * (z * z) + z * z)) = 2 * y * s * (z * z * (z * z)) := by grobner
theorem tw_x (x y z s : Fp) : 2 * y * s * (z * z * (z * z)) * (2 * y * s * (z * z * (z * z))) - (4 * (x * (z * z) * (y * (z * z * z) * (y * (z * z * z)))) + 4 * (x * (z * z) * (y * (z * z * z) * (y * (z * z * z))))) =
  (s * s - x - x) * (2 * (y * (z * z * z) * z) * (2 * (y * (z * z * z) * z))) := by grobner
theorem tw_y (x y z s X : Fp) : 2 * y * s * (z * z * (z * z)) * (4 * (x * (z * z) * (y * (z * z * z) * (y * (z * z * z)))) - X * (2 * (y * (z * z * z) * z) * (2 * (y * (z * z * z) * z)))) - 8 * (y * (z * z * z) * (y * (z * z * z)) * (y * (z * z * z) * (y * (z * z * z)))) =
  (s * (x - X) - y) * (2 * (y * (z * z * z) * z) * (2 * (y * (z * z * z) * z)) * (2 * (y * (z * z * z) * z))) := by grobner
theorem mul_ne {a b : Fp} (ha : a ≠ 0) (hb : b ≠ 0) : a * b ≠ 0 := fun h => (fp_mul0 h).elim ha hb
theorem dbl0 {y : Fp} (h : y = - y) : y = 0 := by
 have h2 : 2 * y = 0 := by grobner
 exact (fp_mul0 h2).resolve_left two_ne
theorem neg_0 : - (0 : Fp) = 0 := by grobner
theorem mul_0' (a : Fp) : a * 0 = 0 := by grobner
theorem tang2 {x y s : Fp} (h : 2 * y * s + s * s * (x - x) = x * x + x * x + x * x - 3) : 2 * y * s = x * x + x * x + x * x - 3 := by grobner
theorem cl_3 : cl 3 = 3 := rfl
theorem cl_4 : cl 4 = 4 := rfl
theorem cl_8 : cl 8 = 8 := rfl
theorem cl_2 : cl 2 = 2 := rfl
theorem cl_jtwZ (y z : Nat) : cl (jtwZ y z) = 2 * (cl y * cl z) := by rw [jtwZ, cl_fm, cl_fm, cl_2]
theorem cl_jtwX (x y z : Nat) : cl (jtwX x y z) = 3 * ((cl x - cl z * cl z) * (cl x + cl z * cl z)) * (3 * ((cl x - cl z * cl z) * (cl x + cl z * cl z))) - (4 * (cl x * (cl y * cl y)) + 4 * (cl x * (cl y * cl y))) := by
 rw [jtwX]; simp only [cl_fs, cl_fa, cl_fm, cl_3, cl_4]
theorem cl_jtwY (x y z : Nat) : cl (jtwY x y z) = 3 * ((cl x - cl z * cl z) * (cl x + cl z * cl z)) * (4 * (cl x * (cl y * cl y)) - cl (jtwX x y z)) - 8 * (cl y * cl y * (cl y * cl y)) := by
 rw [jtwY]; simp only [cl_fs, cl_fa, cl_fm, cl_3, cl_4, cl_8]
theorem rep_tw {t : Tr} {P : Pt} (h : Rep t P) (hP : onP P) : Rep (jtw t) (aadd P P) := by
 obtain ⟨X, Y, Z⟩ := t
 match P with
 | none =>
  have h0 : cl Z = 0 := h
  show cl (jtwZ Y Z) = 0
  rw [cl_jtwZ, h0, mul_0', mul_0']
 | some (x, y) =>
  obtain ⟨hz, hx, hy⟩ := h
  have hz : cl Z ≠ 0 := hz
  have hx : cl X = x * (cl Z * cl Z) := hx
  have hy : cl Y = y * (cl Z * cl Z * cl Z) := hy
  have hon : onE x y := hP
  rw [aadd_some]
  by_cases hyy : y = - y
  ·rw [if_pos ⟨rfl, hyy⟩]
   have h0 := dbl0 hyy
   show cl (jtwZ Y Z) = 0
   rw [cl_jtwZ, hy, h0]
   grobner
  ·rw [if_neg fun h => hyy h.2]
   have hn : ¬ (x = x ∧ y = - y) := fun h => hyy h.2
   have hs := tang2 (sl_of hon hon hn).tang
   generalize slope x y x y = s at hs
   have hm := tw_m (z := cl Z) hs
   have eZ : cl (jtwZ Y Z) = 2 * (y * (cl Z * cl Z * cl Z) * cl Z) := by rw [cl_jtwZ, hy]
   have eX : cl (jtwX X Y Z) = (s * s - x - x) * (cl (jtwZ Y Z) * cl (jtwZ Y Z)) := by
    rw [cl_jtwX, eZ, hx, hy, hm, tw_x]
   have eY : cl (jtwY X Y Z) = (s * (x - (s * s - x - x)) - y) * (cl (jtwZ Y Z) * cl (jtwZ Y Z) * cl (jtwZ Y Z)) := by
    rw [cl_jtwY, eX, eZ, hx, hy, hm, tw_y]
   refine ⟨?_, eX, eY⟩
   show cl (jtwZ Y Z) ≠ 0
   rw [eZ]
   have hy0 : y ≠ 0 := fun h => hyy (by rw [h, neg_0])
   exact mul_ne two_ne (mul_ne (mul_ne hy0 (mul_ne (mul_ne hz hz) hz)) hz)
theorem ad_h {x1 x2 a b : Fp} : x2 * (b * b) * (a * a) - x1 * (a * a) * (b * b) = (x2 - x1) * (a * b * (a * b)) := by grobner
theorem ad_r {y1 y2 a b : Fp} : y2 * (b * b * b) * (a * a * a) - y1 * (a * a * a) * (b * b * b) = (y2 - y1) * (a * b * (a * b) * (a * b)) := by grobner
theorem ad_u {x1 a b : Fp} : x1 * (a * a) * (b * b) = x1 * (a * b * (a * b)) := by grobner
theorem ad_s {y1 a b : Fp} : y1 * (a * a * a) * (b * b * b) = y1 * (a * b * (a * b) * (a * b)) := by grobner
theorem ad_x (x1 d w s : Fp) : s * d * (w * w * w) * (s * d * (w * w * w)) - d * (w * w) * (d * (w * w) * (d * (w * w))) - (x1 * (w * w) * (d * (w * w) * (d * (w * w))) + x1 * (w * w) * (d * (w * w) * (d * (w * w)))) =
  (s * s - x1 - (x1 + d)) * (d * (w * w) * w * (d * (w * w) * w)) := by grobner
theorem ad_y (x1 y1 d w s X : Fp) : s * d * (w * w * w) * (x1 * (w * w) * (d * (w * w) * (d * (w * w))) - X * (d * (w * w) * w * (d * (w * w) * w))) - y1 * (w * w * w) * (d * (w * w) * (d * (w * w) * (d * (w * w)))) =
  (s * (x1 - X) - y1) * (d * (w * w) * w * (d * (w * w) * w) * (d * (w * w) * w)) := by grobner
theorem sub_d (x1 x2 : Fp) : x1 + (x2 - x1) = x2 := by grobner
theorem sub_0 {a b : Fp} (h : a - b = 0) : b = a := by grobner
theorem rep_add {p q : Tr} {P Q : Pt} (hp : Rep p P) (hq : Rep q Q) (hP : onP P) (hQ : onP Q) (zp : ZL p) (zq : ZL q) : Rep (jad p q) (aadd P Q) := by
 unfold jad
 by_cases h1 : p.2.2 = 0
 ·rw [if_pos h1]
  match P with
  | none => rw [none_aadd]; exact hq
  | some (x, y) => exact absurd (by rw [h1]; exact cl_0) hp.1
 rw [if_neg h1]
 by_cases h2 : q.2.2 = 0
 ·rw [if_pos h2]
  match Q with
  | none => rw [aadd_none]; exact hp
  | some (x, y) => exact absurd (by rw [h2]; exact cl_0) hq.1
 rw [if_neg h2]
 have n1 : cl p.2.2 ≠ 0 := fun h => h1 ((cl_lt0 zp).1 h)
 have n2 : cl q.2.2 ≠ 0 := fun h => h2 ((cl_lt0 zq).1 h)
 match P, Q with
 | none, _ => exact absurd hp n1
 | some _, none => exact absurd hq n2
 | some (x1, y1), some (x2, y2) =>
  obtain ⟨X1, Y1, Z1⟩ := p
  obtain ⟨X2, Y2, Z2⟩ := q
  obtain ⟨_, hx1, hy1⟩ := hp
  obtain ⟨_, hx2, hy2⟩ := hq
  dsimp only at *
  have o1 : onE x1 y1 := hP
  have o2 : onE x2 y2 := hQ
  have hw : cl Z1 * cl Z2 ≠ 0 := mul_ne n1 n2
  generalize hu : fm X1 (fm Z2 Z2) = u
  generalize hv : fm X2 (fm Z1 Z1) = v
  generalize hs : fm Y1 (fm (fm Z2 Z2) Z2) = s1
  generalize ht : fm Y2 (fm (fm Z1 Z1) Z1) = t1
  have eu : cl u = x1 * (cl Z1 * cl Z2 * (cl Z1 * cl Z2)) := by rw [← hu, cl_fm, cl_fm, hx1, ad_u]
  have es : cl s1 = y1 * (cl Z1 * cl Z2 * (cl Z1 * cl Z2) * (cl Z1 * cl Z2)) := by rw [← hs, cl_fm, cl_fm, cl_fm, hy1, ad_s]
  have eh : cl (fs v u) = (x2 - x1) * (cl Z1 * cl Z2 * (cl Z1 * cl Z2)) := by rw [cl_fs, ← hu, ← hv, cl_fm, cl_fm, cl_fm, cl_fm, hx1, hx2, ad_h]
  have er : cl (fs t1 s1) = (y2 - y1) * (cl Z1 * cl Z2 * (cl Z1 * cl Z2) * (cl Z1 * cl Z2)) := by rw [cl_fs, ← hs, ← ht, cl_fm, cl_fm, cl_fm, cl_fm, cl_fm, cl_fm, hy1, hy2, ad_r]
  have hh : fs v u < PP := fs_lt _ _
  have hr : fs t1 s1 < PP := fs_lt _ _
  generalize fs v u = H at eh hh
  generalize fs t1 s1 = R at er hr
  unfold jad2
  by_cases c1 : H = 0
  ·rw [if_pos c1]
   have hx : x1 = x2 := by
    rw [c1, cl_0] at eh
    exact sub_0 ((fp_mul0 eh.symm).resolve_right (mul_ne hw hw))
   by_cases c2 : R = 0
   ·rw [if_pos c2]
    have hy : y1 = y2 := by
     rw [c2, cl_0] at er
     exact sub_0 ((fp_mul0 er.symm).resolve_right (mul_ne (mul_ne hw hw) hw))
    subst hx hy
    exact rep_tw (t := (X1, Y1, Z1)) (P := some (x1, y1)) ⟨n1, hx1, hy1⟩ hP
   ·rw [if_neg c2]
    have hy : y1 ≠ y2 := fun e => c2 ((cl_lt0 hr).1 (by rw [er, e]; grobner))
    rw [aadd_some, if_pos ⟨hx, (ne_neg o1 o2 hx).resolve_left hy⟩]
    exact cl_0
  ·rw [if_neg c1]
   have hd : x2 - x1 ≠ 0 := fun e => c1 ((cl_lt0 hh).1 (by rw [eh, e]; grobner))
   have hn : ¬ (x1 = x2 ∧ y1 = - y2) := fun h => hd (by rw [h.1]; grobner)
   have hc := (sl_of o1 o2 hn).chord
   rw [aadd_some, if_neg hn]
   generalize slope x1 y1 x2 y2 = s at hc
   rw [← hc] at er
   have ez : cl (fm H (fm Z1 Z2)) = (x2 - x1) * (cl Z1 * cl Z2 * (cl Z1 * cl Z2)) * (cl Z1 * cl Z2) := by rw [cl_fm, cl_fm, eh]
   generalize cl Z1 * cl Z2 = w at *
   have ex : cl (fs (fs (fm R R) (fm H (fm H H))) (fa (fm u (fm H H)) (fm u (fm H H)))) = (s * s - x1 - x2) * (cl (fm H (fm Z1 Z2)) * cl (fm H (fm Z1 Z2))) := by
    have k := ad_x x1 (x2 - x1) w s
    rw [sub_d] at k
    rw [ez, ← k]
    simp only [cl_fs, cl_fa, cl_fm, eh, er, eu]
   refine ⟨?_, ex, ?_⟩
   ·show cl (fm H (fm Z1 Z2)) ≠ 0
    rw [ez]; exact mul_ne (mul_ne hd (mul_ne hw hw)) hw
   ·show cl (fs (fm R (fs (fm u (fm H H)) (fs (fs (fm R R) (fm H (fm H H))) (fa (fm u (fm H H)) (fm u (fm H H)))))) (fm s1 (fm H (fm H H)))) = (s * (x1 - (s * s - x1 - x2)) - y1) * (cl (fm H (fm Z1 Z2)) * cl (fm H (fm Z1 Z2)) * cl (fm H (fm Z1 Z2)))
    rw [cl_fs, cl_fm, cl_fs, ex, ez, ← ad_y]
    simp only [cl_fm, eh, er, eu, es]
def toA : Pt → Ap
 | none => (0, 0, true)
 | some (x, y) => (x.val, y.val, false)
def ofA (p : Ap) : Pt := bif p.2.2 then none else some (cl p.1, cl p.2.1)
theorem fi_cl (z : Nat) : cl (invV 0 z) = fi (cl z) := cl_inv z
theorem end_x {x z i : Fp} (h : i * z = 1) : x * (z * z) * (i * i) = x := by grobner
theorem end_y {y z i : Fp} (h : i * z = 1) : y * (z * z * z) * (i * i * i) = y := by grobner
theorem val_cl {a : Nat} {x : Fp} (ha : a < PP) (h : cl a = x) : a = x.val := by
 rw [← h, cl_val, Nat.mod_eq_of_lt ha]
theorem rep_end {t : Tr} {P : Pt} (h : Rep t P) : jend t = toA P := by
 unfold jend
 match P with
 | none =>
  have h0 : t.2.2 % modN 0 = 0 := cl_eq0.1 h
  rw [if_pos h0]; rfl
 | some (x, y) =>
  obtain ⟨hz, hx, hy⟩ := h
  have h0 : t.2.2 % modN 0 ≠ 0 := fun e => hz (cl_eq0.2 e)
  rw [if_neg h0]
  have hi := fi_mul hz
  rw [← fi_cl] at hi
  have ex : fm t.1 (fm (invV 0 t.2.2) (invV 0 t.2.2)) = x.val := val_cl (fm_lt _ _) (by rw [cl_fm, cl_fm, hx, end_x hi])
  have ey : fm t.2.1 (fm (fm (invV 0 t.2.2) (invV 0 t.2.2)) (invV 0 t.2.2)) = y.val := val_cl (fm_lt _ _) (by rw [cl_fm, cl_fm, cl_fm, hy, end_y hi])
  rw [ex, ey]; rfl
theorem on_ofA {p : Ap} (h : onT p = true) : onP (ofA p) := by
 obtain ⟨x, y, i⟩ := p
 cases i
 ·exact onB_on h
 ·trivial
theorem on_toA {P : Pt} (h : onP P) : onT (toA P) = true := by
 match P with
 | none => rfl
 | some (x, y) => exact onB_of x.isLt y.isLt (by show onE (cl x.val) (cl y.val); rw [cl_of, cl_of]; exact h)
theorem toA_ofA {p : Ap} (h : onT p = true) : toA (ofA p) = p := by
 obtain ⟨x, y, i⟩ := p
 cases i
 ·have hl := onB_lt h
  show ((cl x).val, (cl y).val, false) = _
  rw [cl_val, cl_val, Nat.mod_eq_of_lt hl.1, Nat.mod_eq_of_lt hl.2]
 ·have hz : x = 0 ∧ y = 0 := by
   have : (x == 0 && y == 0) = true := h
   simpa using this
  obtain ⟨rfl, rfl⟩ := hz
  rfl
theorem ofA_toA (P : Pt) : ofA (toA P) = P := by
 match P with
 | none => rfl
 | some (x, y) =>
  show some (cl x.val, cl y.val) = _
  rw [cl_of, cl_of]
theorem mul_11 (x : Fp) : x = x * (1 * 1) := by grobner
theorem mul_111 (x : Fp) : x = x * (1 * 1 * 1) := by grobner
theorem rep_of {p : Ap} : Rep (jof p.1 p.2.1 p.2.2) (ofA p) := by
 obtain ⟨x, y, i⟩ := p
 cases i
 ·refine ⟨?_, ?_, ?_⟩
  ·exact one_ne
  ·exact mul_11 _
  ·exact mul_111 _
 ·exact cl_0
theorem ZL_jof {x y : Nat} {i : Bool} : ZL (jof x y i) := by
 cases i
 ·exact one_lt_modN 0
 ·exact ZL_0
theorem ZL_jtw (t : Tr) : ZL (jtw t) := fm_lt _ _
theorem cadd_aff {p q : Ap} (hp : onT p = true) (hq : onT q = true) : cadd p q = toA (aadd (ofA p) (ofA q)) := by
 rw [(cadd_t hp hq).1]
 exact rep_end (rep_add rep_of rep_of (on_ofA hp) (on_ofA hq) ZL_jof ZL_jof)
theorem neg_val (x : Fp) : fn x.val = (-x).val := val_cl (fn_lt _) (by rw [cl_fn, cl_of])
def smul : Nat → Pt → Pt
 | 0, _ => none
 | n + 1, P => aadd (smul n P) P
theorem on_smul {P : Pt} (h : onP P) : ∀ n, onP (smul n P)
 | 0 => trivial
 | n + 1 => on_add (on_smul h n) h
theorem smul_add {P : Pt} (h : onP P) (m : Nat) : ∀ n, smul (m + n) P = aadd (smul m P) (smul n P)
 | 0 => (aadd_none _).symm
 | n + 1 => by
  show aadd (smul (m + n) P) P = aadd (smul m P) (aadd (smul n P) P)
  rw [smul_add h m n, aassoc (on_smul h m) (on_smul h n) h]
theorem smul_none : ∀ n, smul n none = none
 | 0 => rfl
 | n + 1 => by show aadd (smul n none) none = none; rw [smul_none n]; rfl
theorem rep_mul {t : Tr} {P : Pt} (h : Rep t P) (hP : onP P) (z : ZL t) (n : Nat) : Rep (jmul t n) (smul n P) := by
 induction n using Nat.strongRecOn with
 | ind n ih =>
  by_cases h0 : n = 0
  ·subst h0; rw [jmul_0]; exact cl_0
  have hr := ih (n / 2) (Nat.div_lt_self (Nat.pos_of_ne_zero h0) (by decide))
  have h2 := rep_tw hr (on_smul hP _)
  rw [← smul_add hP] at h2
  by_cases hb : n % 2 = 1
  ·rw [jmul_1 hb]
   have h3 := rep_add h2 h (on_smul hP _) hP (ZL_jtw _) z
   have e : smul n P = aadd (smul (n / 2 + n / 2) P) P := by
    show _ = smul (n / 2 + n / 2 + 1) P
    congr 1; omega
   rw [e]; exact h3
  ·rw [jmul_2 hb]
   have e : n = n / 2 + n / 2 := by omega
   rw [← e] at h2
   exact h2
theorem cmul_aff {p : Ap} (hp : onT p = true) (k : Nat) : cmul k p = toA (smul k (ofA p)) := by
 rw [(cmul_t hp).1]
 exact rep_end (rep_mul rep_of (on_ofA hp) ZL_jof k)
theorem on_cmul {p : Ap} (hp : onT p = true) (k : Nat) : onT (cmul k p) = true := by rw [cmul_aff hp]; exact on_toA (on_smul (on_ofA hp) k)
end Go.Proofs.YtmbcolbbekbccaaGreat
namespace Go.Proofs.YtmbcolbbekbccaaGreat
open Go Go.RowKit
def force {α : Type} (n : Nat) (k : Nat → α) : α := Nat.rec (k 0) (fun m _ => k (m + 1)) n
def stT {α : Type} (t : Tr) (k : Tr → α) : α := force t.1 fun a => force t.2.1 fun b => force t.2.2 fun c => k (a, b, c)
def jgo (g : Tr) (e : Nat) : Nat → Tr → Tr
 | 0, t => t
 | f + 1, t => stT (jtw t) fun s => bif Nat.beq (e / 2 ^ f % 2) 1 then stT (jad s g) (jgo g e f) else jgo g e f s
def PG : Pt := ofA GG
theorem on_PG : onP PG := on_ofA onT_GG
attribute [local irreducible] jgo
def q3 (s t : Tr) : Tr :=
 ((s.1 * t.1 + (PP - bb) * (s.2.1 * t.2.2 + s.2.2 * t.2.1)) % PP,
  (s.1 * t.2.1 + s.2.1 * t.1 + 3 * (s.2.1 * t.2.2 + s.2.2 * t.2.1) + (PP - bb) * (s.2.2 * t.2.2)) % PP,
  (s.1 * t.2.2 + s.2.1 * t.2.1 + s.2.2 * t.1 + 3 * (s.2.2 * t.2.2)) % PP)
def qgo (e : Nat) : Nat → Tr → Tr
 | 0, t => t
 | f + 1, t => stT (q3 t t) fun s => bif Nat.beq (e / 2 ^ f % 2) 1 then stT (q3 s (0, 1, 0)) (qgo e f) else qgo e f s
attribute [local irreducible] qgo
def code : Pt → Nat
 | none => 2 * PP
 | some (x, y) => 2 * x.val + y.val % 2
end Go.Proofs.YtmbcolbbekbccaaGreat
namespace Go.Proofs.YtmbcolbbekbccaaGreat
open Go Go.RowKit
def nn : Nat := modN 1
theorem nn_pos : 0 < nn := modN_pos 1
theorem onT_G : onT GG = true := onT_GG
end Go.Proofs.YtmbcolbbekbccaaGreat
namespace Go.Proofs.YtmbcolbbekbccaaGreat
open Go Go.RowKit
theorem nn_lt2 : nn < two256 := (mod_modN 1).2
theorem tvbeq {A B : Nat} (hA : A < two256) (hB : B < two256) : (tv A == tv B) = (A == B) := by rw [beq_w4, nv_tv hA, nv_tv hB]
theorem tvbne {A B : Nat} (hA : A < two256) (hB : B < two256) : (tv A != tv B) = (A != B) := by rw [bne, tvbeq hA hB]; rfl
theorem mod_lt2 (a : Nat) : a % nn < two256 := Nat.lt_trans (Nat.mod_lt _ nn_pos) nn_lt2
theorem add_p {a b : Nat} (ha : a < two256) (hb : b < two256) : field_Add_p 1 (tv a) (tv b) = some (tv ((a + b) % nn)) := by
 unfold field_Add_p; rw [nv_tv ha, nv_tv hb]; rfl
theorem zero_p : sign_zero_p = some (tv 0) := rfl
def fineB (a : Nat) : Bool := a != 0 && decide (a < nn)
theorem fine_ok {a : Nat} (ha : a < two256) : sign_fine_p (tv a) = some (fineB a) := by
 unfold sign_fine_p
 rw [zero_p, some_bind, tvbne ha two256_pos, fineB]
 cases h : a != 0 with
 | false => rfl
 | true =>
  simp only [cond_true, some_bind, Bool.true_and]
  rw [add_p ha two256_pos, some_bind, tvbeq (mod_lt2 _) ha, Nat.add_zero]
  congr 1
  by_cases hl : a < nn
  ·rw [Nat.mod_eq_of_lt hl, decide_eq_true hl]; simp
  ·rw [decide_eq_false hl, beq_eq_false_iff_ne]
   have := Nat.mod_lt a nn_pos
   omega
theorem fineB_iff {a : Nat} : fineB a = true ↔ a ≠ 0 ∧ a < nn := by simp [fineB]
theorem base_p : curve_Base_p = some (ptW GG) := rfl
theorem apT_W {t : Ap} (h : AL t) : apT (ptW t) = t := apT_ptW h.1 h.2
theorem times_p {k : Nat} (hk : k < two256) : sign_times_p (tv k) = some (ptW (cmul k GG)) := by
 unfold sign_times_p curve_Mul_p
 rw [base_p, some_bind, nv_tv hk, apT_W AL_GG, some_bind]
end Go.Proofs.YtmbcolbbekbccaaGreat
