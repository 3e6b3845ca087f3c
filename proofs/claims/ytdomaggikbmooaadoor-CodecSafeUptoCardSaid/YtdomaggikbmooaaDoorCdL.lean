/- What some functions compute, and that they do. Conditions: as each theorem says. -/
import Derived.Test.YtdomaggikbmooaaDoorCdC
namespace Go.Proofs.YtdomaggikbmooaaDoor
open Go Go.RowKit
attribute [local irreducible] wpList wpT Code.wp Calls Code.rounds
theorem is11 : IsFn Tryd.prog 11 := isFn Tryd.func11 (by kernel_rfl) (by kernel_rfl)
theorem is12 : IsFn Tryd.prog 12 := isFn Tryd.func12 (by kernel_rfl) (by kernel_rfl)
theorem is13 : IsFn Tryd.prog 13 := isFn Tryd.func13 (by kernel_rfl) (by kernel_rfl)
theorem is14 : IsFn Tryd.prog 14 := isFn Tryd.func14 (by kernel_rfl) (by kernel_rfl)
theorem is15 : IsFn Tryd.prog 15 := isFn Tryd.func15 (by kernel_rfl) (by kernel_rfl)
theorem is16 : IsFn Tryd.prog 16 := isFn Tryd.func16 (by kernel_rfl) (by kernel_rfl)
theorem is17 : IsFn Tryd.prog 17 := isFn Tryd.func17 (by kernel_rfl) (by kernel_rfl)
theorem is18 : IsFn Tryd.prog 18 := isFn Tryd.func18 (by kernel_rfl) (by kernel_rfl)
theorem is22 : IsFn Tryd.prog 22 := isFn Tryd.func22 (by kernel_rfl) (by kernel_rfl)
theorem is24 : IsFn Tryd.prog 24 := isFn Tryd.func24 (by kernel_rfl) (by kernel_rfl)
theorem is25 : IsFn Tryd.prog 25 := isFn Tryd.func25 (by kernel_rfl) (by kernel_rfl)
theorem is26 : IsFn Tryd.prog 26 := isFn Tryd.func26 (by kernel_rfl) (by kernel_rfl)
theorem is27 : IsFn Tryd.prog 27 := isFn Tryd.func27 (by kernel_rfl) (by kernel_rfl)
theorem is28 : IsFn Tryd.prog 28 := isFn Tryd.func28 (by kernel_rfl) (by kernel_rfl)
theorem is29 : IsFn Tryd.prog 29 := isFn Tryd.func29 (by kernel_rfl) (by kernel_rfl)
theorem is30 : IsFn Tryd.prog 30 := isFn Tryd.func30 (by kernel_rfl) (by kernel_rfl)
def seneschallaw01_awake_p  : Option (Bool) :=
  Option.bind (codec_FromHex_p ([48, 48, 102, 102, 54, 49] : List UInt8)) fun y1 => Option.bind (codec_FromBase64_p ([45, 95, 56] : List UInt8)) fun y2 => Option.bind (codec_FromBase64_p ([90, 104] : List UInt8)) fun y3 => Option.bind (codec_FromPercent_p ([97, 37, 50, 48, 98, 37, 50, 102] : List UInt8)) fun y4 => Option.bind (codec_FromPercent_p ([37, 52] : List UInt8)) fun y5 => Option.bind (codec_Form_p ([(([97] : List UInt8), ([49, 32, 50] : List UInt8)), (([98] : List UInt8), ([38] : List UInt8))] : List ((List UInt8) × (List UInt8)))) fun y6 => Option.bind (codec_FromForm_p ([97, 61, 49, 43, 50, 38, 98, 61, 37, 50, 54] : List UInt8)) fun y7 => Option.bind (codec_FromForm_p ([97, 38, 38, 98] : List UInt8)) fun y8 => Option.bind (codec_FromHex_p ([48] : List UInt8)) fun y9 => Option.bind (codec_Get_p y7.1 ([98] : List UInt8)) fun y10 => Option.bind (bif (bif (bif (bif (bif (bif (bif (bif (bif (bif (bif (bif (bif (bif (bif (bif (y1.1 == ([0, 255, 97] : List UInt8)) then (y1.2 == 0) else false) then (y2.1 == ([251, 255] : List UInt8)) else false) then (y2.2 == 0) else false) then (y3.2 == 11) else false) then (y4.1 == ([97, 32, 98, 47] : List UInt8)) else false) then (y4.2 == 0) else false) then (y5.2 == 12) else false) then (y6.1 == ([97, 61, 49, 43, 50, 38, 98, 61, 37, 50, 54] : List UInt8)) else false) then (y6.2 == 0) else false) then (((y7.1).length : Int) == 2) else false) then (y7.2 == 0) else false) then (y8.2 == 13) else false) then (y9.2 == 10) else false) then (y10.1 == ([38] : List UInt8)) else false) then (y10.2 == 1) else false) then (Option.bind (codec_Hex_p ([255] : List UInt8)) fun y11 => some ((y11 == ([102, 102] : List UInt8)))) else (some (false))) (fun t1 => Option.bind (bif t1 then (Option.bind (codec_Base64_p ([102, 111] : List UInt8)) fun y12 => some ((y12 == ([90, 109, 56] : List UInt8)))) else (some (false))) (fun t2 => Option.bind (bif t2 then (Option.bind (codec_Percent_p ([47] : List UInt8)) fun y13 => some ((y13 == ([37, 50, 70] : List UInt8)))) else (some (false))) (fun t3 => some ((bif (bif (bif t3 then true else false) then true else false) then true else false)))))
theorem seneschallaw01_awake_c {S : Mem} {w : World} (hS : Sub S w) (hG : GV S)  {r : Bool} (hF : seneschallaw01_awake_p = some r) :
    Calls Tryd.prog 13 #[] w fun e w' => e = .returned (.bool (r)) ∧ Ext w w' := by
  refine enter (n := 146) Tryd.func13 rfl rfl rfl ?_
  have H := HS.start hS
  unfold seneschallaw01_awake_p at hF
  refine wp_seq_k ?_; intro K1 hK1
  refine wp_region_lit ?_
  refine p_val (r_assign (v := .bool (false)) rfl) ?_
  refine wpList_nil ?_
  refine x_norm ?_; refine hK1 _ _ ?_; clear hK1
  refine wp_seq_k ?_; intro K2 hK2
  refine wp_region_lit ?_
  obtain ⟨y1, e1, hF⟩ := bnd hF
  refine p_call (l := [str (([48, 48, 102, 102, 54, 49] : List UInt8))]) is11 rfl ?_
  refine (codec_FromHex_c H.sub e1).mono ?_; rintro _ w1 ⟨rfl, hx⟩; replace H := H.ext hx; clear hx
  refine p_val (r_move (v := .tuple #[str (y1.1), .int .i64 (y1.2)]) rfl) ?_
  refine p_val (r_extract (v := str (y1.1)) rfl rfl) ?_
  refine p_val (r_extract (v := .int .i64 (y1.2)) rfl rfl) ?_
  refine p_val (r_assign (v := str (y1.1)) rfl) ?_
  refine p_val (r_assign (v := .int .i64 (y1.2)) rfl) ?_
  refine wpList_nil ?_
  refine x_norm ?_; refine hK2 _ _ ?_; clear hK2
  refine wp_seq_k ?_; intro K3 hK3
  refine wp_region_lit ?_
  obtain ⟨y2, e2, hF⟩ := bnd hF
  refine p_call (l := [str (([45, 95, 56] : List UInt8))]) is16 rfl ?_
  refine (codec_FromBase64_c H.sub e2).mono ?_; rintro _ w2 ⟨rfl, hx⟩; replace H := H.ext hx; clear hx
  refine p_val (r_move (v := .tuple #[str (y2.1), .int .i64 (y2.2)]) rfl) ?_
  refine p_val (r_extract (v := str (y2.1)) rfl rfl) ?_
  refine p_val (r_extract (v := .int .i64 (y2.2)) rfl rfl) ?_
  refine p_val (r_assign (v := str (y2.1)) rfl) ?_
  refine p_val (r_assign (v := .int .i64 (y2.2)) rfl) ?_
  refine wpList_nil ?_
  refine x_norm ?_; refine hK3 _ _ ?_; clear hK3
  refine wp_seq_k ?_; intro K4 hK4
  refine wp_region_lit ?_
  obtain ⟨y3, e3, hF⟩ := bnd hF
  refine p_call (l := [str (([90, 104] : List UInt8))]) is16 rfl ?_
  refine (codec_FromBase64_c H.sub e3).mono ?_; rintro _ w3 ⟨rfl, hx⟩; replace H := H.ext hx; clear hx
  refine p_val (r_move (v := .tuple #[str (y3.1), .int .i64 (y3.2)]) rfl) ?_
  refine p_val (r_extract (v := str (y3.1)) rfl rfl) ?_
  refine p_val (r_extract (v := .int .i64 (y3.2)) rfl rfl) ?_
  refine p_val (r_assign (v := str (y3.1)) rfl) ?_
  refine p_val (r_assign (v := .int .i64 (y3.2)) rfl) ?_
  refine wpList_nil ?_
  refine x_norm ?_; refine hK4 _ _ ?_; clear hK4
  refine wp_seq_k ?_; intro K5 hK5
  refine wp_region_lit ?_
  obtain ⟨y4, e4, hF⟩ := bnd hF
  refine p_call (l := [str (([97, 37, 50, 48, 98, 37, 50, 102] : List UInt8))]) is20 rfl ?_
  refine (codec_FromPercent_c H.sub hG e4).mono ?_; rintro _ w4 ⟨rfl, hx⟩; replace H := H.ext hx; clear hx
  refine p_val (r_move (v := .tuple #[str (y4.1), .int .i64 (y4.2)]) rfl) ?_
  refine p_val (r_extract (v := str (y4.1)) rfl rfl) ?_
  refine p_val (r_extract (v := .int .i64 (y4.2)) rfl rfl) ?_
  refine p_val (r_assign (v := str (y4.1)) rfl) ?_
  refine p_val (r_assign (v := .int .i64 (y4.2)) rfl) ?_
  refine wpList_nil ?_
  refine x_norm ?_; refine hK5 _ _ ?_; clear hK5
  refine wp_seq_k ?_; intro K6 hK6
  refine wp_region_lit ?_
  obtain ⟨y5, e5, hF⟩ := bnd hF
  refine p_call (l := [str (([37, 52] : List UInt8))]) is20 rfl ?_
  refine (codec_FromPercent_c H.sub hG e5).mono ?_; rintro _ w5 ⟨rfl, hx⟩; replace H := H.ext hx; clear hx
  refine p_val (r_move (v := .tuple #[str (y5.1), .int .i64 (y5.2)]) rfl) ?_
  refine p_val (r_extract (v := str (y5.1)) rfl rfl) ?_
  refine p_val (r_extract (v := .int .i64 (y5.2)) rfl rfl) ?_
  refine p_val (r_assign (v := str (y5.1)) rfl) ?_
  refine p_val (r_assign (v := .int .i64 (y5.2)) rfl) ?_
  refine wpList_nil ?_
  refine x_norm ?_; refine hK6 _ _ ?_; clear hK6
  refine wp_seq_k ?_; intro K7 hK7
  refine wp_region_lit ?_
  refine p_val (r_build (vals := [(0, str (([97] : List UInt8))), (1, str (([49, 32, 50] : List UInt8)))]) (l := ([str (([97] : List UInt8))] ++ ([str (([49, 32, 50] : List UInt8))]))) tb34 rfl rfl) ?_
  refine p_val (r_build (vals := [(0, str (([98] : List UInt8))), (1, str (([38] : List UInt8)))]) (l := ([str (([98] : List UInt8))] ++ ([str (([38] : List UInt8))]))) tb34 rfl rfl) ?_
  have g1 : RL S (([str (([97] : List UInt8))] ++ ([str (([49, 32, 50] : List UInt8))])) ++ (([str (([98] : List UInt8))] ++ ([str (([38] : List UInt8))])) ++ ([] : List Value))) ([(([97] : List UInt8), ([49, 32, 50] : List UInt8)), (([98] : List UInt8), ([38] : List UInt8))] : List ((List UInt8) × (List UInt8))) := (RL.cons (rpP rpT rpT) (RL.cons (rpP rpT rpT) RL.nil))
  refine p_of1 (a_bslice (N := 2) (vals := [(0, .agg (([str (([97] : List UInt8))] ++ ([str (([49, 32, 50] : List UInt8))]))).toArray), (1, .agg (([str (([98] : List UInt8))] ++ ([str (([38] : List UInt8))]))).toArray)]) (l := (([str (([97] : List UInt8))] ++ ([str (([49, 32, 50] : List UInt8))])) ++ (([str (([98] : List UInt8))] ++ ([str (([38] : List UInt8))])) ++ ([] : List Value)))) tn28 H rfl rfl rfl g1.len) ?_; clear H; intro w6 v1 H
  generalize (([str (([97] : List UInt8))] ++ ([str (([49, 32, 50] : List UInt8))])) ++ (([str (([98] : List UInt8))] ++ ([str (([38] : List UInt8))])) ++ ([] : List Value))) = cs1 at H g1
  replace H : HS ⟨S, [], w⟩ S w6 [.osl (v1) (([(([97] : List UInt8), ([49, 32, 50] : List UInt8)), (([98] : List UInt8), ([38] : List UInt8))] : List ((List UInt8) × (List UInt8)))).length 2 cs1 [] 34] := H
  obtain ⟨y6, e6, hF⟩ := bnd hF
  refine p_call (l := [v1]) is24 rfl ?_
  refine (codec_Form_c (subMem w6) (RdS.ofOwn H (k := 0) rfl g1) e6).mono ?_; rintro _ w7 ⟨rfl, hx⟩; replace H := H.ext hx; clear hx
  refine p_val (r_move (v := .tuple #[str (y6.1), .int .i64 (y6.2)]) rfl) ?_
  refine p_val (r_extract (v := str (y6.1)) rfl rfl) ?_
  refine p_val (r_extract (v := .int .i64 (y6.2)) rfl rfl) ?_
  refine p_val (r_assign (v := str (y6.1)) rfl) ?_
  refine p_val (r_assign (v := .int .i64 (y6.2)) rfl) ?_
  refine wpList_nil ?_
  refine x_norm ?_; refine hK7 _ _ ?_; clear hK7
  refine wp_seq_k ?_; intro K8 hK8
  refine wp_region_lit ?_
  obtain ⟨y7, e7, hF⟩ := bnd hF
  refine p_call (l := [str (([97, 61, 49, 43, 50, 38, 98, 61, 37, 50, 54] : List UInt8))]) is26 rfl ?_
  refine (codec_FromForm_c (H.hand [] rfl) hG e7).mono ?_; rintro _ w8 ⟨S1, pv1, pcs1, prs1, rfl, H2, pg1⟩
  obtain ⟨H1, hle1⟩ := H.frame [] [0] rfl H2; clear H H2; have H := H1; clear H1
  replace hG := GV.mono hG hle1
  replace g1 := RL.mono g1 hle1
  replace H : HS ⟨S, [], w⟩ S1 w8 [.osl (pv1) (y7.1).length 2 pcs1 prs1 34, .osl (v1) (([(([97] : List UInt8), ([49, 32, 50] : List UInt8)), (([98] : List UInt8), ([38] : List UInt8))] : List ((List UInt8) × (List UInt8)))).length 2 cs1 [] 34] := H
  refine p_val (r_move (v := .tuple #[pv1, .int .i64 (y7.2)]) rfl) ?_
  refine p_val (r_extract (v := pv1) rfl rfl) ?_
  refine p_val (r_extract (v := .int .i64 (y7.2)) rfl rfl) ?_
  refine p_val (r_assign (v := pv1) rfl) ?_
  refine p_val (r_assign (v := .int .i64 (y7.2)) rfl) ?_
  refine wpList_nil ?_
  refine x_norm ?_; refine hK8 _ _ ?_; clear hK8
  refine wp_seq_k ?_; intro K9 hK9
  refine wp_region_lit ?_
  obtain ⟨y8, e8, hF⟩ := bnd hF
  refine p_call (l := [str (([97, 38, 38, 98] : List UInt8))]) is26 rfl ?_
  refine (codec_FromForm_c (H.hand [] rfl) hG e8).mono ?_; rintro _ w9 ⟨S2, pv2, pcs2, prs2, rfl, H2, pg2⟩
  obtain ⟨H1, hle2⟩ := H.frame [] [0, 1] rfl H2; clear H H2; have H := H1; clear H1
  replace hG := GV.mono hG hle2
  replace g1 := RL.mono g1 hle2
  replace pg1 := RL.mono pg1 hle2
  replace H : HS ⟨S, [], w⟩ S2 w9 [.osl (pv2) (y8.1).length 2 pcs2 prs2 34, .osl (pv1) (y7.1).length 2 pcs1 prs1 34, .osl (v1) (([(([97] : List UInt8), ([49, 32, 50] : List UInt8)), (([98] : List UInt8), ([38] : List UInt8))] : List ((List UInt8) × (List UInt8)))).length 2 cs1 [] 34] := H
  refine p_val (r_move (v := .tuple #[pv2, .int .i64 (y8.2)]) rfl) ?_
  refine p_val (r_extract (v := pv2) rfl rfl) ?_
  refine p_val (r_extract (v := .int .i64 (y8.2)) rfl rfl) ?_
  refine p_val (r_assign (v := pv2) rfl) ?_
  refine p_val (r_assign (v := .int .i64 (y8.2)) rfl) ?_
  refine wpList_nil ?_
  refine x_norm ?_; refine hK9 _ _ ?_; clear hK9
  refine wp_seq_k ?_; intro K10 hK10
  refine wp_region_lit ?_
  obtain ⟨y9, e9, hF⟩ := bnd hF
  refine p_call (l := [str (([48] : List UInt8))]) is11 rfl ?_
  refine (codec_FromHex_c H.sub e9).mono ?_; rintro _ w10 ⟨rfl, hx⟩; replace H := H.ext hx; clear hx
  refine p_val (r_move (v := .tuple #[str (y9.1), .int .i64 (y9.2)]) rfl) ?_
  refine p_val (r_extract (v := str (y9.1)) rfl rfl) ?_
  refine p_val (r_extract (v := .int .i64 (y9.2)) rfl rfl) ?_
  refine p_val (r_assign (v := str (y9.1)) rfl) ?_
  refine p_val (r_assign (v := .int .i64 (y9.2)) rfl) ?_
  refine wpList_nil ?_
  refine x_norm ?_; refine hK10 _ _ ?_; clear hK10
  refine wp_seq_k ?_; intro K11 hK11
  refine wp_region_lit ?_
  refine p_val (r_move (v := pv1) rfl) ?_
  obtain ⟨y10, e10, hF⟩ := bnd hF
  refine p_call (l := [pv1, str (([98] : List UInt8))]) is29 rfl ?_
  refine (codec_Get_c (subMem w10) (RdS.ofOwn H (k := 1) rfl pg1) e10).mono ?_; rintro _ w11 ⟨rfl, hx⟩; replace H := H.ext hx; clear hx
  refine p_val (r_move (v := .tuple #[str (y10.1), .int .i64 (y10.2)]) rfl) ?_
  refine p_val (r_extract (v := str (y10.1)) rfl rfl) ?_
  refine p_val (r_extract (v := .int .i64 (y10.2)) rfl rfl) ?_
  refine p_val (r_assign (v := str (y10.1)) rfl) ?_
  refine p_val (r_assign (v := .int .i64 (y10.2)) rfl) ?_
  refine wpList_nil ?_
  refine x_norm ?_; refine hK11 _ _ ?_; clear hK11
  refine wp_seq_k ?_; intro K12 hK12
  refine wp_region_lit ?_
  refine p_val (r_move (v := str (y1.1)) rfl) ?_
  refine p_val (r_eqT (t := (y1.1 == ([0, 255, 97] : List UInt8))) rfl rfl rfl) ?_
  refine p_val (r_move (v := .bool ((y1.1 == ([0, 255, 97] : List UInt8)))) rfl) ?_
  refine nameL fun m1 k1 => ?_
  refine gs_at 3 fun K13 hK13 R4 hR4 => ?_
  have J1 : ∀ (m2 : FM), (∀ t, has [68, 69, 70] t = false → look m2 t = look m1 t) → look m2 70 = .bool ((bif (y1.1 == ([0, 255, 97] : List UInt8)) then (y1.2 == 0) else false)) → K13 m2 w11 := by
    intro m2 k2 q1
    have q2 : look m2 3 = str (y2.1) := (k2 3 rfl).trans (k1 3)
    have q3 : look m2 4 = .int .i64 (y2.2) := (k2 4 rfl).trans (k1 4)
    have q4 : look m2 6 = .int .i64 (y3.2) := (k2 6 rfl).trans (k1 6)
    have q5 : look m2 7 = str (y4.1) := (k2 7 rfl).trans (k1 7)
    have q6 : look m2 8 = .int .i64 (y4.2) := (k2 8 rfl).trans (k1 8)
    have q7 : look m2 10 = .int .i64 (y5.2) := (k2 10 rfl).trans (k1 10)
    have q8 : look m2 11 = str (y6.1) := (k2 11 rfl).trans (k1 11)
    have q9 : look m2 12 = .int .i64 (y6.2) := (k2 12 rfl).trans (k1 12)
    have q10 : look m2 13 = pv1 := (k2 13 rfl).trans (k1 13)
    have q11 : look m2 14 = .int .i64 (y7.2) := (k2 14 rfl).trans (k1 14)
    have q12 : look m2 16 = .int .i64 (y8.2) := (k2 16 rfl).trans (k1 16)
    have q13 : look m2 18 = .int .i64 (y9.2) := (k2 18 rfl).trans (k1 18)
    have q14 : look m2 19 = str (y10.1) := (k2 19 rfl).trans (k1 19)
    have q15 : look m2 20 = .int .i64 (y10.2) := (k2 20 rfl).trans (k1 20)
    refine hK13 _ _ ?_; clear hK13 hR4
    refine p_val (r_move (v := .bool ((bif (y1.1 == ([0, 255, 97] : List UInt8)) then (y1.2 == 0) else false))) q1) ?_
    refine nameL fun m3 k3 => ?_
    refine gs_at 3 fun K14 hK14 R5 hR5 => ?_
    have J2 : ∀ (m4 : FM), (∀ t, has [72, 73, 74] t = false → look m4 t = look m3 t) → look m4 74 = .bool ((bif (bif (y1.1 == ([0, 255, 97] : List UInt8)) then (y1.2 == 0) else false) then (y2.1 == ([251, 255] : List UInt8)) else false)) → K14 m4 w11 := by
      intro m4 k4 q16
      have q17 : look m4 4 = .int .i64 (y2.2) := (k4 4 rfl).trans ((k3 4).trans q3)
      have q18 : look m4 6 = .int .i64 (y3.2) := (k4 6 rfl).trans ((k3 6).trans q4)
      have q19 : look m4 7 = str (y4.1) := (k4 7 rfl).trans ((k3 7).trans q5)
      have q20 : look m4 8 = .int .i64 (y4.2) := (k4 8 rfl).trans ((k3 8).trans q6)
      have q21 : look m4 10 = .int .i64 (y5.2) := (k4 10 rfl).trans ((k3 10).trans q7)
      have q22 : look m4 11 = str (y6.1) := (k4 11 rfl).trans ((k3 11).trans q8)
      have q23 : look m4 12 = .int .i64 (y6.2) := (k4 12 rfl).trans ((k3 12).trans q9)
      have q24 : look m4 13 = pv1 := (k4 13 rfl).trans ((k3 13).trans q10)
      have q25 : look m4 14 = .int .i64 (y7.2) := (k4 14 rfl).trans ((k3 14).trans q11)
      have q26 : look m4 16 = .int .i64 (y8.2) := (k4 16 rfl).trans ((k3 16).trans q12)
      have q27 : look m4 18 = .int .i64 (y9.2) := (k4 18 rfl).trans ((k3 18).trans q13)
      have q28 : look m4 19 = str (y10.1) := (k4 19 rfl).trans ((k3 19).trans q14)
      have q29 : look m4 20 = .int .i64 (y10.2) := (k4 20 rfl).trans ((k3 20).trans q15)
      refine hK14 _ _ ?_; clear hK14 hR5
      refine p_val (r_move (v := .bool ((bif (bif (y1.1 == ([0, 255, 97] : List UInt8)) then (y1.2 == 0) else false) then (y2.1 == ([251, 255] : List UInt8)) else false))) q16) ?_
      refine nameL fun m5 k5 => ?_
      refine gs_at 3 fun K15 hK15 R6 hR6 => ?_
      have J3 : ∀ (m6 : FM), (∀ t, has [76, 77, 78] t = false → look m6 t = look m5 t) → look m6 78 = .bool ((bif (bif (bif (y1.1 == ([0, 255, 97] : List UInt8)) then (y1.2 == 0) else false) then (y2.1 == ([251, 255] : List UInt8)) else false) then (y2.2 == 0) else false)) → K15 m6 w11 := by
        intro m6 k6 q30
        have q31 : look m6 6 = .int .i64 (y3.2) := (k6 6 rfl).trans ((k5 6).trans q18)
        have q32 : look m6 7 = str (y4.1) := (k6 7 rfl).trans ((k5 7).trans q19)
        have q33 : look m6 8 = .int .i64 (y4.2) := (k6 8 rfl).trans ((k5 8).trans q20)
        have q34 : look m6 10 = .int .i64 (y5.2) := (k6 10 rfl).trans ((k5 10).trans q21)
        have q35 : look m6 11 = str (y6.1) := (k6 11 rfl).trans ((k5 11).trans q22)
        have q36 : look m6 12 = .int .i64 (y6.2) := (k6 12 rfl).trans ((k5 12).trans q23)
        have q37 : look m6 13 = pv1 := (k6 13 rfl).trans ((k5 13).trans q24)
        have q38 : look m6 14 = .int .i64 (y7.2) := (k6 14 rfl).trans ((k5 14).trans q25)
        have q39 : look m6 16 = .int .i64 (y8.2) := (k6 16 rfl).trans ((k5 16).trans q26)
        have q40 : look m6 18 = .int .i64 (y9.2) := (k6 18 rfl).trans ((k5 18).trans q27)
        have q41 : look m6 19 = str (y10.1) := (k6 19 rfl).trans ((k5 19).trans q28)
        have q42 : look m6 20 = .int .i64 (y10.2) := (k6 20 rfl).trans ((k5 20).trans q29)
        refine hK15 _ _ ?_; clear hK15 hR6
        refine p_val (r_move (v := .bool ((bif (bif (bif (y1.1 == ([0, 255, 97] : List UInt8)) then (y1.2 == 0) else false) then (y2.1 == ([251, 255] : List UInt8)) else false) then (y2.2 == 0) else false))) q30) ?_
        refine nameL fun m7 k7 => ?_
        refine gs_at 3 fun K16 hK16 R7 hR7 => ?_
        have J4 : ∀ (m8 : FM), (∀ t, has [80, 81, 82] t = false → look m8 t = look m7 t) → look m8 82 = .bool ((bif (bif (bif (bif (y1.1 == ([0, 255, 97] : List UInt8)) then (y1.2 == 0) else false) then (y2.1 == ([251, 255] : List UInt8)) else false) then (y2.2 == 0) else false) then (y3.2 == 11) else false)) → K16 m8 w11 := by
          intro m8 k8 q43
          have q44 : look m8 7 = str (y4.1) := (k8 7 rfl).trans ((k7 7).trans q32)
          have q45 : look m8 8 = .int .i64 (y4.2) := (k8 8 rfl).trans ((k7 8).trans q33)
          have q46 : look m8 10 = .int .i64 (y5.2) := (k8 10 rfl).trans ((k7 10).trans q34)
          have q47 : look m8 11 = str (y6.1) := (k8 11 rfl).trans ((k7 11).trans q35)
          have q48 : look m8 12 = .int .i64 (y6.2) := (k8 12 rfl).trans ((k7 12).trans q36)
          have q49 : look m8 13 = pv1 := (k8 13 rfl).trans ((k7 13).trans q37)
          have q50 : look m8 14 = .int .i64 (y7.2) := (k8 14 rfl).trans ((k7 14).trans q38)
          have q51 : look m8 16 = .int .i64 (y8.2) := (k8 16 rfl).trans ((k7 16).trans q39)
          have q52 : look m8 18 = .int .i64 (y9.2) := (k8 18 rfl).trans ((k7 18).trans q40)
          have q53 : look m8 19 = str (y10.1) := (k8 19 rfl).trans ((k7 19).trans q41)
          have q54 : look m8 20 = .int .i64 (y10.2) := (k8 20 rfl).trans ((k7 20).trans q42)
          refine hK16 _ _ ?_; clear hK16 hR7
          refine p_val (r_move (v := .bool ((bif (bif (bif (bif (y1.1 == ([0, 255, 97] : List UInt8)) then (y1.2 == 0) else false) then (y2.1 == ([251, 255] : List UInt8)) else false) then (y2.2 == 0) else false) then (y3.2 == 11) else false))) q43) ?_
          refine nameL fun m9 k9 => ?_
          refine gs_at 3 fun K17 hK17 R8 hR8 => ?_
          have J5 : ∀ (m10 : FM), (∀ t, has [84, 85, 86] t = false → look m10 t = look m9 t) → look m10 86 = .bool ((bif (bif (bif (bif (bif (y1.1 == ([0, 255, 97] : List UInt8)) then (y1.2 == 0) else false) then (y2.1 == ([251, 255] : List UInt8)) else false) then (y2.2 == 0) else false) then (y3.2 == 11) else false) then (y4.1 == ([97, 32, 98, 47] : List UInt8)) else false)) → K17 m10 w11 := by
            intro m10 k10 q55
            have q56 : look m10 8 = .int .i64 (y4.2) := (k10 8 rfl).trans ((k9 8).trans q45)
            have q57 : look m10 10 = .int .i64 (y5.2) := (k10 10 rfl).trans ((k9 10).trans q46)
            have q58 : look m10 11 = str (y6.1) := (k10 11 rfl).trans ((k9 11).trans q47)
            have q59 : look m10 12 = .int .i64 (y6.2) := (k10 12 rfl).trans ((k9 12).trans q48)
            have q60 : look m10 13 = pv1 := (k10 13 rfl).trans ((k9 13).trans q49)
            have q61 : look m10 14 = .int .i64 (y7.2) := (k10 14 rfl).trans ((k9 14).trans q50)
            have q62 : look m10 16 = .int .i64 (y8.2) := (k10 16 rfl).trans ((k9 16).trans q51)
            have q63 : look m10 18 = .int .i64 (y9.2) := (k10 18 rfl).trans ((k9 18).trans q52)
            have q64 : look m10 19 = str (y10.1) := (k10 19 rfl).trans ((k9 19).trans q53)
            have q65 : look m10 20 = .int .i64 (y10.2) := (k10 20 rfl).trans ((k9 20).trans q54)
            refine hK17 _ _ ?_; clear hK17 hR8
            refine p_val (r_move (v := .bool ((bif (bif (bif (bif (bif (y1.1 == ([0, 255, 97] : List UInt8)) then (y1.2 == 0) else false) then (y2.1 == ([251, 255] : List UInt8)) else false) then (y2.2 == 0) else false) then (y3.2 == 11) else false) then (y4.1 == ([97, 32, 98, 47] : List UInt8)) else false))) q55) ?_
            refine nameL fun m11 k11 => ?_
            refine gs_at 3 fun K18 hK18 R9 hR9 => ?_
            have J6 : ∀ (m12 : FM), (∀ t, has [88, 89, 90] t = false → look m12 t = look m11 t) → look m12 90 = .bool ((bif (bif (bif (bif (bif (bif (y1.1 == ([0, 255, 97] : List UInt8)) then (y1.2 == 0) else false) then (y2.1 == ([251, 255] : List UInt8)) else false) then (y2.2 == 0) else false) then (y3.2 == 11) else false) then (y4.1 == ([97, 32, 98, 47] : List UInt8)) else false) then (y4.2 == 0) else false)) → K18 m12 w11 := by
              intro m12 k12 q66
              have q67 : look m12 10 = .int .i64 (y5.2) := (k12 10 rfl).trans ((k11 10).trans q57)
              have q68 : look m12 11 = str (y6.1) := (k12 11 rfl).trans ((k11 11).trans q58)
              have q69 : look m12 12 = .int .i64 (y6.2) := (k12 12 rfl).trans ((k11 12).trans q59)
              have q70 : look m12 13 = pv1 := (k12 13 rfl).trans ((k11 13).trans q60)
              have q71 : look m12 14 = .int .i64 (y7.2) := (k12 14 rfl).trans ((k11 14).trans q61)
              have q72 : look m12 16 = .int .i64 (y8.2) := (k12 16 rfl).trans ((k11 16).trans q62)
              have q73 : look m12 18 = .int .i64 (y9.2) := (k12 18 rfl).trans ((k11 18).trans q63)
              have q74 : look m12 19 = str (y10.1) := (k12 19 rfl).trans ((k11 19).trans q64)
              have q75 : look m12 20 = .int .i64 (y10.2) := (k12 20 rfl).trans ((k11 20).trans q65)
              refine hK18 _ _ ?_; clear hK18 hR9
              refine p_val (r_move (v := .bool ((bif (bif (bif (bif (bif (bif (y1.1 == ([0, 255, 97] : List UInt8)) then (y1.2 == 0) else false) then (y2.1 == ([251, 255] : List UInt8)) else false) then (y2.2 == 0) else false) then (y3.2 == 11) else false) then (y4.1 == ([97, 32, 98, 47] : List UInt8)) else false) then (y4.2 == 0) else false))) q66) ?_
              refine nameL fun m13 k13 => ?_
              refine gs_at 3 fun K19 hK19 R10 hR10 => ?_
              have J7 : ∀ (m14 : FM), (∀ t, has [92, 93, 94] t = false → look m14 t = look m13 t) → look m14 94 = .bool ((bif (bif (bif (bif (bif (bif (bif (y1.1 == ([0, 255, 97] : List UInt8)) then (y1.2 == 0) else false) then (y2.1 == ([251, 255] : List UInt8)) else false) then (y2.2 == 0) else false) then (y3.2 == 11) else false) then (y4.1 == ([97, 32, 98, 47] : List UInt8)) else false) then (y4.2 == 0) else false) then (y5.2 == 12) else false)) → K19 m14 w11 := by
                intro m14 k14 q76
                have q77 : look m14 11 = str (y6.1) := (k14 11 rfl).trans ((k13 11).trans q68)
                have q78 : look m14 12 = .int .i64 (y6.2) := (k14 12 rfl).trans ((k13 12).trans q69)
                have q79 : look m14 13 = pv1 := (k14 13 rfl).trans ((k13 13).trans q70)
                have q80 : look m14 14 = .int .i64 (y7.2) := (k14 14 rfl).trans ((k13 14).trans q71)
                have q81 : look m14 16 = .int .i64 (y8.2) := (k14 16 rfl).trans ((k13 16).trans q72)
                have q82 : look m14 18 = .int .i64 (y9.2) := (k14 18 rfl).trans ((k13 18).trans q73)
                have q83 : look m14 19 = str (y10.1) := (k14 19 rfl).trans ((k13 19).trans q74)
                have q84 : look m14 20 = .int .i64 (y10.2) := (k14 20 rfl).trans ((k13 20).trans q75)
                refine hK19 _ _ ?_; clear hK19 hR10
                refine p_val (r_move (v := .bool ((bif (bif (bif (bif (bif (bif (bif (y1.1 == ([0, 255, 97] : List UInt8)) then (y1.2 == 0) else false) then (y2.1 == ([251, 255] : List UInt8)) else false) then (y2.2 == 0) else false) then (y3.2 == 11) else false) then (y4.1 == ([97, 32, 98, 47] : List UInt8)) else false) then (y4.2 == 0) else false) then (y5.2 == 12) else false))) q76) ?_
                refine nameL fun m15 k15 => ?_
                refine gs_at 3 fun K20 hK20 R11 hR11 => ?_
                have J8 : ∀ (m16 : FM), (∀ t, has [96, 97, 98] t = false → look m16 t = look m15 t) → look m16 98 = .bool ((bif (bif (bif (bif (bif (bif (bif (bif (y1.1 == ([0, 255, 97] : List UInt8)) then (y1.2 == 0) else false) then (y2.1 == ([251, 255] : List UInt8)) else false) then (y2.2 == 0) else false) then (y3.2 == 11) else false) then (y4.1 == ([97, 32, 98, 47] : List UInt8)) else false) then (y4.2 == 0) else false) then (y5.2 == 12) else false) then (y6.1 == ([97, 61, 49, 43, 50, 38, 98, 61, 37, 50, 54] : List UInt8)) else false)) → K20 m16 w11 := by
                  intro m16 k16 q85
                  have q86 : look m16 12 = .int .i64 (y6.2) := (k16 12 rfl).trans ((k15 12).trans q78)
                  have q87 : look m16 13 = pv1 := (k16 13 rfl).trans ((k15 13).trans q79)
                  have q88 : look m16 14 = .int .i64 (y7.2) := (k16 14 rfl).trans ((k15 14).trans q80)
                  have q89 : look m16 16 = .int .i64 (y8.2) := (k16 16 rfl).trans ((k15 16).trans q81)
                  have q90 : look m16 18 = .int .i64 (y9.2) := (k16 18 rfl).trans ((k15 18).trans q82)
                  have q91 : look m16 19 = str (y10.1) := (k16 19 rfl).trans ((k15 19).trans q83)
                  have q92 : look m16 20 = .int .i64 (y10.2) := (k16 20 rfl).trans ((k15 20).trans q84)
                  refine hK20 _ _ ?_; clear hK20 hR11
                  refine p_val (r_move (v := .bool ((bif (bif (bif (bif (bif (bif (bif (bif (y1.1 == ([0, 255, 97] : List UInt8)) then (y1.2 == 0) else false) then (y2.1 == ([251, 255] : List UInt8)) else false) then (y2.2 == 0) else false) then (y3.2 == 11) else false) then (y4.1 == ([97, 32, 98, 47] : List UInt8)) else false) then (y4.2 == 0) else false) then (y5.2 == 12) else false) then (y6.1 == ([97, 61, 49, 43, 50, 38, 98, 61, 37, 50, 54] : List UInt8)) else false))) q85) ?_
                  refine nameL fun m17 k17 => ?_
                  refine gs_at 3 fun K21 hK21 R12 hR12 => ?_
                  have J9 : ∀ (m18 : FM), (∀ t, has [100, 101, 102] t = false → look m18 t = look m17 t) → look m18 102 = .bool ((bif (bif (bif (bif (bif (bif (bif (bif (bif (y1.1 == ([0, 255, 97] : List UInt8)) then (y1.2 == 0) else false) then (y2.1 == ([251, 255] : List UInt8)) else false) then (y2.2 == 0) else false) then (y3.2 == 11) else false) then (y4.1 == ([97, 32, 98, 47] : List UInt8)) else false) then (y4.2 == 0) else false) then (y5.2 == 12) else false) then (y6.1 == ([97, 61, 49, 43, 50, 38, 98, 61, 37, 50, 54] : List UInt8)) else false) then (y6.2 == 0) else false)) → K21 m18 w11 := by
                    intro m18 k18 q93
                    have q94 : look m18 13 = pv1 := (k18 13 rfl).trans ((k17 13).trans q87)
                    have q95 : look m18 14 = .int .i64 (y7.2) := (k18 14 rfl).trans ((k17 14).trans q88)
                    have q96 : look m18 16 = .int .i64 (y8.2) := (k18 16 rfl).trans ((k17 16).trans q89)
                    have q97 : look m18 18 = .int .i64 (y9.2) := (k18 18 rfl).trans ((k17 18).trans q90)
                    have q98 : look m18 19 = str (y10.1) := (k18 19 rfl).trans ((k17 19).trans q91)
                    have q99 : look m18 20 = .int .i64 (y10.2) := (k18 20 rfl).trans ((k17 20).trans q92)
                    refine hK21 _ _ ?_; clear hK21 hR12
                    refine p_val (r_move (v := .bool ((bif (bif (bif (bif (bif (bif (bif (bif (bif (y1.1 == ([0, 255, 97] : List UInt8)) then (y1.2 == 0) else false) then (y2.1 == ([251, 255] : List UInt8)) else false) then (y2.2 == 0) else false) then (y3.2 == 11) else false) then (y4.1 == ([97, 32, 98, 47] : List UInt8)) else false) then (y4.2 == 0) else false) then (y5.2 == 12) else false) then (y6.1 == ([97, 61, 49, 43, 50, 38, 98, 61, 37, 50, 54] : List UInt8)) else false) then (y6.2 == 0) else false))) q93) ?_
                    refine nameL fun m19 k19 => ?_
                    refine gs_at 4 fun K22 hK22 R13 hR13 => ?_
                    have J10 : ∀ (m20 : FM), (∀ t, has [104, 105, 106, 107] t = false → look m20 t = look m19 t) → look m20 107 = .bool ((bif (bif (bif (bif (bif (bif (bif (bif (bif (bif (y1.1 == ([0, 255, 97] : List UInt8)) then (y1.2 == 0) else false) then (y2.1 == ([251, 255] : List UInt8)) else false) then (y2.2 == 0) else false) then (y3.2 == 11) else false) then (y4.1 == ([97, 32, 98, 47] : List UInt8)) else false) then (y4.2 == 0) else false) then (y5.2 == 12) else false) then (y6.1 == ([97, 61, 49, 43, 50, 38, 98, 61, 37, 50, 54] : List UInt8)) else false) then (y6.2 == 0) else false) then (((y7.1).length : Int) == 2) else false)) → K22 m20 w11 := by
                      intro m20 k20 q100
                      have q101 : look m20 14 = .int .i64 (y7.2) := (k20 14 rfl).trans ((k19 14).trans q95)
                      have q102 : look m20 16 = .int .i64 (y8.2) := (k20 16 rfl).trans ((k19 16).trans q96)
                      have q103 : look m20 18 = .int .i64 (y9.2) := (k20 18 rfl).trans ((k19 18).trans q97)
                      have q104 : look m20 19 = str (y10.1) := (k20 19 rfl).trans ((k19 19).trans q98)
                      have q105 : look m20 20 = .int .i64 (y10.2) := (k20 20 rfl).trans ((k19 20).trans q99)
                      refine hK22 _ _ ?_; clear hK22 hR13
                      refine p_val (r_move (v := .bool ((bif (bif (bif (bif (bif (bif (bif (bif (bif (bif (y1.1 == ([0, 255, 97] : List UInt8)) then (y1.2 == 0) else false) then (y2.1 == ([251, 255] : List UInt8)) else false) then (y2.2 == 0) else false) then (y3.2 == 11) else false) then (y4.1 == ([97, 32, 98, 47] : List UInt8)) else false) then (y4.2 == 0) else false) then (y5.2 == 12) else false) then (y6.1 == ([97, 61, 49, 43, 50, 38, 98, 61, 37, 50, 54] : List UInt8)) else false) then (y6.2 == 0) else false) then (((y7.1).length : Int) == 2) else false))) q100) ?_
                      refine nameL fun m21 k21 => ?_
                      refine gs_at 3 fun K23 hK23 R14 hR14 => ?_
                      have J11 : ∀ (m22 : FM), (∀ t, has [109, 110, 111] t = false → look m22 t = look m21 t) → look m22 111 = .bool ((bif (bif (bif (bif (bif (bif (bif (bif (bif (bif (bif (y1.1 == ([0, 255, 97] : List UInt8)) then (y1.2 == 0) else false) then (y2.1 == ([251, 255] : List UInt8)) else false) then (y2.2 == 0) else false) then (y3.2 == 11) else false) then (y4.1 == ([97, 32, 98, 47] : List UInt8)) else false) then (y4.2 == 0) else false) then (y5.2 == 12) else false) then (y6.1 == ([97, 61, 49, 43, 50, 38, 98, 61, 37, 50, 54] : List UInt8)) else false) then (y6.2 == 0) else false) then (((y7.1).length : Int) == 2) else false) then (y7.2 == 0) else false)) → K23 m22 w11 := by
                        intro m22 k22 q106
                        have q107 : look m22 16 = .int .i64 (y8.2) := (k22 16 rfl).trans ((k21 16).trans q102)
                        have q108 : look m22 18 = .int .i64 (y9.2) := (k22 18 rfl).trans ((k21 18).trans q103)
                        have q109 : look m22 19 = str (y10.1) := (k22 19 rfl).trans ((k21 19).trans q104)
                        have q110 : look m22 20 = .int .i64 (y10.2) := (k22 20 rfl).trans ((k21 20).trans q105)
                        refine hK23 _ _ ?_; clear hK23 hR14
                        refine p_val (r_move (v := .bool ((bif (bif (bif (bif (bif (bif (bif (bif (bif (bif (bif (y1.1 == ([0, 255, 97] : List UInt8)) then (y1.2 == 0) else false) then (y2.1 == ([251, 255] : List UInt8)) else false) then (y2.2 == 0) else false) then (y3.2 == 11) else false) then (y4.1 == ([97, 32, 98, 47] : List UInt8)) else false) then (y4.2 == 0) else false) then (y5.2 == 12) else false) then (y6.1 == ([97, 61, 49, 43, 50, 38, 98, 61, 37, 50, 54] : List UInt8)) else false) then (y6.2 == 0) else false) then (((y7.1).length : Int) == 2) else false) then (y7.2 == 0) else false))) q106) ?_
                        refine nameL fun m23 k23 => ?_
                        refine gs_at 3 fun K24 hK24 R15 hR15 => ?_
                        have J12 : ∀ (m24 : FM), (∀ t, has [113, 114, 115] t = false → look m24 t = look m23 t) → look m24 115 = .bool ((bif (bif (bif (bif (bif (bif (bif (bif (bif (bif (bif (bif (y1.1 == ([0, 255, 97] : List UInt8)) then (y1.2 == 0) else false) then (y2.1 == ([251, 255] : List UInt8)) else false) then (y2.2 == 0) else false) then (y3.2 == 11) else false) then (y4.1 == ([97, 32, 98, 47] : List UInt8)) else false) then (y4.2 == 0) else false) then (y5.2 == 12) else false) then (y6.1 == ([97, 61, 49, 43, 50, 38, 98, 61, 37, 50, 54] : List UInt8)) else false) then (y6.2 == 0) else false) then (((y7.1).length : Int) == 2) else false) then (y7.2 == 0) else false) then (y8.2 == 13) else false)) → K24 m24 w11 := by
                          intro m24 k24 q111
                          have q112 : look m24 18 = .int .i64 (y9.2) := (k24 18 rfl).trans ((k23 18).trans q108)
                          have q113 : look m24 19 = str (y10.1) := (k24 19 rfl).trans ((k23 19).trans q109)
                          have q114 : look m24 20 = .int .i64 (y10.2) := (k24 20 rfl).trans ((k23 20).trans q110)
                          refine hK24 _ _ ?_; clear hK24 hR15
                          refine p_val (r_move (v := .bool ((bif (bif (bif (bif (bif (bif (bif (bif (bif (bif (bif (bif (y1.1 == ([0, 255, 97] : List UInt8)) then (y1.2 == 0) else false) then (y2.1 == ([251, 255] : List UInt8)) else false) then (y2.2 == 0) else false) then (y3.2 == 11) else false) then (y4.1 == ([97, 32, 98, 47] : List UInt8)) else false) then (y4.2 == 0) else false) then (y5.2 == 12) else false) then (y6.1 == ([97, 61, 49, 43, 50, 38, 98, 61, 37, 50, 54] : List UInt8)) else false) then (y6.2 == 0) else false) then (((y7.1).length : Int) == 2) else false) then (y7.2 == 0) else false) then (y8.2 == 13) else false))) q111) ?_
                          refine nameL fun m25 k25 => ?_
                          refine gs_at 3 fun K25 hK25 R16 hR16 => ?_
                          have J13 : ∀ (m26 : FM), (∀ t, has [117, 118, 119] t = false → look m26 t = look m25 t) → look m26 119 = .bool ((bif (bif (bif (bif (bif (bif (bif (bif (bif (bif (bif (bif (bif (y1.1 == ([0, 255, 97] : List UInt8)) then (y1.2 == 0) else false) then (y2.1 == ([251, 255] : List UInt8)) else false) then (y2.2 == 0) else false) then (y3.2 == 11) else false) then (y4.1 == ([97, 32, 98, 47] : List UInt8)) else false) then (y4.2 == 0) else false) then (y5.2 == 12) else false) then (y6.1 == ([97, 61, 49, 43, 50, 38, 98, 61, 37, 50, 54] : List UInt8)) else false) then (y6.2 == 0) else false) then (((y7.1).length : Int) == 2) else false) then (y7.2 == 0) else false) then (y8.2 == 13) else false) then (y9.2 == 10) else false)) → K25 m26 w11 := by
                            intro m26 k26 q115
                            have q116 : look m26 19 = str (y10.1) := (k26 19 rfl).trans ((k25 19).trans q113)
                            have q117 : look m26 20 = .int .i64 (y10.2) := (k26 20 rfl).trans ((k25 20).trans q114)
                            refine hK25 _ _ ?_; clear hK25 hR16
                            refine p_val (r_move (v := .bool ((bif (bif (bif (bif (bif (bif (bif (bif (bif (bif (bif (bif (bif (y1.1 == ([0, 255, 97] : List UInt8)) then (y1.2 == 0) else false) then (y2.1 == ([251, 255] : List UInt8)) else false) then (y2.2 == 0) else false) then (y3.2 == 11) else false) then (y4.1 == ([97, 32, 98, 47] : List UInt8)) else false) then (y4.2 == 0) else false) then (y5.2 == 12) else false) then (y6.1 == ([97, 61, 49, 43, 50, 38, 98, 61, 37, 50, 54] : List UInt8)) else false) then (y6.2 == 0) else false) then (((y7.1).length : Int) == 2) else false) then (y7.2 == 0) else false) then (y8.2 == 13) else false) then (y9.2 == 10) else false))) q115) ?_
                            refine nameL fun m27 k27 => ?_
                            refine gs_at 3 fun K26 hK26 R17 hR17 => ?_
                            have J14 : ∀ (m28 : FM), (∀ t, has [121, 122, 123] t = false → look m28 t = look m27 t) → look m28 123 = .bool ((bif (bif (bif (bif (bif (bif (bif (bif (bif (bif (bif (bif (bif (bif (y1.1 == ([0, 255, 97] : List UInt8)) then (y1.2 == 0) else false) then (y2.1 == ([251, 255] : List UInt8)) else false) then (y2.2 == 0) else false) then (y3.2 == 11) else false) then (y4.1 == ([97, 32, 98, 47] : List UInt8)) else false) then (y4.2 == 0) else false) then (y5.2 == 12) else false) then (y6.1 == ([97, 61, 49, 43, 50, 38, 98, 61, 37, 50, 54] : List UInt8)) else false) then (y6.2 == 0) else false) then (((y7.1).length : Int) == 2) else false) then (y7.2 == 0) else false) then (y8.2 == 13) else false) then (y9.2 == 10) else false) then (y10.1 == ([38] : List UInt8)) else false)) → K26 m28 w11 := by
                              intro m28 k28 q118
                              have q119 : look m28 20 = .int .i64 (y10.2) := (k28 20 rfl).trans ((k27 20).trans q117)
                              refine hK26 _ _ ?_; clear hK26 hR17
                              refine p_val (r_move (v := .bool ((bif (bif (bif (bif (bif (bif (bif (bif (bif (bif (bif (bif (bif (bif (y1.1 == ([0, 255, 97] : List UInt8)) then (y1.2 == 0) else false) then (y2.1 == ([251, 255] : List UInt8)) else false) then (y2.2 == 0) else false) then (y3.2 == 11) else false) then (y4.1 == ([97, 32, 98, 47] : List UInt8)) else false) then (y4.2 == 0) else false) then (y5.2 == 12) else false) then (y6.1 == ([97, 61, 49, 43, 50, 38, 98, 61, 37, 50, 54] : List UInt8)) else false) then (y6.2 == 0) else false) then (((y7.1).length : Int) == 2) else false) then (y7.2 == 0) else false) then (y8.2 == 13) else false) then (y9.2 == 10) else false) then (y10.1 == ([38] : List UInt8)) else false))) q118) ?_
                              refine nameL fun m29 k29 => ?_
                              refine gs_at 3 fun K27 hK27 R18 hR18 => ?_
                              have J15 : ∀ (m30 : FM), (∀ t, has [125, 126, 127] t = false → look m30 t = look m29 t) → look m30 127 = .bool ((bif (bif (bif (bif (bif (bif (bif (bif (bif (bif (bif (bif (bif (bif (bif (y1.1 == ([0, 255, 97] : List UInt8)) then (y1.2 == 0) else false) then (y2.1 == ([251, 255] : List UInt8)) else false) then (y2.2 == 0) else false) then (y3.2 == 11) else false) then (y4.1 == ([97, 32, 98, 47] : List UInt8)) else false) then (y4.2 == 0) else false) then (y5.2 == 12) else false) then (y6.1 == ([97, 61, 49, 43, 50, 38, 98, 61, 37, 50, 54] : List UInt8)) else false) then (y6.2 == 0) else false) then (((y7.1).length : Int) == 2) else false) then (y7.2 == 0) else false) then (y8.2 == 13) else false) then (y9.2 == 10) else false) then (y10.1 == ([38] : List UInt8)) else false) then (y10.2 == 1) else false)) → K27 m30 w11 := by
                                intro m30 k30 q120
                                refine hK27 _ _ ?_; clear hK27 hR18
                                refine p_val (r_move (v := .bool ((bif (bif (bif (bif (bif (bif (bif (bif (bif (bif (bif (bif (bif (bif (bif (y1.1 == ([0, 255, 97] : List UInt8)) then (y1.2 == 0) else false) then (y2.1 == ([251, 255] : List UInt8)) else false) then (y2.2 == 0) else false) then (y3.2 == 11) else false) then (y4.1 == ([97, 32, 98, 47] : List UInt8)) else false) then (y4.2 == 0) else false) then (y5.2 == 12) else false) then (y6.1 == ([97, 61, 49, 43, 50, 38, 98, 61, 37, 50, 54] : List UInt8)) else false) then (y6.2 == 0) else false) then (((y7.1).length : Int) == 2) else false) then (y7.2 == 0) else false) then (y8.2 == 13) else false) then (y9.2 == 10) else false) then (y10.1 == ([38] : List UInt8)) else false) then (y10.2 == 1) else false))) q120) ?_
                                refine nameL fun m31 k31 => ?_
                                refine gs_at 3 fun K28 hK28 R19 hR19 => ?_
                                obtain ⟨t1, hE1, hF1⟩ := bnd hF
                                have J18 : ∀ (m32 : FM) (w13 : World), (∀ t, has [129, 130, 131] t = false → look m32 t = look m31 t) → look m32 131 = .bool (t1) → HS ⟨S, [], w⟩ S2 w13 [.osl (pv2) (y8.1).length 2 pcs2 prs2 34, .osl (pv1) (y7.1).length 2 pcs1 prs1 34, .osl (v1) (([(([97] : List UInt8), ([49, 32, 50] : List UInt8)), (([98] : List UInt8), ([38] : List UInt8))] : List ((List UInt8) × (List UInt8)))).length 2 cs1 [] 34] → K28 m32 w13 := by
                                  clear H; intro m32 w13 k32 q121 H
                                  refine hK28 _ _ ?_
                                  refine p_val (r_move (v := .bool (t1)) q121) ?_
                                  refine nameL fun m33 k33 => ?_
                                  refine gs_at 3 fun K29 hK29 R20 hR20 => ?_
                                  obtain ⟨t2, hE2, hF2⟩ := bnd hF1
                                  have J17 : ∀ (m34 : FM) (w15 : World), (∀ t, has [133, 134, 135] t = false → look m34 t = look m33 t) → look m34 135 = .bool (t2) → HS ⟨S, [], w⟩ S2 w15 [.osl (pv2) (y8.1).length 2 pcs2 prs2 34, .osl (pv1) (y7.1).length 2 pcs1 prs1 34, .osl (v1) (([(([97] : List UInt8), ([49, 32, 50] : List UInt8)), (([98] : List UInt8), ([38] : List UInt8))] : List ((List UInt8) × (List UInt8)))).length 2 cs1 [] 34] → K29 m34 w15 := by
                                    clear H; intro m34 w15 k34 q122 H
                                    refine hK29 _ _ ?_
                                    refine p_val (r_move (v := .bool (t2)) q122) ?_
                                    refine nameL fun m35 k35 => ?_
                                    refine gs_at 3 fun K30 hK30 R21 hR21 => ?_
                                    obtain ⟨t3, hE3, hF3⟩ := bnd hF2
                                    have J16 : ∀ (m36 : FM) (w17 : World), (∀ t, has [137, 138, 139] t = false → look m36 t = look m35 t) → look m36 139 = .bool (t3) → HS ⟨S, [], w⟩ S2 w17 [.osl (pv2) (y8.1).length 2 pcs2 prs2 34, .osl (pv1) (y7.1).length 2 pcs1 prs1 34, .osl (v1) (([(([97] : List UInt8), ([49, 32, 50] : List UInt8)), (([98] : List UInt8), ([38] : List UInt8))] : List ((List UInt8) × (List UInt8)))).length 2 cs1 [] 34] → K30 m36 w17 := by
                                      clear H; intro m36 w17 k36 q123 H
                                      refine hK30 _ _ ?_
                                      refine p_val (r_move (v := .bool (t3)) q123) ?_
                                      refine p_val (r_pick (t := (bif t3 then true else false)) rfl rfl rfl rfl) ?_
                                      refine p_val (r_move (v := .bool ((bif t3 then true else false))) rfl) ?_
                                      refine p_val (r_pick (t := (bif (bif t3 then true else false) then true else false)) rfl rfl rfl rfl) ?_
                                      refine p_val (r_move (v := .bool ((bif (bif t3 then true else false) then true else false))) rfl) ?_
                                      refine p_val (r_pick (t := (bif (bif (bif t3 then true else false) then true else false) then true else false)) rfl rfl rfl rfl) ?_
                                      refine p_val (r_assign (v := .bool ((bif (bif (bif t3 then true else false) then true else false) then true else false))) rfl) ?_
                                      refine wpList_nil ?_
                                      refine x_norm ?_; refine hK12 _ _ ?_; clear hK12
                                      refine wp_ret ?_
                                      obtain rfl := Option.some.inj hF3
                                      refine e_1 rfl (q_tmp (v := .bool ((bif (bif (bif t3 then true else false) then true else false) then true else false))) rfl) ?_
                                      exact ⟨rfl, H.toExt⟩
                                    refine p_gs (j := 71) (gvl_at rfl rfl (k35 136)) (fun hb3 => ?_) (fun hb3 => ?_)
                                    · replace hE3 := cnd_t hE3 hb3
                                      refine p_want (gvl_at rfl rfl (k35 136)) hb3 ?_
                                      obtain ⟨y13, e13, hE3⟩ := bnd hE3
                                      refine p_call (l := [str (([47] : List UInt8))]) is22 rfl ?_
                                      refine (codec_Percent_c H.sub e13).mono ?_; rintro _ w16 ⟨rfl, hx⟩; replace H := H.ext hx; clear hx
                                      refine p_want (gvl_at rfl rfl (k35 136)) hb3 ?_
                                      refine p_val (r_eqT (t := (y13 == ([37, 50, 70] : List UInt8))) rfl rfl rfl) ?_
                                      refine p_val (r_pickt (v := .bool ((y13 == ([37, 50, 70] : List UInt8)))) (k35 136) hb3 rfl) ?_
                                      refine hR21 _ _ ?_
                                      replace H : HS ⟨S, [], w⟩ S2 w16 [.osl (pv2) (y8.1).length 2 pcs2 prs2 34, .osl (pv1) (y7.1).length 2 pcs1 prs1 34, .osl (v1) (([(([97] : List UInt8), ([49, 32, 50] : List UInt8)), (([98] : List UInt8), ([38] : List UInt8))] : List ((List UInt8) × (List UInt8)))).length 2 cs1 [] 34] := H
                                      obtain rfl := Option.some.inj hE3
                                      exact J16 _ _ (by (repeat (refine keep_cons rfl ?_)); exact fun _ _ => rfl) rfl H
                                    · replace hE3 := cnd_f hE3 hb3
                                      refine p_skip (gvl_at rfl rfl (k35 136)) hb3 ?_
                                      rw [put_fr]
                                      refine p_skip (gvl_at rfl rfl (k35 136)) hb3 ?_
                                      rw [put_fr]
                                      refine p_val (r_pickf (v := .bool (false)) (k35 136) hb3 rfl) ?_
                                      refine hR21 _ _ ?_
                                      replace H : HS ⟨S, [], w⟩ S2 w15 [.osl (pv2) (y8.1).length 2 pcs2 prs2 34, .osl (pv1) (y7.1).length 2 pcs1 prs1 34, .osl (v1) (([(([97] : List UInt8), ([49, 32, 50] : List UInt8)), (([98] : List UInt8), ([38] : List UInt8))] : List ((List UInt8) × (List UInt8)))).length 2 cs1 [] 34] := H
                                      obtain rfl := Option.some.inj hE3
                                      exact J16 _ _ (by (repeat (refine keep_cons rfl ?_)); exact fun _ _ => rfl) rfl H
                                  refine p_gs (j := 67) (gvl_at rfl rfl (k33 132)) (fun hb2 => ?_) (fun hb2 => ?_)
                                  · replace hE2 := cnd_t hE2 hb2
                                    refine p_want (gvl_at rfl rfl (k33 132)) hb2 ?_
                                    obtain ⟨y12, e12, hE2⟩ := bnd hE2
                                    refine p_call (l := [str (([102, 111] : List UInt8))]) is18 rfl ?_
                                    refine (codec_Base64_c H.sub e12).mono ?_; rintro _ w14 ⟨rfl, hx⟩; replace H := H.ext hx; clear hx
                                    refine p_want (gvl_at rfl rfl (k33 132)) hb2 ?_
                                    refine p_val (r_eqT (t := (y12 == ([90, 109, 56] : List UInt8))) rfl rfl rfl) ?_
                                    refine p_val (r_pickt (v := .bool ((y12 == ([90, 109, 56] : List UInt8)))) (k33 132) hb2 rfl) ?_
                                    refine hR20 _ _ ?_
                                    replace H : HS ⟨S, [], w⟩ S2 w14 [.osl (pv2) (y8.1).length 2 pcs2 prs2 34, .osl (pv1) (y7.1).length 2 pcs1 prs1 34, .osl (v1) (([(([97] : List UInt8), ([49, 32, 50] : List UInt8)), (([98] : List UInt8), ([38] : List UInt8))] : List ((List UInt8) × (List UInt8)))).length 2 cs1 [] 34] := H
                                    obtain rfl := Option.some.inj hE2
                                    exact J17 _ _ (by (repeat (refine keep_cons rfl ?_)); exact fun _ _ => rfl) rfl H
                                  · replace hE2 := cnd_f hE2 hb2
                                    refine p_skip (gvl_at rfl rfl (k33 132)) hb2 ?_
                                    rw [put_fr]
                                    refine p_skip (gvl_at rfl rfl (k33 132)) hb2 ?_
                                    rw [put_fr]
                                    refine p_val (r_pickf (v := .bool (false)) (k33 132) hb2 rfl) ?_
                                    refine hR20 _ _ ?_
                                    replace H : HS ⟨S, [], w⟩ S2 w13 [.osl (pv2) (y8.1).length 2 pcs2 prs2 34, .osl (pv1) (y7.1).length 2 pcs1 prs1 34, .osl (v1) (([(([97] : List UInt8), ([49, 32, 50] : List UInt8)), (([98] : List UInt8), ([38] : List UInt8))] : List ((List UInt8) × (List UInt8)))).length 2 cs1 [] 34] := H
                                    obtain rfl := Option.some.inj hE2
                                    exact J17 _ _ (by (repeat (refine keep_cons rfl ?_)); exact fun _ _ => rfl) rfl H
                                refine p_gs (j := 63) (gvl_at rfl rfl (k31 128)) (fun hb1 => ?_) (fun hb1 => ?_)
                                · replace hE1 := cnd_t hE1 hb1
                                  refine p_want (gvl_at rfl rfl (k31 128)) hb1 ?_
                                  obtain ⟨y11, e11, hE1⟩ := bnd hE1
                                  refine p_call (l := [str (([255] : List UInt8))]) is14 rfl ?_
                                  refine (codec_Hex_c H.sub e11).mono ?_; rintro _ w12 ⟨rfl, hx⟩; replace H := H.ext hx; clear hx
                                  refine p_want (gvl_at rfl rfl (k31 128)) hb1 ?_
                                  refine p_val (r_eqT (t := (y11 == ([102, 102] : List UInt8))) rfl rfl rfl) ?_
                                  refine p_val (r_pickt (v := .bool ((y11 == ([102, 102] : List UInt8)))) (k31 128) hb1 rfl) ?_
                                  refine hR19 _ _ ?_
                                  replace H : HS ⟨S, [], w⟩ S2 w12 [.osl (pv2) (y8.1).length 2 pcs2 prs2 34, .osl (pv1) (y7.1).length 2 pcs1 prs1 34, .osl (v1) (([(([97] : List UInt8), ([49, 32, 50] : List UInt8)), (([98] : List UInt8), ([38] : List UInt8))] : List ((List UInt8) × (List UInt8)))).length 2 cs1 [] 34] := H
                                  obtain rfl := Option.some.inj hE1
                                  exact J18 _ _ (by (repeat (refine keep_cons rfl ?_)); exact fun _ _ => rfl) rfl H
                                · replace hE1 := cnd_f hE1 hb1
                                  refine p_skip (gvl_at rfl rfl (k31 128)) hb1 ?_
                                  rw [put_fr]
                                  refine p_skip (gvl_at rfl rfl (k31 128)) hb1 ?_
                                  rw [put_fr]
                                  refine p_val (r_pickf (v := .bool (false)) (k31 128) hb1 rfl) ?_
                                  refine hR19 _ _ ?_
                                  replace H : HS ⟨S, [], w⟩ S2 w11 [.osl (pv2) (y8.1).length 2 pcs2 prs2 34, .osl (pv1) (y7.1).length 2 pcs1 prs1 34, .osl (v1) (([(([97] : List UInt8), ([49, 32, 50] : List UInt8)), (([98] : List UInt8), ([38] : List UInt8))] : List ((List UInt8) × (List UInt8)))).length 2 cs1 [] 34] := H
                                  obtain rfl := Option.some.inj hE1
                                  exact J18 _ _ (by (repeat (refine keep_cons rfl ?_)); exact fun _ _ => rfl) rfl H
                              refine p_gs (j := 59) (gvl_at rfl rfl (k29 124)) (fun hb4 => ?_) (fun hb4 => ?_)
                              · skip
                                refine p_want (gvl_at rfl rfl (k29 124)) hb4 ?_
                                refine p_val (r_move (v := .int .i64 (y10.2)) ((k29 20).trans q119)) ?_
                                refine p_want (gvl_at rfl rfl (k29 124)) hb4 ?_
                                refine p_val (r_eql (t := (y10.2 == 1)) rfl rfl rfl) ?_
                                refine p_val (r_pickt (v := .bool ((y10.2 == 1))) (k29 124) hb4 rfl) ?_
                                refine hR18 _ _ ?_
                                exact J15 _ (by (repeat (refine keep_cons rfl ?_)); exact fun _ _ => rfl) (show (.bool ((y10.2 == 1)) : Value) = .bool ((bif (bif (bif (bif (bif (bif (bif (bif (bif (bif (bif (bif (bif (bif (bif (y1.1 == ([0, 255, 97] : List UInt8)) then (y1.2 == 0) else false) then (y2.1 == ([251, 255] : List UInt8)) else false) then (y2.2 == 0) else false) then (y3.2 == 11) else false) then (y4.1 == ([97, 32, 98, 47] : List UInt8)) else false) then (y4.2 == 0) else false) then (y5.2 == 12) else false) then (y6.1 == ([97, 61, 49, 43, 50, 38, 98, 61, 37, 50, 54] : List UInt8)) else false) then (y6.2 == 0) else false) then (((y7.1).length : Int) == 2) else false) then (y7.2 == 0) else false) then (y8.2 == 13) else false) then (y9.2 == 10) else false) then (y10.1 == ([38] : List UInt8)) else false) then (y10.2 == 1) else false)) from congrArg Value.bool (by simp only [hb4, cond_true, cond_false]))
                              · skip
                                refine p_skip (gvl_at rfl rfl (k29 124)) hb4 ?_
                                rw [put_fr]
                                refine p_skip (gvl_at rfl rfl (k29 124)) hb4 ?_
                                rw [put_fr]
                                refine p_val (r_pickf (v := .bool (false)) (k29 124) hb4 rfl) ?_
                                refine hR18 _ _ ?_
                                exact J15 _ (by (repeat (refine keep_cons rfl ?_)); exact fun _ _ => rfl) (show (.bool (false) : Value) = .bool ((bif (bif (bif (bif (bif (bif (bif (bif (bif (bif (bif (bif (bif (bif (bif (y1.1 == ([0, 255, 97] : List UInt8)) then (y1.2 == 0) else false) then (y2.1 == ([251, 255] : List UInt8)) else false) then (y2.2 == 0) else false) then (y3.2 == 11) else false) then (y4.1 == ([97, 32, 98, 47] : List UInt8)) else false) then (y4.2 == 0) else false) then (y5.2 == 12) else false) then (y6.1 == ([97, 61, 49, 43, 50, 38, 98, 61, 37, 50, 54] : List UInt8)) else false) then (y6.2 == 0) else false) then (((y7.1).length : Int) == 2) else false) then (y7.2 == 0) else false) then (y8.2 == 13) else false) then (y9.2 == 10) else false) then (y10.1 == ([38] : List UInt8)) else false) then (y10.2 == 1) else false)) from congrArg Value.bool (by simp only [hb4, cond_true, cond_false]))
                            refine p_gs (j := 55) (gvl_at rfl rfl (k27 120)) (fun hb5 => ?_) (fun hb5 => ?_)
                            · skip
                              refine p_want (gvl_at rfl rfl (k27 120)) hb5 ?_
                              refine p_val (r_move (v := str (y10.1)) ((k27 19).trans q116)) ?_
                              refine p_want (gvl_at rfl rfl (k27 120)) hb5 ?_
                              refine p_val (r_eqT (t := (y10.1 == ([38] : List UInt8))) rfl rfl rfl) ?_
                              refine p_val (r_pickt (v := .bool ((y10.1 == ([38] : List UInt8)))) (k27 120) hb5 rfl) ?_
                              refine hR17 _ _ ?_
                              exact J14 _ (by (repeat (refine keep_cons rfl ?_)); exact fun _ _ => rfl) (show (.bool ((y10.1 == ([38] : List UInt8))) : Value) = .bool ((bif (bif (bif (bif (bif (bif (bif (bif (bif (bif (bif (bif (bif (bif (y1.1 == ([0, 255, 97] : List UInt8)) then (y1.2 == 0) else false) then (y2.1 == ([251, 255] : List UInt8)) else false) then (y2.2 == 0) else false) then (y3.2 == 11) else false) then (y4.1 == ([97, 32, 98, 47] : List UInt8)) else false) then (y4.2 == 0) else false) then (y5.2 == 12) else false) then (y6.1 == ([97, 61, 49, 43, 50, 38, 98, 61, 37, 50, 54] : List UInt8)) else false) then (y6.2 == 0) else false) then (((y7.1).length : Int) == 2) else false) then (y7.2 == 0) else false) then (y8.2 == 13) else false) then (y9.2 == 10) else false) then (y10.1 == ([38] : List UInt8)) else false)) from congrArg Value.bool (by simp only [hb5, cond_true, cond_false]))
                            · skip
                              refine p_skip (gvl_at rfl rfl (k27 120)) hb5 ?_
                              rw [put_fr]
                              refine p_skip (gvl_at rfl rfl (k27 120)) hb5 ?_
                              rw [put_fr]
                              refine p_val (r_pickf (v := .bool (false)) (k27 120) hb5 rfl) ?_
                              refine hR17 _ _ ?_
                              exact J14 _ (by (repeat (refine keep_cons rfl ?_)); exact fun _ _ => rfl) (show (.bool (false) : Value) = .bool ((bif (bif (bif (bif (bif (bif (bif (bif (bif (bif (bif (bif (bif (bif (y1.1 == ([0, 255, 97] : List UInt8)) then (y1.2 == 0) else false) then (y2.1 == ([251, 255] : List UInt8)) else false) then (y2.2 == 0) else false) then (y3.2 == 11) else false) then (y4.1 == ([97, 32, 98, 47] : List UInt8)) else false) then (y4.2 == 0) else false) then (y5.2 == 12) else false) then (y6.1 == ([97, 61, 49, 43, 50, 38, 98, 61, 37, 50, 54] : List UInt8)) else false) then (y6.2 == 0) else false) then (((y7.1).length : Int) == 2) else false) then (y7.2 == 0) else false) then (y8.2 == 13) else false) then (y9.2 == 10) else false) then (y10.1 == ([38] : List UInt8)) else false)) from congrArg Value.bool (by simp only [hb5, cond_true, cond_false]))
                          refine p_gs (j := 51) (gvl_at rfl rfl (k25 116)) (fun hb6 => ?_) (fun hb6 => ?_)
                          · skip
                            refine p_want (gvl_at rfl rfl (k25 116)) hb6 ?_
                            refine p_val (r_move (v := .int .i64 (y9.2)) ((k25 18).trans q112)) ?_
                            refine p_want (gvl_at rfl rfl (k25 116)) hb6 ?_
                            refine p_val (r_eql (t := (y9.2 == 10)) rfl rfl rfl) ?_
                            refine p_val (r_pickt (v := .bool ((y9.2 == 10))) (k25 116) hb6 rfl) ?_
                            refine hR16 _ _ ?_
                            exact J13 _ (by (repeat (refine keep_cons rfl ?_)); exact fun _ _ => rfl) (show (.bool ((y9.2 == 10)) : Value) = .bool ((bif (bif (bif (bif (bif (bif (bif (bif (bif (bif (bif (bif (bif (y1.1 == ([0, 255, 97] : List UInt8)) then (y1.2 == 0) else false) then (y2.1 == ([251, 255] : List UInt8)) else false) then (y2.2 == 0) else false) then (y3.2 == 11) else false) then (y4.1 == ([97, 32, 98, 47] : List UInt8)) else false) then (y4.2 == 0) else false) then (y5.2 == 12) else false) then (y6.1 == ([97, 61, 49, 43, 50, 38, 98, 61, 37, 50, 54] : List UInt8)) else false) then (y6.2 == 0) else false) then (((y7.1).length : Int) == 2) else false) then (y7.2 == 0) else false) then (y8.2 == 13) else false) then (y9.2 == 10) else false)) from congrArg Value.bool (by simp only [hb6, cond_true, cond_false]))
                          · skip
                            refine p_skip (gvl_at rfl rfl (k25 116)) hb6 ?_
                            rw [put_fr]
                            refine p_skip (gvl_at rfl rfl (k25 116)) hb6 ?_
                            rw [put_fr]
                            refine p_val (r_pickf (v := .bool (false)) (k25 116) hb6 rfl) ?_
                            refine hR16 _ _ ?_
                            exact J13 _ (by (repeat (refine keep_cons rfl ?_)); exact fun _ _ => rfl) (show (.bool (false) : Value) = .bool ((bif (bif (bif (bif (bif (bif (bif (bif (bif (bif (bif (bif (bif (y1.1 == ([0, 255, 97] : List UInt8)) then (y1.2 == 0) else false) then (y2.1 == ([251, 255] : List UInt8)) else false) then (y2.2 == 0) else false) then (y3.2 == 11) else false) then (y4.1 == ([97, 32, 98, 47] : List UInt8)) else false) then (y4.2 == 0) else false) then (y5.2 == 12) else false) then (y6.1 == ([97, 61, 49, 43, 50, 38, 98, 61, 37, 50, 54] : List UInt8)) else false) then (y6.2 == 0) else false) then (((y7.1).length : Int) == 2) else false) then (y7.2 == 0) else false) then (y8.2 == 13) else false) then (y9.2 == 10) else false)) from congrArg Value.bool (by simp only [hb6, cond_true, cond_false]))
                        refine p_gs (j := 47) (gvl_at rfl rfl (k23 112)) (fun hb7 => ?_) (fun hb7 => ?_)
                        · skip
                          refine p_want (gvl_at rfl rfl (k23 112)) hb7 ?_
                          refine p_val (r_move (v := .int .i64 (y8.2)) ((k23 16).trans q107)) ?_
                          refine p_want (gvl_at rfl rfl (k23 112)) hb7 ?_
                          refine p_val (r_eql (t := (y8.2 == 13)) rfl rfl rfl) ?_
                          refine p_val (r_pickt (v := .bool ((y8.2 == 13))) (k23 112) hb7 rfl) ?_
                          refine hR15 _ _ ?_
                          exact J12 _ (by (repeat (refine keep_cons rfl ?_)); exact fun _ _ => rfl) (show (.bool ((y8.2 == 13)) : Value) = .bool ((bif (bif (bif (bif (bif (bif (bif (bif (bif (bif (bif (bif (y1.1 == ([0, 255, 97] : List UInt8)) then (y1.2 == 0) else false) then (y2.1 == ([251, 255] : List UInt8)) else false) then (y2.2 == 0) else false) then (y3.2 == 11) else false) then (y4.1 == ([97, 32, 98, 47] : List UInt8)) else false) then (y4.2 == 0) else false) then (y5.2 == 12) else false) then (y6.1 == ([97, 61, 49, 43, 50, 38, 98, 61, 37, 50, 54] : List UInt8)) else false) then (y6.2 == 0) else false) then (((y7.1).length : Int) == 2) else false) then (y7.2 == 0) else false) then (y8.2 == 13) else false)) from congrArg Value.bool (by simp only [hb7, cond_true, cond_false]))
                        · skip
                          refine p_skip (gvl_at rfl rfl (k23 112)) hb7 ?_
                          rw [put_fr]
                          refine p_skip (gvl_at rfl rfl (k23 112)) hb7 ?_
                          rw [put_fr]
                          refine p_val (r_pickf (v := .bool (false)) (k23 112) hb7 rfl) ?_
                          refine hR15 _ _ ?_
                          exact J12 _ (by (repeat (refine keep_cons rfl ?_)); exact fun _ _ => rfl) (show (.bool (false) : Value) = .bool ((bif (bif (bif (bif (bif (bif (bif (bif (bif (bif (bif (bif (y1.1 == ([0, 255, 97] : List UInt8)) then (y1.2 == 0) else false) then (y2.1 == ([251, 255] : List UInt8)) else false) then (y2.2 == 0) else false) then (y3.2 == 11) else false) then (y4.1 == ([97, 32, 98, 47] : List UInt8)) else false) then (y4.2 == 0) else false) then (y5.2 == 12) else false) then (y6.1 == ([97, 61, 49, 43, 50, 38, 98, 61, 37, 50, 54] : List UInt8)) else false) then (y6.2 == 0) else false) then (((y7.1).length : Int) == 2) else false) then (y7.2 == 0) else false) then (y8.2 == 13) else false)) from congrArg Value.bool (by simp only [hb7, cond_true, cond_false]))
                      refine p_gs (j := 43) (gvl_at rfl rfl (k21 108)) (fun hb8 => ?_) (fun hb8 => ?_)
                      · skip
                        refine p_want (gvl_at rfl rfl (k21 108)) hb8 ?_
                        refine p_val (r_move (v := .int .i64 (y7.2)) ((k21 14).trans q101)) ?_
                        refine p_want (gvl_at rfl rfl (k21 108)) hb8 ?_
                        refine p_val (r_eql (t := (y7.2 == 0)) rfl rfl rfl) ?_
                        refine p_val (r_pickt (v := .bool ((y7.2 == 0))) (k21 108) hb8 rfl) ?_
                        refine hR14 _ _ ?_
                        exact J11 _ (by (repeat (refine keep_cons rfl ?_)); exact fun _ _ => rfl) (show (.bool ((y7.2 == 0)) : Value) = .bool ((bif (bif (bif (bif (bif (bif (bif (bif (bif (bif (bif (y1.1 == ([0, 255, 97] : List UInt8)) then (y1.2 == 0) else false) then (y2.1 == ([251, 255] : List UInt8)) else false) then (y2.2 == 0) else false) then (y3.2 == 11) else false) then (y4.1 == ([97, 32, 98, 47] : List UInt8)) else false) then (y4.2 == 0) else false) then (y5.2 == 12) else false) then (y6.1 == ([97, 61, 49, 43, 50, 38, 98, 61, 37, 50, 54] : List UInt8)) else false) then (y6.2 == 0) else false) then (((y7.1).length : Int) == 2) else false) then (y7.2 == 0) else false)) from congrArg Value.bool (by simp only [hb8, cond_true, cond_false]))
                      · skip
                        refine p_skip (gvl_at rfl rfl (k21 108)) hb8 ?_
                        rw [put_fr]
                        refine p_skip (gvl_at rfl rfl (k21 108)) hb8 ?_
                        rw [put_fr]
                        refine p_val (r_pickf (v := .bool (false)) (k21 108) hb8 rfl) ?_
                        refine hR14 _ _ ?_
                        exact J11 _ (by (repeat (refine keep_cons rfl ?_)); exact fun _ _ => rfl) (show (.bool (false) : Value) = .bool ((bif (bif (bif (bif (bif (bif (bif (bif (bif (bif (bif (y1.1 == ([0, 255, 97] : List UInt8)) then (y1.2 == 0) else false) then (y2.1 == ([251, 255] : List UInt8)) else false) then (y2.2 == 0) else false) then (y3.2 == 11) else false) then (y4.1 == ([97, 32, 98, 47] : List UInt8)) else false) then (y4.2 == 0) else false) then (y5.2 == 12) else false) then (y6.1 == ([97, 61, 49, 43, 50, 38, 98, 61, 37, 50, 54] : List UInt8)) else false) then (y6.2 == 0) else false) then (((y7.1).length : Int) == 2) else false) then (y7.2 == 0) else false)) from congrArg Value.bool (by simp only [hb8, cond_true, cond_false]))
                    refine p_gs (j := 38) (gvl_at rfl rfl (k19 103)) (fun hb9 => ?_) (fun hb9 => ?_)
                    · skip
                      refine p_want (gvl_at rfl rfl (k19 103)) hb9 ?_
                      refine p_val (r_move (v := pv1) ((k19 13).trans q94)) ?_
                      refine p_want (gvl_at rfl rfl (k19 103)) hb9 ?_
                      refine p_val (r_lenO u28 rfl H (k := 1) rfl rfl) ?_
                      refine p_want (gvl_at rfl rfl (k19 103)) hb9 ?_
                      refine p_val (r_eql (t := (((y7.1).length : Int) == 2)) rfl rfl rfl) ?_
                      refine p_val (r_pickt (v := .bool ((((y7.1).length : Int) == 2))) (k19 103) hb9 rfl) ?_
                      refine hR13 _ _ ?_
                      exact J10 _ (by (repeat (refine keep_cons rfl ?_)); exact fun _ _ => rfl) (show (.bool ((((y7.1).length : Int) == 2)) : Value) = .bool ((bif (bif (bif (bif (bif (bif (bif (bif (bif (bif (y1.1 == ([0, 255, 97] : List UInt8)) then (y1.2 == 0) else false) then (y2.1 == ([251, 255] : List UInt8)) else false) then (y2.2 == 0) else false) then (y3.2 == 11) else false) then (y4.1 == ([97, 32, 98, 47] : List UInt8)) else false) then (y4.2 == 0) else false) then (y5.2 == 12) else false) then (y6.1 == ([97, 61, 49, 43, 50, 38, 98, 61, 37, 50, 54] : List UInt8)) else false) then (y6.2 == 0) else false) then (((y7.1).length : Int) == 2) else false)) from congrArg Value.bool (by simp only [hb9, cond_true, cond_false]))
                    · skip
                      refine p_skip (gvl_at rfl rfl (k19 103)) hb9 ?_
                      rw [put_fr]
                      refine p_skip (gvl_at rfl rfl (k19 103)) hb9 ?_
                      rw [put_fr]
                      refine p_skip (gvl_at rfl rfl (k19 103)) hb9 ?_
                      rw [put_fr]
                      refine p_val (r_pickf (v := .bool (false)) (k19 103) hb9 rfl) ?_
                      refine hR13 _ _ ?_
                      exact J10 _ (by (repeat (refine keep_cons rfl ?_)); exact fun _ _ => rfl) (show (.bool (false) : Value) = .bool ((bif (bif (bif (bif (bif (bif (bif (bif (bif (bif (y1.1 == ([0, 255, 97] : List UInt8)) then (y1.2 == 0) else false) then (y2.1 == ([251, 255] : List UInt8)) else false) then (y2.2 == 0) else false) then (y3.2 == 11) else false) then (y4.1 == ([97, 32, 98, 47] : List UInt8)) else false) then (y4.2 == 0) else false) then (y5.2 == 12) else false) then (y6.1 == ([97, 61, 49, 43, 50, 38, 98, 61, 37, 50, 54] : List UInt8)) else false) then (y6.2 == 0) else false) then (((y7.1).length : Int) == 2) else false)) from congrArg Value.bool (by simp only [hb9, cond_true, cond_false]))
                  refine p_gs (j := 34) (gvl_at rfl rfl (k17 99)) (fun hb10 => ?_) (fun hb10 => ?_)
                  · skip
                    refine p_want (gvl_at rfl rfl (k17 99)) hb10 ?_
                    refine p_val (r_move (v := .int .i64 (y6.2)) ((k17 12).trans q86)) ?_
                    refine p_want (gvl_at rfl rfl (k17 99)) hb10 ?_
                    refine p_val (r_eql (t := (y6.2 == 0)) rfl rfl rfl) ?_
                    refine p_val (r_pickt (v := .bool ((y6.2 == 0))) (k17 99) hb10 rfl) ?_
                    refine hR12 _ _ ?_
                    exact J9 _ (by (repeat (refine keep_cons rfl ?_)); exact fun _ _ => rfl) (show (.bool ((y6.2 == 0)) : Value) = .bool ((bif (bif (bif (bif (bif (bif (bif (bif (bif (y1.1 == ([0, 255, 97] : List UInt8)) then (y1.2 == 0) else false) then (y2.1 == ([251, 255] : List UInt8)) else false) then (y2.2 == 0) else false) then (y3.2 == 11) else false) then (y4.1 == ([97, 32, 98, 47] : List UInt8)) else false) then (y4.2 == 0) else false) then (y5.2 == 12) else false) then (y6.1 == ([97, 61, 49, 43, 50, 38, 98, 61, 37, 50, 54] : List UInt8)) else false) then (y6.2 == 0) else false)) from congrArg Value.bool (by simp only [hb10, cond_true, cond_false]))
                  · skip
                    refine p_skip (gvl_at rfl rfl (k17 99)) hb10 ?_
                    rw [put_fr]
                    refine p_skip (gvl_at rfl rfl (k17 99)) hb10 ?_
                    rw [put_fr]
                    refine p_val (r_pickf (v := .bool (false)) (k17 99) hb10 rfl) ?_
                    refine hR12 _ _ ?_
                    exact J9 _ (by (repeat (refine keep_cons rfl ?_)); exact fun _ _ => rfl) (show (.bool (false) : Value) = .bool ((bif (bif (bif (bif (bif (bif (bif (bif (bif (y1.1 == ([0, 255, 97] : List UInt8)) then (y1.2 == 0) else false) then (y2.1 == ([251, 255] : List UInt8)) else false) then (y2.2 == 0) else false) then (y3.2 == 11) else false) then (y4.1 == ([97, 32, 98, 47] : List UInt8)) else false) then (y4.2 == 0) else false) then (y5.2 == 12) else false) then (y6.1 == ([97, 61, 49, 43, 50, 38, 98, 61, 37, 50, 54] : List UInt8)) else false) then (y6.2 == 0) else false)) from congrArg Value.bool (by simp only [hb10, cond_true, cond_false]))
                refine p_gs (j := 30) (gvl_at rfl rfl (k15 95)) (fun hb11 => ?_) (fun hb11 => ?_)
                · skip
                  refine p_want (gvl_at rfl rfl (k15 95)) hb11 ?_
                  refine p_val (r_move (v := str (y6.1)) ((k15 11).trans q77)) ?_
                  refine p_want (gvl_at rfl rfl (k15 95)) hb11 ?_
                  refine p_val (r_eqT (t := (y6.1 == ([97, 61, 49, 43, 50, 38, 98, 61, 37, 50, 54] : List UInt8))) rfl rfl rfl) ?_
                  refine p_val (r_pickt (v := .bool ((y6.1 == ([97, 61, 49, 43, 50, 38, 98, 61, 37, 50, 54] : List UInt8)))) (k15 95) hb11 rfl) ?_
                  refine hR11 _ _ ?_
                  exact J8 _ (by (repeat (refine keep_cons rfl ?_)); exact fun _ _ => rfl) (show (.bool ((y6.1 == ([97, 61, 49, 43, 50, 38, 98, 61, 37, 50, 54] : List UInt8))) : Value) = .bool ((bif (bif (bif (bif (bif (bif (bif (bif (y1.1 == ([0, 255, 97] : List UInt8)) then (y1.2 == 0) else false) then (y2.1 == ([251, 255] : List UInt8)) else false) then (y2.2 == 0) else false) then (y3.2 == 11) else false) then (y4.1 == ([97, 32, 98, 47] : List UInt8)) else false) then (y4.2 == 0) else false) then (y5.2 == 12) else false) then (y6.1 == ([97, 61, 49, 43, 50, 38, 98, 61, 37, 50, 54] : List UInt8)) else false)) from congrArg Value.bool (by simp only [hb11, cond_true, cond_false]))
                · skip
                  refine p_skip (gvl_at rfl rfl (k15 95)) hb11 ?_
                  rw [put_fr]
                  refine p_skip (gvl_at rfl rfl (k15 95)) hb11 ?_
                  rw [put_fr]
                  refine p_val (r_pickf (v := .bool (false)) (k15 95) hb11 rfl) ?_
                  refine hR11 _ _ ?_
                  exact J8 _ (by (repeat (refine keep_cons rfl ?_)); exact fun _ _ => rfl) (show (.bool (false) : Value) = .bool ((bif (bif (bif (bif (bif (bif (bif (bif (y1.1 == ([0, 255, 97] : List UInt8)) then (y1.2 == 0) else false) then (y2.1 == ([251, 255] : List UInt8)) else false) then (y2.2 == 0) else false) then (y3.2 == 11) else false) then (y4.1 == ([97, 32, 98, 47] : List UInt8)) else false) then (y4.2 == 0) else false) then (y5.2 == 12) else false) then (y6.1 == ([97, 61, 49, 43, 50, 38, 98, 61, 37, 50, 54] : List UInt8)) else false)) from congrArg Value.bool (by simp only [hb11, cond_true, cond_false]))
              refine p_gs (j := 26) (gvl_at rfl rfl (k13 91)) (fun hb12 => ?_) (fun hb12 => ?_)
              · skip
                refine p_want (gvl_at rfl rfl (k13 91)) hb12 ?_
                refine p_val (r_move (v := .int .i64 (y5.2)) ((k13 10).trans q67)) ?_
                refine p_want (gvl_at rfl rfl (k13 91)) hb12 ?_
                refine p_val (r_eql (t := (y5.2 == 12)) rfl rfl rfl) ?_
                refine p_val (r_pickt (v := .bool ((y5.2 == 12))) (k13 91) hb12 rfl) ?_
                refine hR10 _ _ ?_
                exact J7 _ (by (repeat (refine keep_cons rfl ?_)); exact fun _ _ => rfl) (show (.bool ((y5.2 == 12)) : Value) = .bool ((bif (bif (bif (bif (bif (bif (bif (y1.1 == ([0, 255, 97] : List UInt8)) then (y1.2 == 0) else false) then (y2.1 == ([251, 255] : List UInt8)) else false) then (y2.2 == 0) else false) then (y3.2 == 11) else false) then (y4.1 == ([97, 32, 98, 47] : List UInt8)) else false) then (y4.2 == 0) else false) then (y5.2 == 12) else false)) from congrArg Value.bool (by simp only [hb12, cond_true, cond_false]))
              · skip
                refine p_skip (gvl_at rfl rfl (k13 91)) hb12 ?_
                rw [put_fr]
                refine p_skip (gvl_at rfl rfl (k13 91)) hb12 ?_
                rw [put_fr]
                refine p_val (r_pickf (v := .bool (false)) (k13 91) hb12 rfl) ?_
                refine hR10 _ _ ?_
                exact J7 _ (by (repeat (refine keep_cons rfl ?_)); exact fun _ _ => rfl) (show (.bool (false) : Value) = .bool ((bif (bif (bif (bif (bif (bif (bif (y1.1 == ([0, 255, 97] : List UInt8)) then (y1.2 == 0) else false) then (y2.1 == ([251, 255] : List UInt8)) else false) then (y2.2 == 0) else false) then (y3.2 == 11) else false) then (y4.1 == ([97, 32, 98, 47] : List UInt8)) else false) then (y4.2 == 0) else false) then (y5.2 == 12) else false)) from congrArg Value.bool (by simp only [hb12, cond_true, cond_false]))
            refine p_gs (j := 22) (gvl_at rfl rfl (k11 87)) (fun hb13 => ?_) (fun hb13 => ?_)
            · skip
              refine p_want (gvl_at rfl rfl (k11 87)) hb13 ?_
              refine p_val (r_move (v := .int .i64 (y4.2)) ((k11 8).trans q56)) ?_
              refine p_want (gvl_at rfl rfl (k11 87)) hb13 ?_
              refine p_val (r_eql (t := (y4.2 == 0)) rfl rfl rfl) ?_
              refine p_val (r_pickt (v := .bool ((y4.2 == 0))) (k11 87) hb13 rfl) ?_
              refine hR9 _ _ ?_
              exact J6 _ (by (repeat (refine keep_cons rfl ?_)); exact fun _ _ => rfl) (show (.bool ((y4.2 == 0)) : Value) = .bool ((bif (bif (bif (bif (bif (bif (y1.1 == ([0, 255, 97] : List UInt8)) then (y1.2 == 0) else false) then (y2.1 == ([251, 255] : List UInt8)) else false) then (y2.2 == 0) else false) then (y3.2 == 11) else false) then (y4.1 == ([97, 32, 98, 47] : List UInt8)) else false) then (y4.2 == 0) else false)) from congrArg Value.bool (by simp only [hb13, cond_true, cond_false]))
            · skip
              refine p_skip (gvl_at rfl rfl (k11 87)) hb13 ?_
              rw [put_fr]
              refine p_skip (gvl_at rfl rfl (k11 87)) hb13 ?_
              rw [put_fr]
              refine p_val (r_pickf (v := .bool (false)) (k11 87) hb13 rfl) ?_
              refine hR9 _ _ ?_
              exact J6 _ (by (repeat (refine keep_cons rfl ?_)); exact fun _ _ => rfl) (show (.bool (false) : Value) = .bool ((bif (bif (bif (bif (bif (bif (y1.1 == ([0, 255, 97] : List UInt8)) then (y1.2 == 0) else false) then (y2.1 == ([251, 255] : List UInt8)) else false) then (y2.2 == 0) else false) then (y3.2 == 11) else false) then (y4.1 == ([97, 32, 98, 47] : List UInt8)) else false) then (y4.2 == 0) else false)) from congrArg Value.bool (by simp only [hb13, cond_true, cond_false]))
          refine p_gs (j := 18) (gvl_at rfl rfl (k9 83)) (fun hb14 => ?_) (fun hb14 => ?_)
          · skip
            refine p_want (gvl_at rfl rfl (k9 83)) hb14 ?_
            refine p_val (r_move (v := str (y4.1)) ((k9 7).trans q44)) ?_
            refine p_want (gvl_at rfl rfl (k9 83)) hb14 ?_
            refine p_val (r_eqT (t := (y4.1 == ([97, 32, 98, 47] : List UInt8))) rfl rfl rfl) ?_
            refine p_val (r_pickt (v := .bool ((y4.1 == ([97, 32, 98, 47] : List UInt8)))) (k9 83) hb14 rfl) ?_
            refine hR8 _ _ ?_
            exact J5 _ (by (repeat (refine keep_cons rfl ?_)); exact fun _ _ => rfl) (show (.bool ((y4.1 == ([97, 32, 98, 47] : List UInt8))) : Value) = .bool ((bif (bif (bif (bif (bif (y1.1 == ([0, 255, 97] : List UInt8)) then (y1.2 == 0) else false) then (y2.1 == ([251, 255] : List UInt8)) else false) then (y2.2 == 0) else false) then (y3.2 == 11) else false) then (y4.1 == ([97, 32, 98, 47] : List UInt8)) else false)) from congrArg Value.bool (by simp only [hb14, cond_true, cond_false]))
          · skip
            refine p_skip (gvl_at rfl rfl (k9 83)) hb14 ?_
            rw [put_fr]
            refine p_skip (gvl_at rfl rfl (k9 83)) hb14 ?_
            rw [put_fr]
            refine p_val (r_pickf (v := .bool (false)) (k9 83) hb14 rfl) ?_
            refine hR8 _ _ ?_
            exact J5 _ (by (repeat (refine keep_cons rfl ?_)); exact fun _ _ => rfl) (show (.bool (false) : Value) = .bool ((bif (bif (bif (bif (bif (y1.1 == ([0, 255, 97] : List UInt8)) then (y1.2 == 0) else false) then (y2.1 == ([251, 255] : List UInt8)) else false) then (y2.2 == 0) else false) then (y3.2 == 11) else false) then (y4.1 == ([97, 32, 98, 47] : List UInt8)) else false)) from congrArg Value.bool (by simp only [hb14, cond_true, cond_false]))
        refine p_gs (j := 14) (gvl_at rfl rfl (k7 79)) (fun hb15 => ?_) (fun hb15 => ?_)
        · skip
          refine p_want (gvl_at rfl rfl (k7 79)) hb15 ?_
          refine p_val (r_move (v := .int .i64 (y3.2)) ((k7 6).trans q31)) ?_
          refine p_want (gvl_at rfl rfl (k7 79)) hb15 ?_
          refine p_val (r_eql (t := (y3.2 == 11)) rfl rfl rfl) ?_
          refine p_val (r_pickt (v := .bool ((y3.2 == 11))) (k7 79) hb15 rfl) ?_
          refine hR7 _ _ ?_
          exact J4 _ (by (repeat (refine keep_cons rfl ?_)); exact fun _ _ => rfl) (show (.bool ((y3.2 == 11)) : Value) = .bool ((bif (bif (bif (bif (y1.1 == ([0, 255, 97] : List UInt8)) then (y1.2 == 0) else false) then (y2.1 == ([251, 255] : List UInt8)) else false) then (y2.2 == 0) else false) then (y3.2 == 11) else false)) from congrArg Value.bool (by simp only [hb15, cond_true, cond_false]))
        · skip
          refine p_skip (gvl_at rfl rfl (k7 79)) hb15 ?_
          rw [put_fr]
          refine p_skip (gvl_at rfl rfl (k7 79)) hb15 ?_
          rw [put_fr]
          refine p_val (r_pickf (v := .bool (false)) (k7 79) hb15 rfl) ?_
          refine hR7 _ _ ?_
          exact J4 _ (by (repeat (refine keep_cons rfl ?_)); exact fun _ _ => rfl) (show (.bool (false) : Value) = .bool ((bif (bif (bif (bif (y1.1 == ([0, 255, 97] : List UInt8)) then (y1.2 == 0) else false) then (y2.1 == ([251, 255] : List UInt8)) else false) then (y2.2 == 0) else false) then (y3.2 == 11) else false)) from congrArg Value.bool (by simp only [hb15, cond_true, cond_false]))
      refine p_gs (j := 10) (gvl_at rfl rfl (k5 75)) (fun hb16 => ?_) (fun hb16 => ?_)
      · skip
        refine p_want (gvl_at rfl rfl (k5 75)) hb16 ?_
        refine p_val (r_move (v := .int .i64 (y2.2)) ((k5 4).trans q17)) ?_
        refine p_want (gvl_at rfl rfl (k5 75)) hb16 ?_
        refine p_val (r_eql (t := (y2.2 == 0)) rfl rfl rfl) ?_
        refine p_val (r_pickt (v := .bool ((y2.2 == 0))) (k5 75) hb16 rfl) ?_
        refine hR6 _ _ ?_
        exact J3 _ (by (repeat (refine keep_cons rfl ?_)); exact fun _ _ => rfl) (show (.bool ((y2.2 == 0)) : Value) = .bool ((bif (bif (bif (y1.1 == ([0, 255, 97] : List UInt8)) then (y1.2 == 0) else false) then (y2.1 == ([251, 255] : List UInt8)) else false) then (y2.2 == 0) else false)) from congrArg Value.bool (by simp only [hb16, cond_true, cond_false]))
      · skip
        refine p_skip (gvl_at rfl rfl (k5 75)) hb16 ?_
        rw [put_fr]
        refine p_skip (gvl_at rfl rfl (k5 75)) hb16 ?_
        rw [put_fr]
        refine p_val (r_pickf (v := .bool (false)) (k5 75) hb16 rfl) ?_
        refine hR6 _ _ ?_
        exact J3 _ (by (repeat (refine keep_cons rfl ?_)); exact fun _ _ => rfl) (show (.bool (false) : Value) = .bool ((bif (bif (bif (y1.1 == ([0, 255, 97] : List UInt8)) then (y1.2 == 0) else false) then (y2.1 == ([251, 255] : List UInt8)) else false) then (y2.2 == 0) else false)) from congrArg Value.bool (by simp only [hb16, cond_true, cond_false]))
    refine p_gs (j := 6) (gvl_at rfl rfl (k3 71)) (fun hb17 => ?_) (fun hb17 => ?_)
    · skip
      refine p_want (gvl_at rfl rfl (k3 71)) hb17 ?_
      refine p_val (r_move (v := str (y2.1)) ((k3 3).trans q2)) ?_
      refine p_want (gvl_at rfl rfl (k3 71)) hb17 ?_
      refine p_val (r_eqT (t := (y2.1 == ([251, 255] : List UInt8))) rfl rfl rfl) ?_
      refine p_val (r_pickt (v := .bool ((y2.1 == ([251, 255] : List UInt8)))) (k3 71) hb17 rfl) ?_
      refine hR5 _ _ ?_
      exact J2 _ (by (repeat (refine keep_cons rfl ?_)); exact fun _ _ => rfl) (show (.bool ((y2.1 == ([251, 255] : List UInt8))) : Value) = .bool ((bif (bif (y1.1 == ([0, 255, 97] : List UInt8)) then (y1.2 == 0) else false) then (y2.1 == ([251, 255] : List UInt8)) else false)) from congrArg Value.bool (by simp only [hb17, cond_true, cond_false]))
    · skip
      refine p_skip (gvl_at rfl rfl (k3 71)) hb17 ?_
      rw [put_fr]
      refine p_skip (gvl_at rfl rfl (k3 71)) hb17 ?_
      rw [put_fr]
      refine p_val (r_pickf (v := .bool (false)) (k3 71) hb17 rfl) ?_
      refine hR5 _ _ ?_
      exact J2 _ (by (repeat (refine keep_cons rfl ?_)); exact fun _ _ => rfl) (show (.bool (false) : Value) = .bool ((bif (bif (y1.1 == ([0, 255, 97] : List UInt8)) then (y1.2 == 0) else false) then (y2.1 == ([251, 255] : List UInt8)) else false)) from congrArg Value.bool (by simp only [hb17, cond_true, cond_false]))
  refine p_gs (j := 2) (gvl_at rfl rfl (k1 67)) (fun hb18 => ?_) (fun hb18 => ?_)
  · skip
    refine p_want (gvl_at rfl rfl (k1 67)) hb18 ?_
    refine p_val (r_move (v := .int .i64 (y1.2)) (k1 2)) ?_
    refine p_want (gvl_at rfl rfl (k1 67)) hb18 ?_
    refine p_val (r_eql (t := (y1.2 == 0)) rfl rfl rfl) ?_
    refine p_val (r_pickt (v := .bool ((y1.2 == 0))) (k1 67) hb18 rfl) ?_
    refine hR4 _ _ ?_
    exact J1 _ (by (repeat (refine keep_cons rfl ?_)); exact fun _ _ => rfl) (show (.bool ((y1.2 == 0)) : Value) = .bool ((bif (y1.1 == ([0, 255, 97] : List UInt8)) then (y1.2 == 0) else false)) from congrArg Value.bool (by simp only [hb18, cond_true, cond_false]))
  · skip
    refine p_skip (gvl_at rfl rfl (k1 67)) hb18 ?_
    rw [put_fr]
    refine p_skip (gvl_at rfl rfl (k1 67)) hb18 ?_
    rw [put_fr]
    refine p_val (r_pickf (v := .bool (false)) (k1 67) hb18 rfl) ?_
    refine hR4 _ _ ?_
    exact J1 _ (by (repeat (refine keep_cons rfl ?_)); exact fun _ _ => rfl) (show (.bool (false) : Value) = .bool ((bif (y1.1 == ([0, 255, 97] : List UInt8)) then (y1.2 == 0) else false)) from congrArg Value.bool (by simp only [hb18, cond_true, cond_false]))
def seneschallaw01_CodecHex_p (x0 : List UInt8) (x1 : List UInt8) : Option (Bool) :=
  Option.bind (codec_FromHex_p x1) fun y1 => Option.bind (seneschalref01_FromHex_p x1) fun y2 => Option.bind (seneschallaw01_awake_p) fun y3 => Option.bind (bif y3 then (Option.bind (codec_Hex_p x0) fun y4 => Option.bind (seneschalref01_Hex_p x0) fun y5 => some ((y4 == y5))) else (some (false))) (fun t1 => some ((bif (bif t1 then (y1.1 == y2.1) else false) then (y1.2 == y2.2) else false)))
theorem seneschallaw01_CodecHex_c {S : Mem} {w : World} (hS : Sub S w) (hG : GV S) {x0 : List UInt8} {x1 : List UInt8} {r : Bool} (hF : seneschallaw01_CodecHex_p x0 x1 = some r) :
    Calls Tryd.prog 3 #[str (x0), str (x1)] w fun e w' => e = .returned (.bool (r)) ∧ Ext w w' := by
  refine enter (n := 37) Tryd.func3 rfl rfl rfl ?_
  have H := HS.start hS
  unfold seneschallaw01_CodecHex_p at hF
  refine wp_seq_k ?_; intro K1 hK1
  refine wp_region_lit ?_
  refine p_val (r_assign (v := .bool (false)) rfl) ?_
  refine wpList_nil ?_
  refine x_norm ?_; refine hK1 _ _ ?_; clear hK1
  refine wp_seq_k ?_; intro K2 hK2
  refine wp_region_lit ?_
  refine p_val (r_move (v := str (x1)) rfl) ?_
  obtain ⟨y1, e1, hF⟩ := bnd hF
  refine p_call (l := [str (x1)]) is11 rfl ?_
  refine (codec_FromHex_c H.sub e1).mono ?_; rintro _ w1 ⟨rfl, hx⟩; replace H := H.ext hx; clear hx
  refine p_val (r_move (v := .tuple #[str (y1.1), .int .i64 (y1.2)]) rfl) ?_
  refine p_val (r_extract (v := str (y1.1)) rfl rfl) ?_
  refine p_val (r_extract (v := .int .i64 (y1.2)) rfl rfl) ?_
  refine p_val (r_assign (v := str (y1.1)) rfl) ?_
  refine p_val (r_assign (v := .int .i64 (y1.2)) rfl) ?_
  refine wpList_nil ?_
  refine x_norm ?_; refine hK2 _ _ ?_; clear hK2
  refine wp_seq_k ?_; intro K3 hK3
  refine wp_region_lit ?_
  refine p_val (r_move (v := str (x1)) rfl) ?_
  obtain ⟨y2, e2, hF⟩ := bnd hF
  refine p_call (l := [str (x1)]) is12 rfl ?_
  refine (seneschalref01_FromHex_c H.sub e2).mono ?_; rintro _ w2 ⟨rfl, hx⟩; replace H := H.ext hx; clear hx
  refine p_val (r_move (v := .tuple #[str (y2.1), .int .i64 (y2.2)]) rfl) ?_
  refine p_val (r_extract (v := str (y2.1)) rfl rfl) ?_
  refine p_val (r_extract (v := .int .i64 (y2.2)) rfl rfl) ?_
  refine p_val (r_assign (v := str (y2.1)) rfl) ?_
  refine p_val (r_assign (v := .int .i64 (y2.2)) rfl) ?_
  refine wpList_nil ?_
  refine x_norm ?_; refine hK3 _ _ ?_; clear hK3
  refine wp_seq_k ?_; intro K4 hK4
  refine wp_region_lit ?_
  obtain ⟨y3, e3, hF⟩ := bnd hF
  refine p_call (l := []) is13 rfl ?_
  refine (seneschallaw01_awake_c H.sub hG e3).mono ?_; rintro _ w3 ⟨rfl, hx⟩; replace H := H.ext hx; clear hx
  refine p_val (r_move (v := .bool (y3)) rfl) ?_
  refine nameL fun m1 k1 => ?_
  refine gs_at 6 fun K5 hK5 R1 hR1 => ?_
  obtain ⟨t1, hE1, hF1⟩ := bnd hF
  have J3 : ∀ (m2 : FM) (w6 : World), (∀ t, has [21, 22, 23, 24, 25, 26] t = false → look m2 t = look m1 t) → look m2 26 = .bool (t1) → HS ⟨S, [], w⟩ S w6 [] → K5 m2 w6 := by
    clear H; intro m2 w6 k2 q1 H
    have q2 : look m2 5 = str (y1.1) := (k2 5 rfl).trans (k1 5)
    have q3 : look m2 6 = .int .i64 (y1.2) := (k2 6 rfl).trans (k1 6)
    have q4 : look m2 7 = str (y2.1) := (k2 7 rfl).trans (k1 7)
    have q5 : look m2 8 = .int .i64 (y2.2) := (k2 8 rfl).trans (k1 8)
    refine hK5 _ _ ?_
    refine p_val (r_move (v := .bool (t1)) q1) ?_
    refine nameL fun m3 k3 => ?_
    refine gs_at 4 fun K6 hK6 R2 hR2 => ?_
    have J1 : ∀ (m4 : FM), (∀ t, has [28, 29, 30, 31] t = false → look m4 t = look m3 t) → look m4 31 = .bool ((bif t1 then (y1.1 == y2.1) else false)) → K6 m4 w6 := by
      intro m4 k4 q6
      have q7 : look m4 6 = .int .i64 (y1.2) := (k4 6 rfl).trans ((k3 6).trans q3)
      have q8 : look m4 8 = .int .i64 (y2.2) := (k4 8 rfl).trans ((k3 8).trans q5)
      refine hK6 _ _ ?_; clear hK6 hR2
      refine p_val (r_move (v := .bool ((bif t1 then (y1.1 == y2.1) else false))) q6) ?_
      refine nameL fun m5 k5 => ?_
      refine gs_at 4 fun K7 hK7 R3 hR3 => ?_
      have J2 : ∀ (m6 : FM), (∀ t, has [33, 34, 35, 36] t = false → look m6 t = look m5 t) → look m6 36 = .bool ((bif (bif t1 then (y1.1 == y2.1) else false) then (y1.2 == y2.2) else false)) → K7 m6 w6 := by
        intro m6 k6 q9
        refine hK7 _ _ ?_; clear hK7 hR3
        refine p_val (r_assign (v := .bool ((bif (bif t1 then (y1.1 == y2.1) else false) then (y1.2 == y2.2) else false))) q9) ?_
        refine wpList_nil ?_
        refine x_norm ?_; refine hK4 _ _ ?_; clear hK4
        refine wp_ret ?_
        obtain rfl := Option.some.inj hF1
        refine e_1 rfl (q_tmp (v := .bool ((bif (bif t1 then (y1.1 == y2.1) else false) then (y1.2 == y2.2) else false))) rfl) ?_
        exact ⟨rfl, H.toExt⟩
      refine p_gs (j := 13) (gvl_at rfl rfl (k5 32)) (fun hb2 => ?_) (fun hb2 => ?_)
      · skip
        refine p_want (gvl_at rfl rfl (k5 32)) hb2 ?_
        refine p_val (r_move (v := .int .i64 (y1.2)) ((k5 6).trans q7)) ?_
        refine p_want (gvl_at rfl rfl (k5 32)) hb2 ?_
        refine p_val (r_move (v := .int .i64 (y2.2)) ((k5 8).trans q8)) ?_
        refine p_want (gvl_at rfl rfl (k5 32)) hb2 ?_
        refine p_val (r_eql (t := (y1.2 == y2.2)) rfl rfl rfl) ?_
        refine p_val (r_pickt (v := .bool ((y1.2 == y2.2))) (k5 32) hb2 rfl) ?_
        refine hR3 _ _ ?_
        exact J2 _ (by (repeat (refine keep_cons rfl ?_)); exact fun _ _ => rfl) (show (.bool ((y1.2 == y2.2)) : Value) = .bool ((bif (bif t1 then (y1.1 == y2.1) else false) then (y1.2 == y2.2) else false)) from congrArg Value.bool (by simp only [hb2, cond_true, cond_false]))
      · skip
        refine p_skip (gvl_at rfl rfl (k5 32)) hb2 ?_
        rw [put_fr]
        refine p_skip (gvl_at rfl rfl (k5 32)) hb2 ?_
        rw [put_fr]
        refine p_skip (gvl_at rfl rfl (k5 32)) hb2 ?_
        rw [put_fr]
        refine p_val (r_pickf (v := .bool (false)) (k5 32) hb2 rfl) ?_
        refine hR3 _ _ ?_
        exact J2 _ (by (repeat (refine keep_cons rfl ?_)); exact fun _ _ => rfl) (show (.bool (false) : Value) = .bool ((bif (bif t1 then (y1.1 == y2.1) else false) then (y1.2 == y2.2) else false)) from congrArg Value.bool (by simp only [hb2, cond_true, cond_false]))
    refine p_gs (j := 8) (gvl_at rfl rfl (k3 27)) (fun hb3 => ?_) (fun hb3 => ?_)
    · skip
      refine p_want (gvl_at rfl rfl (k3 27)) hb3 ?_
      refine p_val (r_move (v := str (y1.1)) ((k3 5).trans q2)) ?_
      refine p_want (gvl_at rfl rfl (k3 27)) hb3 ?_
      refine p_val (r_move (v := str (y2.1)) ((k3 7).trans q4)) ?_
      refine p_want (gvl_at rfl rfl (k3 27)) hb3 ?_
      refine p_val (r_eqT (t := (y1.1 == y2.1)) rfl rfl rfl) ?_
      refine p_val (r_pickt (v := .bool ((y1.1 == y2.1))) (k3 27) hb3 rfl) ?_
      refine hR2 _ _ ?_
      exact J1 _ (by (repeat (refine keep_cons rfl ?_)); exact fun _ _ => rfl) (show (.bool ((y1.1 == y2.1)) : Value) = .bool ((bif t1 then (y1.1 == y2.1) else false)) from congrArg Value.bool (by simp only [hb3, cond_true, cond_false]))
    · skip
      refine p_skip (gvl_at rfl rfl (k3 27)) hb3 ?_
      rw [put_fr]
      refine p_skip (gvl_at rfl rfl (k3 27)) hb3 ?_
      rw [put_fr]
      refine p_skip (gvl_at rfl rfl (k3 27)) hb3 ?_
      rw [put_fr]
      refine p_val (r_pickf (v := .bool (false)) (k3 27) hb3 rfl) ?_
      refine hR2 _ _ ?_
      exact J1 _ (by (repeat (refine keep_cons rfl ?_)); exact fun _ _ => rfl) (show (.bool (false) : Value) = .bool ((bif t1 then (y1.1 == y2.1) else false)) from congrArg Value.bool (by simp only [hb3, cond_true, cond_false]))
  refine p_gs (j := 1) (gvl_at rfl rfl (k1 20)) (fun hb1 => ?_) (fun hb1 => ?_)
  · replace hE1 := cnd_t hE1 hb1
    refine p_want (gvl_at rfl rfl (k1 20)) hb1 ?_
    refine p_val (r_move (v := str (x0)) (k1 0)) ?_
    refine p_want (gvl_at rfl rfl (k1 20)) hb1 ?_
    obtain ⟨y4, e4, hE1⟩ := bnd hE1
    refine p_call (l := [str (x0)]) is14 rfl ?_
    refine (codec_Hex_c H.sub e4).mono ?_; rintro _ w4 ⟨rfl, hx⟩; replace H := H.ext hx; clear hx
    refine p_want (gvl_at rfl rfl (k1 20)) hb1 ?_
    refine p_val (r_move (v := str (x0)) (k1 0)) ?_
    refine p_want (gvl_at rfl rfl (k1 20)) hb1 ?_
    obtain ⟨y5, e5, hE1⟩ := bnd hE1
    refine p_call (l := [str (x0)]) is15 rfl ?_
    refine (seneschalref01_Hex_c H.sub e5).mono ?_; rintro _ w5 ⟨rfl, hx⟩; replace H := H.ext hx; clear hx
    refine p_want (gvl_at rfl rfl (k1 20)) hb1 ?_
    refine p_val (r_eqT (t := (y4 == y5)) rfl rfl rfl) ?_
    refine p_val (r_pickt (v := .bool ((y4 == y5))) (k1 20) hb1 rfl) ?_
    refine hR1 _ _ ?_
    replace H : HS ⟨S, [], w⟩ S w5 [] := H
    obtain rfl := Option.some.inj hE1
    exact J3 _ _ (by (repeat (refine keep_cons rfl ?_)); exact fun _ _ => rfl) rfl H
  · replace hE1 := cnd_f hE1 hb1
    refine p_skip (gvl_at rfl rfl (k1 20)) hb1 ?_
    rw [put_fr]
    refine p_skip (gvl_at rfl rfl (k1 20)) hb1 ?_
    rw [put_fr]
    refine p_skip (gvl_at rfl rfl (k1 20)) hb1 ?_
    rw [put_fr]
    refine p_skip (gvl_at rfl rfl (k1 20)) hb1 ?_
    rw [put_fr]
    refine p_skip (gvl_at rfl rfl (k1 20)) hb1 ?_
    rw [put_fr]
    refine p_val (r_pickf (v := .bool (false)) (k1 20) hb1 rfl) ?_
    refine hR1 _ _ ?_
    replace H : HS ⟨S, [], w⟩ S w3 [] := H
    obtain rfl := Option.some.inj hE1
    exact J3 _ _ (by (repeat (refine keep_cons rfl ?_)); exact fun _ _ => rfl) rfl H
def seneschallaw01_CodecBase_p (x0 : List UInt8) (x1 : List UInt8) : Option (Bool) :=
  Option.bind (codec_FromBase64_p x1) fun y1 => Option.bind (seneschalref01_FromBase64_p x1) fun y2 => Option.bind (seneschallaw01_awake_p) fun y3 => Option.bind (bif y3 then (Option.bind (codec_Base64_p x0) fun y4 => Option.bind (seneschalref01_Base64_p x0) fun y5 => some ((y4 == y5))) else (some (false))) (fun t1 => some ((bif (bif t1 then (y1.1 == y2.1) else false) then (y1.2 == y2.2) else false)))
theorem seneschallaw01_CodecBase_c {S : Mem} {w : World} (hS : Sub S w) (hG : GV S) {x0 : List UInt8} {x1 : List UInt8} {r : Bool} (hF : seneschallaw01_CodecBase_p x0 x1 = some r) :
    Calls Tryd.prog 4 #[str (x0), str (x1)] w fun e w' => e = .returned (.bool (r)) ∧ Ext w w' := by
  refine enter (n := 37) Tryd.func4 rfl rfl rfl ?_
  have H := HS.start hS
  unfold seneschallaw01_CodecBase_p at hF
  refine wp_seq_k ?_; intro K1 hK1
  refine wp_region_lit ?_
  refine p_val (r_assign (v := .bool (false)) rfl) ?_
  refine wpList_nil ?_
  refine x_norm ?_; refine hK1 _ _ ?_; clear hK1
  refine wp_seq_k ?_; intro K2 hK2
  refine wp_region_lit ?_
  refine p_val (r_move (v := str (x1)) rfl) ?_
  obtain ⟨y1, e1, hF⟩ := bnd hF
  refine p_call (l := [str (x1)]) is16 rfl ?_
  refine (codec_FromBase64_c H.sub e1).mono ?_; rintro _ w1 ⟨rfl, hx⟩; replace H := H.ext hx; clear hx
  refine p_val (r_move (v := .tuple #[str (y1.1), .int .i64 (y1.2)]) rfl) ?_
  refine p_val (r_extract (v := str (y1.1)) rfl rfl) ?_
  refine p_val (r_extract (v := .int .i64 (y1.2)) rfl rfl) ?_
  refine p_val (r_assign (v := str (y1.1)) rfl) ?_
  refine p_val (r_assign (v := .int .i64 (y1.2)) rfl) ?_
  refine wpList_nil ?_
  refine x_norm ?_; refine hK2 _ _ ?_; clear hK2
  refine wp_seq_k ?_; intro K3 hK3
  refine wp_region_lit ?_
  refine p_val (r_move (v := str (x1)) rfl) ?_
  obtain ⟨y2, e2, hF⟩ := bnd hF
  refine p_call (l := [str (x1)]) is17 rfl ?_
  refine (seneschalref01_FromBase64_c H.sub e2).mono ?_; rintro _ w2 ⟨rfl, hx⟩; replace H := H.ext hx; clear hx
  refine p_val (r_move (v := .tuple #[str (y2.1), .int .i64 (y2.2)]) rfl) ?_
  refine p_val (r_extract (v := str (y2.1)) rfl rfl) ?_
  refine p_val (r_extract (v := .int .i64 (y2.2)) rfl rfl) ?_
  refine p_val (r_assign (v := str (y2.1)) rfl) ?_
  refine p_val (r_assign (v := .int .i64 (y2.2)) rfl) ?_
  refine wpList_nil ?_
  refine x_norm ?_; refine hK3 _ _ ?_; clear hK3
  refine wp_seq_k ?_; intro K4 hK4
  refine wp_region_lit ?_
  obtain ⟨y3, e3, hF⟩ := bnd hF
  refine p_call (l := []) is13 rfl ?_
  refine (seneschallaw01_awake_c H.sub hG e3).mono ?_; rintro _ w3 ⟨rfl, hx⟩; replace H := H.ext hx; clear hx
  refine p_val (r_move (v := .bool (y3)) rfl) ?_
  refine nameL fun m1 k1 => ?_
  refine gs_at 6 fun K5 hK5 R1 hR1 => ?_
  obtain ⟨t1, hE1, hF1⟩ := bnd hF
  have J3 : ∀ (m2 : FM) (w6 : World), (∀ t, has [21, 22, 23, 24, 25, 26] t = false → look m2 t = look m1 t) → look m2 26 = .bool (t1) → HS ⟨S, [], w⟩ S w6 [] → K5 m2 w6 := by
    clear H; intro m2 w6 k2 q1 H
    have q2 : look m2 5 = str (y1.1) := (k2 5 rfl).trans (k1 5)
    have q3 : look m2 6 = .int .i64 (y1.2) := (k2 6 rfl).trans (k1 6)
    have q4 : look m2 7 = str (y2.1) := (k2 7 rfl).trans (k1 7)
    have q5 : look m2 8 = .int .i64 (y2.2) := (k2 8 rfl).trans (k1 8)
    refine hK5 _ _ ?_
    refine p_val (r_move (v := .bool (t1)) q1) ?_
    refine nameL fun m3 k3 => ?_
    refine gs_at 4 fun K6 hK6 R2 hR2 => ?_
    have J1 : ∀ (m4 : FM), (∀ t, has [28, 29, 30, 31] t = false → look m4 t = look m3 t) → look m4 31 = .bool ((bif t1 then (y1.1 == y2.1) else false)) → K6 m4 w6 := by
      intro m4 k4 q6
      have q7 : look m4 6 = .int .i64 (y1.2) := (k4 6 rfl).trans ((k3 6).trans q3)
      have q8 : look m4 8 = .int .i64 (y2.2) := (k4 8 rfl).trans ((k3 8).trans q5)
      refine hK6 _ _ ?_; clear hK6 hR2
      refine p_val (r_move (v := .bool ((bif t1 then (y1.1 == y2.1) else false))) q6) ?_
      refine nameL fun m5 k5 => ?_
      refine gs_at 4 fun K7 hK7 R3 hR3 => ?_
      have J2 : ∀ (m6 : FM), (∀ t, has [33, 34, 35, 36] t = false → look m6 t = look m5 t) → look m6 36 = .bool ((bif (bif t1 then (y1.1 == y2.1) else false) then (y1.2 == y2.2) else false)) → K7 m6 w6 := by
        intro m6 k6 q9
        refine hK7 _ _ ?_; clear hK7 hR3
        refine p_val (r_assign (v := .bool ((bif (bif t1 then (y1.1 == y2.1) else false) then (y1.2 == y2.2) else false))) q9) ?_
        refine wpList_nil ?_
        refine x_norm ?_; refine hK4 _ _ ?_; clear hK4
        refine wp_ret ?_
        obtain rfl := Option.some.inj hF1
        refine e_1 rfl (q_tmp (v := .bool ((bif (bif t1 then (y1.1 == y2.1) else false) then (y1.2 == y2.2) else false))) rfl) ?_
        exact ⟨rfl, H.toExt⟩
      refine p_gs (j := 13) (gvl_at rfl rfl (k5 32)) (fun hb2 => ?_) (fun hb2 => ?_)
      · skip
        refine p_want (gvl_at rfl rfl (k5 32)) hb2 ?_
        refine p_val (r_move (v := .int .i64 (y1.2)) ((k5 6).trans q7)) ?_
        refine p_want (gvl_at rfl rfl (k5 32)) hb2 ?_
        refine p_val (r_move (v := .int .i64 (y2.2)) ((k5 8).trans q8)) ?_
        refine p_want (gvl_at rfl rfl (k5 32)) hb2 ?_
        refine p_val (r_eql (t := (y1.2 == y2.2)) rfl rfl rfl) ?_
        refine p_val (r_pickt (v := .bool ((y1.2 == y2.2))) (k5 32) hb2 rfl) ?_
        refine hR3 _ _ ?_
        exact J2 _ (by (repeat (refine keep_cons rfl ?_)); exact fun _ _ => rfl) (show (.bool ((y1.2 == y2.2)) : Value) = .bool ((bif (bif t1 then (y1.1 == y2.1) else false) then (y1.2 == y2.2) else false)) from congrArg Value.bool (by simp only [hb2, cond_true, cond_false]))
      · skip
        refine p_skip (gvl_at rfl rfl (k5 32)) hb2 ?_
        rw [put_fr]
        refine p_skip (gvl_at rfl rfl (k5 32)) hb2 ?_
        rw [put_fr]
        refine p_skip (gvl_at rfl rfl (k5 32)) hb2 ?_
        rw [put_fr]
        refine p_val (r_pickf (v := .bool (false)) (k5 32) hb2 rfl) ?_
        refine hR3 _ _ ?_
        exact J2 _ (by (repeat (refine keep_cons rfl ?_)); exact fun _ _ => rfl) (show (.bool (false) : Value) = .bool ((bif (bif t1 then (y1.1 == y2.1) else false) then (y1.2 == y2.2) else false)) from congrArg Value.bool (by simp only [hb2, cond_true, cond_false]))
    refine p_gs (j := 8) (gvl_at rfl rfl (k3 27)) (fun hb3 => ?_) (fun hb3 => ?_)
    · skip
      refine p_want (gvl_at rfl rfl (k3 27)) hb3 ?_
      refine p_val (r_move (v := str (y1.1)) ((k3 5).trans q2)) ?_
      refine p_want (gvl_at rfl rfl (k3 27)) hb3 ?_
      refine p_val (r_move (v := str (y2.1)) ((k3 7).trans q4)) ?_
      refine p_want (gvl_at rfl rfl (k3 27)) hb3 ?_
      refine p_val (r_eqT (t := (y1.1 == y2.1)) rfl rfl rfl) ?_
      refine p_val (r_pickt (v := .bool ((y1.1 == y2.1))) (k3 27) hb3 rfl) ?_
      refine hR2 _ _ ?_
      exact J1 _ (by (repeat (refine keep_cons rfl ?_)); exact fun _ _ => rfl) (show (.bool ((y1.1 == y2.1)) : Value) = .bool ((bif t1 then (y1.1 == y2.1) else false)) from congrArg Value.bool (by simp only [hb3, cond_true, cond_false]))
    · skip
      refine p_skip (gvl_at rfl rfl (k3 27)) hb3 ?_
      rw [put_fr]
      refine p_skip (gvl_at rfl rfl (k3 27)) hb3 ?_
      rw [put_fr]
      refine p_skip (gvl_at rfl rfl (k3 27)) hb3 ?_
      rw [put_fr]
      refine p_val (r_pickf (v := .bool (false)) (k3 27) hb3 rfl) ?_
      refine hR2 _ _ ?_
      exact J1 _ (by (repeat (refine keep_cons rfl ?_)); exact fun _ _ => rfl) (show (.bool (false) : Value) = .bool ((bif t1 then (y1.1 == y2.1) else false)) from congrArg Value.bool (by simp only [hb3, cond_true, cond_false]))
  refine p_gs (j := 1) (gvl_at rfl rfl (k1 20)) (fun hb1 => ?_) (fun hb1 => ?_)
  · replace hE1 := cnd_t hE1 hb1
    refine p_want (gvl_at rfl rfl (k1 20)) hb1 ?_
    refine p_val (r_move (v := str (x0)) (k1 0)) ?_
    refine p_want (gvl_at rfl rfl (k1 20)) hb1 ?_
    obtain ⟨y4, e4, hE1⟩ := bnd hE1
    refine p_call (l := [str (x0)]) is18 rfl ?_
    refine (codec_Base64_c H.sub e4).mono ?_; rintro _ w4 ⟨rfl, hx⟩; replace H := H.ext hx; clear hx
    refine p_want (gvl_at rfl rfl (k1 20)) hb1 ?_
    refine p_val (r_move (v := str (x0)) (k1 0)) ?_
    refine p_want (gvl_at rfl rfl (k1 20)) hb1 ?_
    obtain ⟨y5, e5, hE1⟩ := bnd hE1
    refine p_call (l := [str (x0)]) is19 rfl ?_
    refine (seneschalref01_Base64_c H.sub e5).mono ?_; rintro _ w5 ⟨rfl, hx⟩; replace H := H.ext hx; clear hx
    refine p_want (gvl_at rfl rfl (k1 20)) hb1 ?_
    refine p_val (r_eqT (t := (y4 == y5)) rfl rfl rfl) ?_
    refine p_val (r_pickt (v := .bool ((y4 == y5))) (k1 20) hb1 rfl) ?_
    refine hR1 _ _ ?_
    replace H : HS ⟨S, [], w⟩ S w5 [] := H
    obtain rfl := Option.some.inj hE1
    exact J3 _ _ (by (repeat (refine keep_cons rfl ?_)); exact fun _ _ => rfl) rfl H
  · replace hE1 := cnd_f hE1 hb1
    refine p_skip (gvl_at rfl rfl (k1 20)) hb1 ?_
    rw [put_fr]
    refine p_skip (gvl_at rfl rfl (k1 20)) hb1 ?_
    rw [put_fr]
    refine p_skip (gvl_at rfl rfl (k1 20)) hb1 ?_
    rw [put_fr]
    refine p_skip (gvl_at rfl rfl (k1 20)) hb1 ?_
    rw [put_fr]
    refine p_skip (gvl_at rfl rfl (k1 20)) hb1 ?_
    rw [put_fr]
    refine p_val (r_pickf (v := .bool (false)) (k1 20) hb1 rfl) ?_
    refine hR1 _ _ ?_
    replace H : HS ⟨S, [], w⟩ S w3 [] := H
    obtain rfl := Option.some.inj hE1
    exact J3 _ _ (by (repeat (refine keep_cons rfl ?_)); exact fun _ _ => rfl) rfl H
def seneschallaw01_CodecPercent_p (x0 : List UInt8) (x1 : List UInt8) : Option (Bool) :=
  Option.bind (codec_FromPercent_p x1) fun y1 => Option.bind (seneschalref01_FromPercent_p x1) fun y2 => Option.bind (seneschallaw01_awake_p) fun y3 => Option.bind (bif y3 then (Option.bind (codec_Percent_p x0) fun y4 => Option.bind (seneschalref01_Percent_p x0) fun y5 => some ((y4 == y5))) else (some (false))) (fun t1 => some ((bif (bif t1 then (y1.1 == y2.1) else false) then (y1.2 == y2.2) else false)))
theorem seneschallaw01_CodecPercent_c {S : Mem} {w : World} (hS : Sub S w) (hG : GV S) {x0 : List UInt8} {x1 : List UInt8} {r : Bool} (hF : seneschallaw01_CodecPercent_p x0 x1 = some r) :
    Calls Tryd.prog 5 #[str (x0), str (x1)] w fun e w' => e = .returned (.bool (r)) ∧ Ext w w' := by
  refine enter (n := 37) Tryd.func5 rfl rfl rfl ?_
  have H := HS.start hS
  unfold seneschallaw01_CodecPercent_p at hF
  refine wp_seq_k ?_; intro K1 hK1
  refine wp_region_lit ?_
  refine p_val (r_assign (v := .bool (false)) rfl) ?_
  refine wpList_nil ?_
  refine x_norm ?_; refine hK1 _ _ ?_; clear hK1
  refine wp_seq_k ?_; intro K2 hK2
  refine wp_region_lit ?_
  refine p_val (r_move (v := str (x1)) rfl) ?_
  obtain ⟨y1, e1, hF⟩ := bnd hF
  refine p_call (l := [str (x1)]) is20 rfl ?_
  refine (codec_FromPercent_c H.sub hG e1).mono ?_; rintro _ w1 ⟨rfl, hx⟩; replace H := H.ext hx; clear hx
  refine p_val (r_move (v := .tuple #[str (y1.1), .int .i64 (y1.2)]) rfl) ?_
  refine p_val (r_extract (v := str (y1.1)) rfl rfl) ?_
  refine p_val (r_extract (v := .int .i64 (y1.2)) rfl rfl) ?_
  refine p_val (r_assign (v := str (y1.1)) rfl) ?_
  refine p_val (r_assign (v := .int .i64 (y1.2)) rfl) ?_
  refine wpList_nil ?_
  refine x_norm ?_; refine hK2 _ _ ?_; clear hK2
  refine wp_seq_k ?_; intro K3 hK3
  refine wp_region_lit ?_
  refine p_val (r_move (v := str (x1)) rfl) ?_
  obtain ⟨y2, e2, hF⟩ := bnd hF
  refine p_call (l := [str (x1)]) is21 rfl ?_
  refine (seneschalref01_FromPercent_c H.sub e2).mono ?_; rintro _ w2 ⟨rfl, hx⟩; replace H := H.ext hx; clear hx
  refine p_val (r_move (v := .tuple #[str (y2.1), .int .i64 (y2.2)]) rfl) ?_
  refine p_val (r_extract (v := str (y2.1)) rfl rfl) ?_
  refine p_val (r_extract (v := .int .i64 (y2.2)) rfl rfl) ?_
  refine p_val (r_assign (v := str (y2.1)) rfl) ?_
  refine p_val (r_assign (v := .int .i64 (y2.2)) rfl) ?_
  refine wpList_nil ?_
  refine x_norm ?_; refine hK3 _ _ ?_; clear hK3
  refine wp_seq_k ?_; intro K4 hK4
  refine wp_region_lit ?_
  obtain ⟨y3, e3, hF⟩ := bnd hF
  refine p_call (l := []) is13 rfl ?_
  refine (seneschallaw01_awake_c H.sub hG e3).mono ?_; rintro _ w3 ⟨rfl, hx⟩; replace H := H.ext hx; clear hx
  refine p_val (r_move (v := .bool (y3)) rfl) ?_
  refine nameL fun m1 k1 => ?_
  refine gs_at 6 fun K5 hK5 R1 hR1 => ?_
  obtain ⟨t1, hE1, hF1⟩ := bnd hF
  have J3 : ∀ (m2 : FM) (w6 : World), (∀ t, has [21, 22, 23, 24, 25, 26] t = false → look m2 t = look m1 t) → look m2 26 = .bool (t1) → HS ⟨S, [], w⟩ S w6 [] → K5 m2 w6 := by
    clear H; intro m2 w6 k2 q1 H
    have q2 : look m2 5 = str (y1.1) := (k2 5 rfl).trans (k1 5)
    have q3 : look m2 6 = .int .i64 (y1.2) := (k2 6 rfl).trans (k1 6)
    have q4 : look m2 7 = str (y2.1) := (k2 7 rfl).trans (k1 7)
    have q5 : look m2 8 = .int .i64 (y2.2) := (k2 8 rfl).trans (k1 8)
    refine hK5 _ _ ?_
    refine p_val (r_move (v := .bool (t1)) q1) ?_
    refine nameL fun m3 k3 => ?_
    refine gs_at 4 fun K6 hK6 R2 hR2 => ?_
    have J1 : ∀ (m4 : FM), (∀ t, has [28, 29, 30, 31] t = false → look m4 t = look m3 t) → look m4 31 = .bool ((bif t1 then (y1.1 == y2.1) else false)) → K6 m4 w6 := by
      intro m4 k4 q6
      have q7 : look m4 6 = .int .i64 (y1.2) := (k4 6 rfl).trans ((k3 6).trans q3)
      have q8 : look m4 8 = .int .i64 (y2.2) := (k4 8 rfl).trans ((k3 8).trans q5)
      refine hK6 _ _ ?_; clear hK6 hR2
      refine p_val (r_move (v := .bool ((bif t1 then (y1.1 == y2.1) else false))) q6) ?_
      refine nameL fun m5 k5 => ?_
      refine gs_at 4 fun K7 hK7 R3 hR3 => ?_
      have J2 : ∀ (m6 : FM), (∀ t, has [33, 34, 35, 36] t = false → look m6 t = look m5 t) → look m6 36 = .bool ((bif (bif t1 then (y1.1 == y2.1) else false) then (y1.2 == y2.2) else false)) → K7 m6 w6 := by
        intro m6 k6 q9
        refine hK7 _ _ ?_; clear hK7 hR3
        refine p_val (r_assign (v := .bool ((bif (bif t1 then (y1.1 == y2.1) else false) then (y1.2 == y2.2) else false))) q9) ?_
        refine wpList_nil ?_
        refine x_norm ?_; refine hK4 _ _ ?_; clear hK4
        refine wp_ret ?_
        obtain rfl := Option.some.inj hF1
        refine e_1 rfl (q_tmp (v := .bool ((bif (bif t1 then (y1.1 == y2.1) else false) then (y1.2 == y2.2) else false))) rfl) ?_
        exact ⟨rfl, H.toExt⟩
      refine p_gs (j := 13) (gvl_at rfl rfl (k5 32)) (fun hb2 => ?_) (fun hb2 => ?_)
      · skip
        refine p_want (gvl_at rfl rfl (k5 32)) hb2 ?_
        refine p_val (r_move (v := .int .i64 (y1.2)) ((k5 6).trans q7)) ?_
        refine p_want (gvl_at rfl rfl (k5 32)) hb2 ?_
        refine p_val (r_move (v := .int .i64 (y2.2)) ((k5 8).trans q8)) ?_
        refine p_want (gvl_at rfl rfl (k5 32)) hb2 ?_
        refine p_val (r_eql (t := (y1.2 == y2.2)) rfl rfl rfl) ?_
        refine p_val (r_pickt (v := .bool ((y1.2 == y2.2))) (k5 32) hb2 rfl) ?_
        refine hR3 _ _ ?_
        exact J2 _ (by (repeat (refine keep_cons rfl ?_)); exact fun _ _ => rfl) (show (.bool ((y1.2 == y2.2)) : Value) = .bool ((bif (bif t1 then (y1.1 == y2.1) else false) then (y1.2 == y2.2) else false)) from congrArg Value.bool (by simp only [hb2, cond_true, cond_false]))
      · skip
        refine p_skip (gvl_at rfl rfl (k5 32)) hb2 ?_
        rw [put_fr]
        refine p_skip (gvl_at rfl rfl (k5 32)) hb2 ?_
        rw [put_fr]
        refine p_skip (gvl_at rfl rfl (k5 32)) hb2 ?_
        rw [put_fr]
        refine p_val (r_pickf (v := .bool (false)) (k5 32) hb2 rfl) ?_
        refine hR3 _ _ ?_
        exact J2 _ (by (repeat (refine keep_cons rfl ?_)); exact fun _ _ => rfl) (show (.bool (false) : Value) = .bool ((bif (bif t1 then (y1.1 == y2.1) else false) then (y1.2 == y2.2) else false)) from congrArg Value.bool (by simp only [hb2, cond_true, cond_false]))
    refine p_gs (j := 8) (gvl_at rfl rfl (k3 27)) (fun hb3 => ?_) (fun hb3 => ?_)
    · skip
      refine p_want (gvl_at rfl rfl (k3 27)) hb3 ?_
      refine p_val (r_move (v := str (y1.1)) ((k3 5).trans q2)) ?_
      refine p_want (gvl_at rfl rfl (k3 27)) hb3 ?_
      refine p_val (r_move (v := str (y2.1)) ((k3 7).trans q4)) ?_
      refine p_want (gvl_at rfl rfl (k3 27)) hb3 ?_
      refine p_val (r_eqT (t := (y1.1 == y2.1)) rfl rfl rfl) ?_
      refine p_val (r_pickt (v := .bool ((y1.1 == y2.1))) (k3 27) hb3 rfl) ?_
      refine hR2 _ _ ?_
      exact J1 _ (by (repeat (refine keep_cons rfl ?_)); exact fun _ _ => rfl) (show (.bool ((y1.1 == y2.1)) : Value) = .bool ((bif t1 then (y1.1 == y2.1) else false)) from congrArg Value.bool (by simp only [hb3, cond_true, cond_false]))
    · skip
      refine p_skip (gvl_at rfl rfl (k3 27)) hb3 ?_
      rw [put_fr]
      refine p_skip (gvl_at rfl rfl (k3 27)) hb3 ?_
      rw [put_fr]
      refine p_skip (gvl_at rfl rfl (k3 27)) hb3 ?_
      rw [put_fr]
      refine p_val (r_pickf (v := .bool (false)) (k3 27) hb3 rfl) ?_
      refine hR2 _ _ ?_
      exact J1 _ (by (repeat (refine keep_cons rfl ?_)); exact fun _ _ => rfl) (show (.bool (false) : Value) = .bool ((bif t1 then (y1.1 == y2.1) else false)) from congrArg Value.bool (by simp only [hb3, cond_true, cond_false]))
  refine p_gs (j := 1) (gvl_at rfl rfl (k1 20)) (fun hb1 => ?_) (fun hb1 => ?_)
  · replace hE1 := cnd_t hE1 hb1
    refine p_want (gvl_at rfl rfl (k1 20)) hb1 ?_
    refine p_val (r_move (v := str (x0)) (k1 0)) ?_
    refine p_want (gvl_at rfl rfl (k1 20)) hb1 ?_
    obtain ⟨y4, e4, hE1⟩ := bnd hE1
    refine p_call (l := [str (x0)]) is22 rfl ?_
    refine (codec_Percent_c H.sub e4).mono ?_; rintro _ w4 ⟨rfl, hx⟩; replace H := H.ext hx; clear hx
    refine p_want (gvl_at rfl rfl (k1 20)) hb1 ?_
    refine p_val (r_move (v := str (x0)) (k1 0)) ?_
    refine p_want (gvl_at rfl rfl (k1 20)) hb1 ?_
    obtain ⟨y5, e5, hE1⟩ := bnd hE1
    refine p_call (l := [str (x0)]) is23 rfl ?_
    refine (seneschalref01_Percent_c H.sub e5).mono ?_; rintro _ w5 ⟨rfl, hx⟩; replace H := H.ext hx; clear hx
    refine p_want (gvl_at rfl rfl (k1 20)) hb1 ?_
    refine p_val (r_eqT (t := (y4 == y5)) rfl rfl rfl) ?_
    refine p_val (r_pickt (v := .bool ((y4 == y5))) (k1 20) hb1 rfl) ?_
    refine hR1 _ _ ?_
    replace H : HS ⟨S, [], w⟩ S w5 [] := H
    obtain rfl := Option.some.inj hE1
    exact J3 _ _ (by (repeat (refine keep_cons rfl ?_)); exact fun _ _ => rfl) rfl H
  · replace hE1 := cnd_f hE1 hb1
    refine p_skip (gvl_at rfl rfl (k1 20)) hb1 ?_
    rw [put_fr]
    refine p_skip (gvl_at rfl rfl (k1 20)) hb1 ?_
    rw [put_fr]
    refine p_skip (gvl_at rfl rfl (k1 20)) hb1 ?_
    rw [put_fr]
    refine p_skip (gvl_at rfl rfl (k1 20)) hb1 ?_
    rw [put_fr]
    refine p_skip (gvl_at rfl rfl (k1 20)) hb1 ?_
    rw [put_fr]
    refine p_val (r_pickf (v := .bool (false)) (k1 20) hb1 rfl) ?_
    refine hR1 _ _ ?_
    replace H : HS ⟨S, [], w⟩ S w3 [] := H
    obtain rfl := Option.some.inj hE1
    exact J3 _ _ (by (repeat (refine keep_cons rfl ?_)); exact fun _ _ => rfl) rfl H
def seneschallaw01_CodecForm_b1 (s2 : Int × (List ((List UInt8) × (List UInt8)))) : Option ((Int × (List ((List UInt8) × (List UInt8)))) ⊕ ((List ((List UInt8) × (List UInt8))))) :=
  bif decide (s2.1 < ((s2.2).length : Int)) then (Option.bind (idx s2.2 s2.1) fun y7 => Option.bind (setL s2.2 (s2.1 : Int) (([115, 112, 111, 105, 108, 116] : List UInt8), ([] : List UInt8))) fun y8 => some (.inl (((w64 (s2.1 + 1)), y8)))) else (some (.inr (s2.2)))
def seneschallaw01_CodecForm_b0 (x1 : List UInt8) (s1 : Int) : Option ((Int) ⊕ ((Bool) ⊕ (Unit))) :=
  bif decide (s1 < 2) then (jn (Option.bind (codec_FromForm_p x1) fun y4 => Option.bind (seneschalref01_FromForm_p x1) fun y5 => Option.bind (bif (y4.2 != y5.2) then (some (true)) else (Option.bind (seneschalref01_Same_p y4.1 y5.1) fun y6 => some ((!y6)))) (fun t3 => bif t3 then (some (.inr (false))) else (Option.bind (Option.bind (iter (seneschallaw01_CodecForm_b1) ((0, y4.1))) (fun e => some (e))) (fun t4 => Option.bind (app t4 ([(([] : List UInt8), x1)] : List ((List UInt8) × (List UInt8)))) fun y9 => some (.inl (())))))) (fun t2 => some (.inl ((w64 (s1 + 1))))) (fun e => some (.inr (.inl (e))))) else (some (.inr (.inr (()))))
def seneschallaw01_CodecForm_p (x0 : List ((List UInt8) × (List UInt8))) (x1 : List UInt8) : Option (Bool) :=
  Option.bind (codec_Form_p x0) fun y1 => Option.bind (seneschalref01_Form_p x0) fun y2 => Option.bind (seneschallaw01_awake_p) fun y3 => bif (bif (bif (!y3) then true else (y1.1 != y2.1)) then true else (y1.2 != y2.2)) then (some (false)) else (jn (Option.bind (iter (seneschallaw01_CodecForm_b0 x1) (0)) (fun e => jnO e (fun e1 => some (.inr (e1))) (fun e2 => some (.inl (e2))))) (fun t1 => some (true)) (fun e => some (e)))
theorem seneschallaw01_CodecForm_c {S : Mem} {w : World} (hS : Sub S w) (hG : GV S) {v0_ : Value} {x0 : List ((List UInt8) × (List UInt8))} (h0_ : RdS S v0_ x0) {x1 : List UInt8} {r : Bool} (hF : seneschallaw01_CodecForm_p x0 x1 = some r) :
    Calls Tryd.prog 6 #[v0_, str (x1)] w fun e w' => e = .returned (.bool (r)) ∧ Ext w w' := by
  refine enter (n := 75) Tryd.func6 rfl rfl rfl ?_
  have H := HS.start hS
  unfold seneschallaw01_CodecForm_p at hF
  refine wp_seq_k ?_; intro K1 hK1
  refine wp_region_lit ?_
  refine p_val (r_assign (v := .bool (false)) rfl) ?_
  refine wpList_nil ?_
  refine x_norm ?_; refine hK1 _ _ ?_; clear hK1
  refine wp_seq_k ?_; intro K2 hK2
  refine wp_region_lit ?_
  refine p_val (r_move (v := v0_) rfl) ?_
  obtain ⟨y1, e1, hF⟩ := bnd hF
  refine p_call (l := [v0_]) is24 rfl ?_
  refine (codec_Form_c H.sub h0_ e1).mono ?_; rintro _ w1 ⟨rfl, hx⟩; replace H := H.ext hx; clear hx
  refine p_val (r_move (v := .tuple #[str (y1.1), .int .i64 (y1.2)]) rfl) ?_
  refine p_val (r_extract (v := str (y1.1)) rfl rfl) ?_
  refine p_val (r_extract (v := .int .i64 (y1.2)) rfl rfl) ?_
  refine p_val (r_assign (v := str (y1.1)) rfl) ?_
  refine p_val (r_assign (v := .int .i64 (y1.2)) rfl) ?_
  refine wpList_nil ?_
  refine x_norm ?_; refine hK2 _ _ ?_; clear hK2
  refine wp_seq_k ?_; intro K3 hK3
  refine wp_region_lit ?_
  refine p_val (r_move (v := v0_) rfl) ?_
  obtain ⟨y2, e2, hF⟩ := bnd hF
  refine p_call (l := [v0_]) is25 rfl ?_
  refine (seneschalref01_Form_c H.sub h0_ e2).mono ?_; rintro _ w2 ⟨rfl, hx⟩; replace H := H.ext hx; clear hx
  refine p_val (r_move (v := .tuple #[str (y2.1), .int .i64 (y2.2)]) rfl) ?_
  refine p_val (r_extract (v := str (y2.1)) rfl rfl) ?_
  refine p_val (r_extract (v := .int .i64 (y2.2)) rfl rfl) ?_
  refine p_val (r_assign (v := str (y2.1)) rfl) ?_
  refine p_val (r_assign (v := .int .i64 (y2.2)) rfl) ?_
  refine wpList_nil ?_
  refine x_norm ?_; refine hK3 _ _ ?_; clear hK3
  refine wp_seq_k ?_; intro K4 hK4
  refine wp_seq_k ?_; intro K5 hK5
  refine wp_region_lit ?_
  obtain ⟨y3, e3, hF⟩ := bnd hF
  refine p_call (l := []) is13 rfl ?_
  refine (seneschallaw01_awake_c H.sub hG e3).mono ?_; rintro _ w3 ⟨rfl, hx⟩; replace H := H.ext hx; clear hx
  refine p_val (r_not (t := (!y3)) rfl rfl) ?_
  refine p_val (r_move (v := .bool ((!y3))) rfl) ?_
  refine nameL fun m1 k1 => ?_
  refine gs_at 4 fun K6 hK6 R1 hR1 => ?_
  have J1 : ∀ (m2 : FM), (∀ t, has [28, 29, 30, 31] t = false → look m2 t = look m1 t) → look m2 31 = .bool ((bif (!y3) then true else (y1.1 != y2.1))) → K6 m2 w3 := by
    intro m2 k2 q1
    have q2 : look m2 1 = str (x1) := (k2 1 rfl).trans (k1 1)
    have q3 : look m2 6 = .int .i64 (y1.2) := (k2 6 rfl).trans (k1 6)
    have q4 : look m2 8 = .int .i64 (y2.2) := (k2 8 rfl).trans (k1 8)
    refine hK6 _ _ ?_; clear hK6 hR1
    refine p_val (r_move (v := .bool ((bif (!y3) then true else (y1.1 != y2.1)))) q1) ?_
    refine nameL fun m3 k3 => ?_
    refine gs_at 4 fun K7 hK7 R2 hR2 => ?_
    have J2 : ∀ (m4 : FM), (∀ t, has [33, 34, 35, 36] t = false → look m4 t = look m3 t) → look m4 36 = .bool ((bif (bif (!y3) then true else (y1.1 != y2.1)) then true else (y1.2 != y2.2))) → K7 m4 w3 := by
      intro m4 k4 q5
      have q6 : look m4 1 = str (x1) := (k4 1 rfl).trans ((k3 1).trans q2)
      refine hK7 _ _ ?_; clear hK7 hR2
      refine wpList_nil ?_
      refine x_norm ?_; refine hK5 _ _ ?_; clear hK5
      refine c_split (t := (bif (bif (!y3) then true else (y1.1 != y2.1)) then true else (y1.2 != y2.2))) q5 (fun hc1 => ?_) (fun hc1 => ?_)
      · replace hF := cnd_t hF hc1
        refine wp_seq_k ?_; intro K8 hK8
        refine wp_region_lit ?_
        refine p_val (r_assign (v := .bool (false)) rfl) ?_
        refine wpList_nil ?_
        refine x_norm ?_; refine hK8 _ _ ?_; clear hK8
        refine wp_ret ?_
        refine x_ret ?_
        obtain rfl := Option.some.inj hF
        refine e_1 rfl (q_tmp (v := .bool (false)) rfl) ?_
        exact ⟨rfl, H.toExt⟩
      · replace hF := cnd_f hF hc1
        refine wp_skip ?_
        refine x_norm ?_; refine hK4 _ _ ?_; clear hK4
        refine wp_seq_k ?_; intro K9 hK9
        refine nameF fun m5 k5 => ?_
        obtain ⟨o1, hE1, hF1⟩ := jn_some hF
        have J6 : ∀ (t1 : Unit) (S5 : Mem) (m16 : FM) (w15 : World), o1 = .inl t1 → (∀ t, has [4, 9, 10, 11, 12, 13, 14, 37, 38, 39, 40, 41, 42, 43, 44, 45, 46, 47, 48, 49, 50, 51, 52, 53, 54, 55, 56, 57, 58, 59, 60, 61, 62, 63, 64, 65, 66, 67, 68, 69, 70, 71, 72, 73, 74] t = false → look m16 t = look m5 t) → Mem.le S S5 → HS ⟨S, [], w⟩ S5 w15 [] → K9 (fr 75 m16) w15 := by
          clear H; intro t1 S5 m16 w15 ho k18 hle5 H
          replace hG := GV.mono hG hle5
          replace h0_ := RdS.mono h0_ hle5
          replace hF1 := jnO_l hF1 ho
          refine hK9 _ _ ?_
          refine wp_seq_k ?_; intro K25 hK25
          refine wp_region_lit ?_
          refine p_val (r_assign (v := .bool (true)) rfl) ?_
          refine wpList_nil ?_
          refine x_norm ?_; refine hK25 _ _ ?_; clear hK25
          refine wp_ret ?_
          obtain rfl := Option.some.inj hF1
          refine e_1 rfl (q_tmp (v := .bool (true)) rfl) ?_
          exact ⟨rfl, H.toExt⟩
        refine wp_seq_k ?_; intro K10 hK10
        refine wp_region_lit ?_
        refine p_val (r_assign (v := .int .i64 (0)) rfl) ?_
        refine wpList_nil ?_
        refine x_norm ?_; refine hK10 _ _ ?_; clear hK10
        refine wp_block ?_
        refine nameF fun m6 k6 => ?_
        obtain ⟨out1, hL1, hE2⟩ := bnd hE1
        replace H : HS ⟨S, [], w⟩ S w3 [] := H
        refine loopI [4, 9, 10, 11, 12, 13, 14, 37, 38, 39, 40, 41, 42, 43, 44, 45, 46, 47, 48, 49, 50, 51, 52, 53, 54, 55, 56, 57, 58, 59, 60, 61, 62, 63, 64, 65, 66, 67, 68, 69, 70, 71, 72, 73, 74] (fun (s1 : Int) (m7 : FM) (w4 : World) => ∃ (S1 : Mem), look m7 9 = .int .i64 (s1) ∧ Mem.le S S1 ∧ HS ⟨S, [], w⟩ S1 w4 []) hL1 ⟨_, (k6 9), (Mem.le_refl _), H⟩ ?_
        clear H; intro k8 s1 m7 w4 k7 hI1 o2 hb1 hh1; obtain ⟨S1, q7, hle1, H⟩ := hI1
        replace hG := GV.mono hG hle1
        replace h0_ := RdS.mono h0_ hle1
        have q8 : look m7 1 = str (x1) := (k7 1 rfl).trans ((k6 1).trans ((k5 1).trans q6))
        unfold seneschallaw01_CodecForm_b0 at hb1
        refine wp_seq_k ?_; intro K11 hK11
        refine wp_seq_k ?_; intro K12 hK12
        refine wp_region_lit ?_
        refine p_val (r_move (v := .int .i64 (s1)) q7) ?_
        refine p_val (r_lss (t := decide (s1 < 2)) rfl rfl rfl) ?_
        refine wpList_nil ?_
        refine x_norm ?_; refine hK12 _ _ ?_; clear hK12
        refine c_split (t := decide (s1 < 2)) rfl (fun hc2 => ?_) (fun hc2 => ?_)
        · replace hb1 := cnd_t hb1 hc2
          refine wp_skip ?_
          refine x_norm ?_; refine hK11 _ _ ?_; clear hK11
          refine wp_seq_k ?_; intro K13 hK13
          refine nameF fun m8 k9 => ?_
          obtain ⟨o3, hE3, hF2⟩ := jn_some hb1
          have J5 : ∀ (t2 : Unit) (S4 : Mem) (m15 : FM) (w14 : World), o3 = .inl t2 → (∀ t, has [4, 10, 11, 12, 13, 14, 41, 42, 43, 44, 45, 46, 47, 48, 49, 50, 51, 52, 53, 54, 55, 56, 57, 58, 59, 60, 61, 62, 63, 64, 65, 66, 67, 68, 69, 70, 71, 72, 73, 74] t = false → look m15 t = look m8 t) → Mem.le S1 S4 → HS ⟨S, [], w⟩ S4 w14 [] → K13 (fr 75 m15) w14 := by
            clear H; intro t2 S4 m15 w14 ho k17 hle4 H
            replace hG := GV.mono hG hle4
            replace h0_ := RdS.mono h0_ hle4
            replace hF2 := jnO_l hF2 ho
            have q20 : look m15 1 = str (x1) := (k17 1 rfl).trans ((k9 1).trans q8)
            have q21 : look m15 9 = .int .i64 (s1) := (k17 9 rfl).trans ((k9 9).trans q7)
            refine hK13 _ _ ?_
            refine wp_region_lit ?_
            refine p_val (r_move (v := .int .i64 (s1)) q21) ?_
            refine p_val (r_add (r := w64 (s1 + 1)) rfl rfl rfl) ?_
            refine p_val (r_assign (v := .int .i64 ((w64 (s1 + 1)))) rfl) ?_
            refine wpList_nil ?_
            refine x_norm ?_
            replace H : HS ⟨S, [], w⟩ S4 w14 [] := H
            obtain rfl := Option.some.inj hF2
            exact ⟨(w64 (s1 + 1)), _, rfl, (by (repeat (refine keep_cons rfl ?_)); refine keep_sub k17 rfl ?_; (repeat (refine keep_cons rfl ?_)); refine keep_name k9 ?_; (repeat (refine keep_cons rfl ?_)); refine keep_sub k7 rfl ?_; (repeat (refine keep_cons rfl ?_)); exact fun _ _ => rfl), ⟨_, rfl, (Mem.le_trans hle1 hle4), H⟩, hh1⟩
          refine wp_block ?_
          refine wp_seq_k ?_; intro K14 hK14
          refine wp_region_lit ?_
          refine p_val (r_move (v := str (x1)) ((k9 1).trans q8)) ?_
          obtain ⟨y4, e4, hE3⟩ := bnd hE3
          refine p_call (l := [str (x1)]) is26 rfl ?_
          refine (codec_FromForm_c (H.hand [] rfl) hG e4).mono ?_; rintro _ w5 ⟨S2, pv1, pcs1, prs1, rfl, H2, pg1⟩
          obtain ⟨H1, hle2⟩ := H.frame [] [] rfl H2; clear H H2; have H := H1; clear H1
          replace hG := GV.mono hG hle2
          replace h0_ := RdS.mono h0_ hle2
          replace H : HS ⟨S, [], w⟩ S2 w5 [.osl (pv1) (y4.1).length 2 pcs1 prs1 34] := H
          refine p_val (r_move (v := .tuple #[pv1, .int .i64 (y4.2)]) rfl) ?_
          refine p_val (r_extract (v := pv1) rfl rfl) ?_
          refine p_val (r_extract (v := .int .i64 (y4.2)) rfl rfl) ?_
          refine p_val (r_assign (v := pv1) rfl) ?_
          refine p_val (r_assign (v := .int .i64 (y4.2)) rfl) ?_
          refine wpList_nil ?_
          refine x_norm ?_; refine hK14 _ _ ?_; clear hK14
          refine wp_seq_k ?_; intro K15 hK15
          refine wp_region_lit ?_
          refine p_val (r_move (v := str (x1)) ((k9 1).trans q8)) ?_
          obtain ⟨y5, e5, hE3⟩ := bnd hE3
          refine p_call (l := [str (x1)]) is27 rfl ?_
          refine (seneschalref01_FromForm_c H.sub e5).mono ?_; rintro _ w6 ⟨hx, v1, rfl, g1⟩
          obtain ⟨S3, hle3, H1, g1⟩ : ∃ S3, Mem.le S2 S3 ∧ HS ⟨S, [], w⟩ S3 w6 [.osl (pv1) (y4.1).length 2 pcs1 prs1 34] ∧ RdS S3 v1 y5.1 := ⟨_, gr_le H.sub, H.call hx, g1⟩; clear H hx; have H := H1; clear H1
          replace hG := GV.mono hG hle3
          replace h0_ := RdS.mono h0_ hle3
          replace pg1 := RL.mono pg1 hle3
          refine p_val (r_move (v := .tuple #[v1, .int .i64 (y5.2)]) rfl) ?_
          refine p_val (r_extract (v := v1) rfl rfl) ?_
          refine p_val (r_extract (v := .int .i64 (y5.2)) rfl rfl) ?_
          refine p_val (r_assign (v := v1) rfl) ?_
          refine p_val (r_assign (v := .int .i64 (y5.2)) rfl) ?_
          refine wpList_nil ?_
          refine x_norm ?_; refine hK15 _ _ ?_; clear hK15
          refine wp_seq_k ?_; intro K16 hK16
          refine wp_seq_k ?_; intro K17 hK17
          refine wp_region_lit ?_
          refine p_val (r_move (v := .int .i64 (y4.2)) rfl) ?_
          refine p_val (r_move (v := .int .i64 (y5.2)) rfl) ?_
          refine p_val (r_neq (t := (y4.2 != y5.2)) rfl rfl rfl) ?_
          refine p_val (r_move (v := .bool ((y4.2 != y5.2))) rfl) ?_
          refine nameL fun m9 k10 => ?_
          refine gs_at 5 fun K18 hK18 R4 hR4 => ?_
          obtain ⟨t3, hE4, hF3⟩ := bnd hE3
          have J4 : ∀ (m10 : FM) (w8 : World), (∀ t, has [55, 56, 57, 58, 59] t = false → look m10 t = look m9 t) → look m10 59 = .bool (t3) → HS ⟨S, [], w⟩ S3 w8 [.osl (pv1) (y4.1).length 2 pcs1 prs1 34] → K18 m10 w8 := by
            clear H; intro m10 w8 k11 q9 H
            have q10 : look m10 1 = str (x1) := (k11 1 rfl).trans ((k10 1).trans ((k9 1).trans q8))
            have q11 : look m10 9 = .int .i64 (s1) := (k11 9 rfl).trans ((k10 9).trans ((k9 9).trans q7))
            have q12 : look m10 10 = pv1 := (k11 10 rfl).trans (k10 10)
            refine hK18 _ _ ?_
            refine wpList_nil ?_
            refine x_norm ?_; refine hK17 _ _ ?_; clear hK17
            refine c_split (t := t3) q9 (fun hc3 => ?_) (fun hc3 => ?_)
            · replace hF3 := cnd_t hF3 hc3
              refine wp_seq_k ?_; intro K19 hK19
              refine wp_region_lit ?_
              refine p_val (r_assign (v := .bool (false)) rfl) ?_
              refine wpList_nil ?_
              refine x_norm ?_; refine hK19 _ _ ?_; clear hK19
              refine wp_ret ?_
              refine x_ret ?_
              refine b_ret ?_
              refine x_ret ?_
              refine x_ret ?_
              refine b_ret ?_
              refine x_ret ?_
              obtain rfl := Option.some.inj hF3
              obtain rfl := Option.some.inj hF2
              obtain rfl := Option.some.inj hh1
              obtain rfl := Option.some.inj hE2
              obtain rfl := Option.some.inj hF1
              refine e_1 rfl (q_tmp (v := .bool (false)) rfl) ?_
              exact ⟨rfl, H.toExt⟩
            · replace hF3 := cnd_f hF3 hc3
              refine wp_skip ?_
              refine x_norm ?_; refine hK16 _ _ ?_; clear hK16
              refine wp_seq_k ?_; intro K20 hK20
              refine nameF fun m11 k12 => ?_
              obtain ⟨t4, hE5, hF4⟩ := bnd hF3
              have J3 : ∀ (cs3 rs2 : List Value) (m14 : FM) (w11 : World), (∀ t, has [14, 60, 61, 62, 63, 64, 65, 66, 67, 68, 69] t = false → look m14 t = look m11 t) → HS ⟨S, [], w⟩ S3 w11 [.osl (pv1) (t4).length 2 cs3 rs2 34] → RL S3 cs3 t4 → K20 (fr 75 m14) w11 := by
                clear H; intro cs3 rs2 m14 w11 k16 H g4
                have q17 : look m14 1 = str (x1) := (k16 1 rfl).trans ((k12 1).trans q10)
                have q18 : look m14 9 = .int .i64 (s1) := (k16 9 rfl).trans ((k12 9).trans q11)
                have q19 : look m14 10 = pv1 := (k16 10 rfl).trans ((k12 10).trans q12)
                refine hK20 _ _ ?_
                refine wp_region_lit ?_
                refine p_val (r_move (v := pv1) q19) ?_
                refine p_val (r_move (v := str (x1)) q17) ?_
                refine p_val (r_build (vals := [(1, str (x1))]) (l := ([str (([] : List UInt8))] ++ ([str (x1)]))) tb34 rfl rfl) ?_
                have g5 : RL S3 (([str (([] : List UInt8))] ++ ([str (x1)])) ++ ([] : List Value)) ([(([] : List UInt8), x1)] : List ((List UInt8) × (List UInt8))) := (RL.cons (rpP rpT rpT) RL.nil)
                refine p_of1 (a_bslice (N := 1) (vals := [(0, .agg (([str (([] : List UInt8))] ++ ([str (x1)]))).toArray)]) (l := (([str (([] : List UInt8))] ++ ([str (x1)])) ++ ([] : List Value))) tn28 H rfl rfl rfl g5.len) ?_; clear H; intro w12 v4 H
                generalize (([str (([] : List UInt8))] ++ ([str (x1)])) ++ ([] : List Value)) = cs4 at H g5
                replace H : HS ⟨S, [], w⟩ S3 w12 [.osl (v4) (([(([] : List UInt8), x1)] : List ((List UInt8) × (List UInt8)))).length 2 cs4 [] 34, .osl (pv1) (t4).length 2 cs3 rs2 34] := H
                obtain ⟨y9, e9, hF4⟩ := bnd hF4
                refine p_of1 (a_appendX (k := 1) (v2 := v4) tn28 rfl H rfl rfl g4 rfl (H.slW (k := 0) rfl) g5 e9) ?_; clear H; rintro w13 v5 ⟨cs5, rs3, H, g6⟩
                replace H : HS ⟨S, [], w⟩ S3 w13 [.osl (v4) (([(([] : List UInt8), x1)] : List ((List UInt8) × (List UInt8)))).length 2 cs4 [] 34, .osl (v5) (y9).length 2 cs5 rs3 34] := H
                replace H := H.sel [1] rfl
                replace H : HS ⟨S, [], w⟩ S3 w13 [.osl (v5) (y9).length 2 cs5 rs3 34] := H
                refine p_val (r_assign (v := v5) rfl) ?_
                refine wpList_nil ?_
                refine b_norm ?_
                refine x_norm ?_
                replace H := H.sel [] rfl
                replace H : HS ⟨S, [], w⟩ S3 w13 [] := H
                obtain rfl := Option.some.inj hF4
                exact J5 _ _ _ _ rfl (by (repeat (refine keep_cons rfl ?_)); refine keep_sub k16 rfl ?_; (repeat (refine keep_cons rfl ?_)); refine keep_name k12 ?_; (repeat (refine keep_cons rfl ?_)); refine keep_sub k11 rfl ?_; (repeat (refine keep_cons rfl ?_)); refine keep_name k10 ?_; (repeat (refine keep_cons rfl ?_)); exact fun _ _ => rfl) (Mem.le_trans hle2 hle3) H
              refine wp_seq_k ?_; intro K21 hK21
              refine wp_region_lit ?_
              refine p_val (r_assign (v := .int .i64 (0)) rfl) ?_
              refine wpList_nil ?_
              refine x_norm ?_; refine hK21 _ _ ?_; clear hK21
              refine wp_block ?_
              refine nameF fun m12 k13 => ?_
              obtain ⟨out2, hL2, hE6⟩ := bnd hE5
              replace H : HS ⟨S, [], w⟩ S3 w8 [.osl (pv1) (y4.1).length 2 pcs1 prs1 34] := H
              refine loopI [14, 60, 61, 62, 63, 64, 65, 66, 67, 68, 69] (fun (s2 : Int × (List ((List UInt8) × (List UInt8)))) (m13 : FM) (w9 : World) => ∃ (cs1 rs1 : List Value), look m13 14 = .int .i64 (s2.1) ∧ HS ⟨S, [], w⟩ S3 w9 [.osl (pv1) (s2.2).length 2 cs1 rs1 34] ∧ RL S3 cs1 s2.2) hL2 ⟨_, _, (k13 14), H, pg1⟩ ?_
              clear H; intro k15 s2 m13 w9 k14 hI2 o6 hb3 hh2; obtain ⟨cs1, rs1, q13, H, g2⟩ := hI2
              have q14 : look m13 1 = str (x1) := (k14 1 rfl).trans ((k13 1).trans ((k12 1).trans q10))
              have q15 : look m13 9 = .int .i64 (s1) := (k14 9 rfl).trans ((k13 9).trans ((k12 9).trans q11))
              have q16 : look m13 10 = pv1 := (k14 10 rfl).trans ((k13 10).trans ((k12 10).trans q12))
              unfold seneschallaw01_CodecForm_b1 at hb3
              refine wp_seq_k ?_; intro K22 hK22
              refine wp_seq_k ?_; intro K23 hK23
              refine wp_region_lit ?_
              refine p_val (r_move (v := .int .i64 (s2.1)) q13) ?_
              refine p_val (r_move (v := pv1) q16) ?_
              refine p_val (r_lenO u28 rfl H (k := 0) rfl rfl) ?_
              refine p_val (r_lss (t := decide (s2.1 < ((s2.2).length : Int))) rfl rfl rfl) ?_
              refine wpList_nil ?_
              refine x_norm ?_; refine hK23 _ _ ?_; clear hK23
              refine c_split (t := decide (s2.1 < ((s2.2).length : Int))) rfl (fun hc4 => ?_) (fun hc4 => ?_)
              · replace hb3 := cnd_t hb3 hc4
                refine wp_skip ?_
                refine x_norm ?_; refine hK22 _ _ ?_; clear hK22
                refine wp_seq_k ?_; intro K24 hK24
                refine wp_block ?_
                refine wp_region_lit ?_
                refine p_val (r_move (v := pv1) q16) ?_
                refine p_val (r_move (v := .int .i64 (s2.1)) q13) ?_
                refine p_val (r_build (vals := [(0, str (([115, 112, 111, 105, 108, 116] : List UInt8)))]) (l := ([str (([115, 112, 111, 105, 108, 116] : List UInt8))] ++ ([str (([] : List UInt8))]))) tb34 rfl rfl) ?_
                obtain ⟨y7, e7, hb3⟩ := bnd hb3
                obtain ⟨b1, c1, hv1⟩ := H.ownAt (k := 0) rfl (idx_lt e7)
                refine p_val (r_addrV (i := (s2.1 : Int).toNat) u28 tsz34 rfl hv1 rfl (idx_some e7).1 (idx_lt e7)) ?_
                subst hv1
                obtain ⟨y8, e8, hb3⟩ := bnd hb3
                refine p_ofs (a_storeX (k := 0) (v := .agg (([str (([115, 112, 111, 105, 108, 116] : List UInt8))] ++ ([str (([] : List UInt8))]))).toArray) (l := ([str (([115, 112, 111, 105, 108, 116] : List UInt8))] ++ ([str (([] : List UInt8))]))) tsz34 rfl H rfl g2 rfl rfl (cells_agg _) (rpP rpT rpT) e8) ?_; clear H; rintro w10 ⟨cs2, H, g3⟩
                replace H : HS ⟨S, [], w⟩ S3 w10 [.osl (sl b1 0 (s2.2).length c1) (y8).length 2 cs2 rs1 34] := H
                refine wpList_nil ?_
                refine b_norm ?_
                refine x_norm ?_; refine hK24 _ _ ?_; clear hK24
                refine wp_region_lit ?_
                refine p_val (r_move (v := .int .i64 (s2.1)) q13) ?_
                refine p_val (r_add (r := w64 (s2.1 + 1)) rfl rfl rfl) ?_
                refine p_val (r_assign (v := .int .i64 ((w64 (s2.1 + 1)))) rfl) ?_
                refine wpList_nil ?_
                refine x_norm ?_
                replace H : HS ⟨S, [], w⟩ S3 w10 [.osl (sl b1 0 (s2.2).length c1) (y8).length 2 cs2 rs1 34] := H
                obtain rfl := Option.some.inj hb3
                exact ⟨((w64 (s2.1 + 1)), y8), _, rfl, (by (repeat (refine keep_cons rfl ?_)); refine keep_sub k14 rfl ?_; (repeat (refine keep_cons rfl ?_)); exact fun _ _ => rfl), ⟨_, _, rfl, H, g3⟩, hh2⟩
              · replace hb3 := cnd_f hb3 hc4
                refine wp_exit ?_
                refine x_exit ?_
                refine x_exit ?_
                refine b_hit ?_
                refine x_norm ?_
                replace H : HS ⟨S, [], w⟩ S3 w9 [.osl (pv1) (s2.2).length 2 cs1 rs1 34] := H
                obtain rfl := Option.some.inj hb3
                obtain rfl := Option.some.inj hh2
                obtain rfl := Option.some.inj hE6
                exact J3 _ _ _ _ (by (repeat (refine keep_cons rfl ?_)); refine keep_sub k14 rfl ?_; (repeat (refine keep_cons rfl ?_)); refine keep_name k13 ?_; (repeat (refine keep_cons rfl ?_)); exact fun _ _ => rfl) H g2
          refine p_gs (j := 3) (gvl_at rfl rfl (k10 54)) (fun hb2 => ?_) (fun hb2 => ?_)
          · replace hE4 := cnd_t hE4 hb2
            refine p_skip (gvl_at rfl rfl (k10 54)) hb2 ?_
            rw [put_fr]
            refine p_skip (gvl_at rfl rfl (k10 54)) hb2 ?_
            rw [put_fr]
            refine p_skip (gvl_at rfl rfl (k10 54)) hb2 ?_
            rw [put_fr]
            refine p_skip (gvl_at rfl rfl (k10 54)) hb2 ?_
            rw [put_fr]
            refine p_val (r_pickt (v := .bool (true)) (k10 54) hb2 rfl) ?_
            refine hR4 _ _ ?_
            replace H : HS ⟨S, [], w⟩ S3 w6 [.osl (pv1) (y4.1).length 2 pcs1 prs1 34] := H
            obtain rfl := Option.some.inj hE4
            exact J4 _ _ (by (repeat (refine keep_cons rfl ?_)); exact fun _ _ => rfl) rfl H
          · replace hE4 := cnd_f hE4 hb2
            refine p_want (gvl_at rfl rfl (k10 54)) hb2 ?_
            refine p_val (r_move (v := pv1) (k10 10)) ?_
            refine p_want (gvl_at rfl rfl (k10 54)) hb2 ?_
            refine p_val (r_move (v := v1) (k10 12)) ?_
            refine p_want (gvl_at rfl rfl (k10 54)) hb2 ?_
            obtain ⟨y6, e6, hE4⟩ := bnd hE4
            refine p_call (l := [pv1, v1]) is28 rfl ?_
            refine (seneschalref01_Same_c (subMem w6) (RdS.ofOwn H (k := 0) rfl pg1) (g1.mono H.sub) e6).mono ?_; rintro _ w7 ⟨rfl, hx⟩; replace H := H.ext hx; clear hx
            refine p_want (gvl_at rfl rfl (k10 54)) hb2 ?_
            refine p_val (r_not (t := (!y6)) rfl rfl) ?_
            refine p_val (r_pickf (v := .bool ((!y6))) (k10 54) hb2 rfl) ?_
            refine hR4 _ _ ?_
            replace H : HS ⟨S, [], w⟩ S3 w7 [.osl (pv1) (y4.1).length 2 pcs1 prs1 34] := H
            obtain rfl := Option.some.inj hE4
            exact J4 _ _ (by (repeat (refine keep_cons rfl ?_)); exact fun _ _ => rfl) rfl H
        · replace hb1 := cnd_f hb1 hc2
          refine wp_exit ?_
          refine x_exit ?_
          refine x_exit ?_
          refine b_hit ?_
          refine x_norm ?_
          replace H : HS ⟨S, [], w⟩ S1 w4 [] := H
          obtain rfl := Option.some.inj hb1
          obtain rfl := Option.some.inj hh1
          obtain rfl := Option.some.inj hE2
          exact J6 _ _ _ _ rfl (by (repeat (refine keep_cons rfl ?_)); refine keep_sub k7 rfl ?_; (repeat (refine keep_cons rfl ?_)); refine keep_name k6 ?_; (repeat (refine keep_cons rfl ?_)); exact fun _ _ => rfl) hle1 H
    refine p_gs (j := 7) (gvl_at rfl rfl (k3 32)) (fun hb4 => ?_) (fun hb4 => ?_)
    · skip
      refine p_skip (gvl_at rfl rfl (k3 32)) hb4 ?_
      rw [put_fr]
      refine p_skip (gvl_at rfl rfl (k3 32)) hb4 ?_
      rw [put_fr]
      refine p_skip (gvl_at rfl rfl (k3 32)) hb4 ?_
      rw [put_fr]
      refine p_val (r_pickt (v := .bool (true)) (k3 32) hb4 rfl) ?_
      refine hR2 _ _ ?_
      exact J2 _ (by (repeat (refine keep_cons rfl ?_)); exact fun _ _ => rfl) (show (.bool (true) : Value) = .bool ((bif (bif (!y3) then true else (y1.1 != y2.1)) then true else (y1.2 != y2.2))) from congrArg Value.bool (by simp only [hb4, cond_true, cond_false]))
    · skip
      refine p_want (gvl_at rfl rfl (k3 32)) hb4 ?_
      refine p_val (r_move (v := .int .i64 (y1.2)) ((k3 6).trans q3)) ?_
      refine p_want (gvl_at rfl rfl (k3 32)) hb4 ?_
      refine p_val (r_move (v := .int .i64 (y2.2)) ((k3 8).trans q4)) ?_
      refine p_want (gvl_at rfl rfl (k3 32)) hb4 ?_
      refine p_val (r_neq (t := (y1.2 != y2.2)) rfl rfl rfl) ?_
      refine p_val (r_pickf (v := .bool ((y1.2 != y2.2))) (k3 32) hb4 rfl) ?_
      refine hR2 _ _ ?_
      exact J2 _ (by (repeat (refine keep_cons rfl ?_)); exact fun _ _ => rfl) (show (.bool ((y1.2 != y2.2)) : Value) = .bool ((bif (bif (!y3) then true else (y1.1 != y2.1)) then true else (y1.2 != y2.2))) from congrArg Value.bool (by simp only [hb4, cond_true, cond_false]))
  refine p_gs (j := 2) (gvl_at rfl rfl (k1 27)) (fun hb5 => ?_) (fun hb5 => ?_)
  · skip
    refine p_skip (gvl_at rfl rfl (k1 27)) hb5 ?_
    rw [put_fr]
    refine p_skip (gvl_at rfl rfl (k1 27)) hb5 ?_
    rw [put_fr]
    refine p_skip (gvl_at rfl rfl (k1 27)) hb5 ?_
    rw [put_fr]
    refine p_val (r_pickt (v := .bool (true)) (k1 27) hb5 rfl) ?_
    refine hR1 _ _ ?_
    exact J1 _ (by (repeat (refine keep_cons rfl ?_)); exact fun _ _ => rfl) (show (.bool (true) : Value) = .bool ((bif (!y3) then true else (y1.1 != y2.1))) from congrArg Value.bool (by simp only [hb5, cond_true, cond_false]))
  · skip
    refine p_want (gvl_at rfl rfl (k1 27)) hb5 ?_
    refine p_val (r_move (v := str (y1.1)) (k1 5)) ?_
    refine p_want (gvl_at rfl rfl (k1 27)) hb5 ?_
    refine p_val (r_move (v := str (y2.1)) (k1 7)) ?_
    refine p_want (gvl_at rfl rfl (k1 27)) hb5 ?_
    refine p_val (r_neT (t := (y1.1 != y2.1)) rfl rfl rfl) ?_
    refine p_val (r_pickf (v := .bool ((y1.1 != y2.1))) (k1 27) hb5 rfl) ?_
    refine hR1 _ _ ?_
    exact J1 _ (by (repeat (refine keep_cons rfl ?_)); exact fun _ _ => rfl) (show (.bool ((y1.1 != y2.1)) : Value) = .bool ((bif (!y3) then true else (y1.1 != y2.1))) from congrArg Value.bool (by simp only [hb5, cond_true, cond_false]))
def seneschallaw01_CodecGet_p (x0 : List ((List UInt8) × (List UInt8))) (x1 : List UInt8) : Option (Bool) :=
  Option.bind (codec_Get_p x0 x1) fun y1 => Option.bind (seneschalref01_Get_p x0 x1) fun y2 => Option.bind (seneschallaw01_awake_p) fun y3 => some ((bif (bif y3 then (y1.1 == y2.1) else false) then (y1.2 == y2.2) else false))
theorem seneschallaw01_CodecGet_c {S : Mem} {w : World} (hS : Sub S w) (hG : GV S) {v0_ : Value} {x0 : List ((List UInt8) × (List UInt8))} (h0_ : RdS S v0_ x0) {x1 : List UInt8} {r : Bool} (hF : seneschallaw01_CodecGet_p x0 x1 = some r) :
    Calls Tryd.prog 7 #[v0_, str (x1)] w fun e w' => e = .returned (.bool (r)) ∧ Ext w w' := by
  refine enter (n := 32) Tryd.func7 rfl rfl rfl ?_
  have H := HS.start hS
  unfold seneschallaw01_CodecGet_p at hF
  refine wp_seq_k ?_; intro K1 hK1
  refine wp_region_lit ?_
  refine p_val (r_assign (v := .bool (false)) rfl) ?_
  refine wpList_nil ?_
  refine x_norm ?_; refine hK1 _ _ ?_; clear hK1
  refine wp_seq_k ?_; intro K2 hK2
  refine wp_region_lit ?_
  refine p_val (r_move (v := v0_) rfl) ?_
  refine p_val (r_move (v := str (x1)) rfl) ?_
  obtain ⟨y1, e1, hF⟩ := bnd hF
  refine p_call (l := [v0_, str (x1)]) is29 rfl ?_
  refine (codec_Get_c H.sub h0_ e1).mono ?_; rintro _ w1 ⟨rfl, hx⟩; replace H := H.ext hx; clear hx
  refine p_val (r_move (v := .tuple #[str (y1.1), .int .i64 (y1.2)]) rfl) ?_
  refine p_val (r_extract (v := str (y1.1)) rfl rfl) ?_
  refine p_val (r_extract (v := .int .i64 (y1.2)) rfl rfl) ?_
  refine p_val (r_assign (v := str (y1.1)) rfl) ?_
  refine p_val (r_assign (v := .int .i64 (y1.2)) rfl) ?_
  refine wpList_nil ?_
  refine x_norm ?_; refine hK2 _ _ ?_; clear hK2
  refine wp_seq_k ?_; intro K3 hK3
  refine wp_region_lit ?_
  refine p_val (r_move (v := v0_) rfl) ?_
  refine p_val (r_move (v := str (x1)) rfl) ?_
  obtain ⟨y2, e2, hF⟩ := bnd hF
  refine p_call (l := [v0_, str (x1)]) is30 rfl ?_
  refine (seneschalref01_Get_c H.sub h0_ e2).mono ?_; rintro _ w2 ⟨rfl, hx⟩; replace H := H.ext hx; clear hx
  refine p_val (r_move (v := .tuple #[str (y2.1), .int .i64 (y2.2)]) rfl) ?_
  refine p_val (r_extract (v := str (y2.1)) rfl rfl) ?_
  refine p_val (r_extract (v := .int .i64 (y2.2)) rfl rfl) ?_
  refine p_val (r_assign (v := str (y2.1)) rfl) ?_
  refine p_val (r_assign (v := .int .i64 (y2.2)) rfl) ?_
  refine wpList_nil ?_
  refine x_norm ?_; refine hK3 _ _ ?_; clear hK3
  refine wp_seq_k ?_; intro K4 hK4
  refine wp_region_lit ?_
  obtain ⟨y3, e3, hF⟩ := bnd hF
  refine p_call (l := []) is13 rfl ?_
  refine (seneschallaw01_awake_c H.sub hG e3).mono ?_; rintro _ w3 ⟨rfl, hx⟩; replace H := H.ext hx; clear hx
  refine p_val (r_move (v := .bool (y3)) rfl) ?_
  refine nameL fun m1 k1 => ?_
  refine gs_at 4 fun K5 hK5 R1 hR1 => ?_
  have J1 : ∀ (m2 : FM), (∀ t, has [23, 24, 25, 26] t = false → look m2 t = look m1 t) → look m2 26 = .bool ((bif y3 then (y1.1 == y2.1) else false)) → K5 m2 w3 := by
    intro m2 k2 q1
    have q2 : look m2 6 = .int .i64 (y1.2) := (k2 6 rfl).trans (k1 6)
    have q3 : look m2 8 = .int .i64 (y2.2) := (k2 8 rfl).trans (k1 8)
    refine hK5 _ _ ?_; clear hK5 hR1
    refine p_val (r_move (v := .bool ((bif y3 then (y1.1 == y2.1) else false))) q1) ?_
    refine nameL fun m3 k3 => ?_
    refine gs_at 4 fun K6 hK6 R2 hR2 => ?_
    have J2 : ∀ (m4 : FM), (∀ t, has [28, 29, 30, 31] t = false → look m4 t = look m3 t) → look m4 31 = .bool ((bif (bif y3 then (y1.1 == y2.1) else false) then (y1.2 == y2.2) else false)) → K6 m4 w3 := by
      intro m4 k4 q4
      refine hK6 _ _ ?_; clear hK6 hR2
      refine p_val (r_assign (v := .bool ((bif (bif y3 then (y1.1 == y2.1) else false) then (y1.2 == y2.2) else false))) q4) ?_
      refine wpList_nil ?_
      refine x_norm ?_; refine hK4 _ _ ?_; clear hK4
      refine wp_ret ?_
      obtain rfl := Option.some.inj hF
      refine e_1 rfl (q_tmp (v := .bool ((bif (bif y3 then (y1.1 == y2.1) else false) then (y1.2 == y2.2) else false))) rfl) ?_
      exact ⟨rfl, H.toExt⟩
    refine p_gs (j := 6) (gvl_at rfl rfl (k3 27)) (fun hb1 => ?_) (fun hb1 => ?_)
    · skip
      refine p_want (gvl_at rfl rfl (k3 27)) hb1 ?_
      refine p_val (r_move (v := .int .i64 (y1.2)) ((k3 6).trans q2)) ?_
      refine p_want (gvl_at rfl rfl (k3 27)) hb1 ?_
      refine p_val (r_move (v := .int .i64 (y2.2)) ((k3 8).trans q3)) ?_
      refine p_want (gvl_at rfl rfl (k3 27)) hb1 ?_
      refine p_val (r_eql (t := (y1.2 == y2.2)) rfl rfl rfl) ?_
      refine p_val (r_pickt (v := .bool ((y1.2 == y2.2))) (k3 27) hb1 rfl) ?_
      refine hR2 _ _ ?_
      exact J2 _ (by (repeat (refine keep_cons rfl ?_)); exact fun _ _ => rfl) (show (.bool ((y1.2 == y2.2)) : Value) = .bool ((bif (bif y3 then (y1.1 == y2.1) else false) then (y1.2 == y2.2) else false)) from congrArg Value.bool (by simp only [hb1, cond_true, cond_false]))
    · skip
      refine p_skip (gvl_at rfl rfl (k3 27)) hb1 ?_
      rw [put_fr]
      refine p_skip (gvl_at rfl rfl (k3 27)) hb1 ?_
      rw [put_fr]
      refine p_skip (gvl_at rfl rfl (k3 27)) hb1 ?_
      rw [put_fr]
      refine p_val (r_pickf (v := .bool (false)) (k3 27) hb1 rfl) ?_
      refine hR2 _ _ ?_
      exact J2 _ (by (repeat (refine keep_cons rfl ?_)); exact fun _ _ => rfl) (show (.bool (false) : Value) = .bool ((bif (bif y3 then (y1.1 == y2.1) else false) then (y1.2 == y2.2) else false)) from congrArg Value.bool (by simp only [hb1, cond_true, cond_false]))
  refine p_gs (j := 1) (gvl_at rfl rfl (k1 22)) (fun hb2 => ?_) (fun hb2 => ?_)
  · skip
    refine p_want (gvl_at rfl rfl (k1 22)) hb2 ?_
    refine p_val (r_move (v := str (y1.1)) (k1 5)) ?_
    refine p_want (gvl_at rfl rfl (k1 22)) hb2 ?_
    refine p_val (r_move (v := str (y2.1)) (k1 7)) ?_
    refine p_want (gvl_at rfl rfl (k1 22)) hb2 ?_
    refine p_val (r_eqT (t := (y1.1 == y2.1)) rfl rfl rfl) ?_
    refine p_val (r_pickt (v := .bool ((y1.1 == y2.1))) (k1 22) hb2 rfl) ?_
    refine hR1 _ _ ?_
    exact J1 _ (by (repeat (refine keep_cons rfl ?_)); exact fun _ _ => rfl) (show (.bool ((y1.1 == y2.1)) : Value) = .bool ((bif y3 then (y1.1 == y2.1) else false)) from congrArg Value.bool (by simp only [hb2, cond_true, cond_false]))
  · skip
    refine p_skip (gvl_at rfl rfl (k1 22)) hb2 ?_
    rw [put_fr]
    refine p_skip (gvl_at rfl rfl (k1 22)) hb2 ?_
    rw [put_fr]
    refine p_skip (gvl_at rfl rfl (k1 22)) hb2 ?_
    rw [put_fr]
    refine p_val (r_pickf (v := .bool (false)) (k1 22) hb2 rfl) ?_
    refine hR1 _ _ ?_
    exact J1 _ (by (repeat (refine keep_cons rfl ?_)); exact fun _ _ => rfl) (show (.bool (false) : Value) = .bool ((bif y3 then (y1.1 == y2.1) else false)) from congrArg Value.bool (by simp only [hb2, cond_true, cond_false]))
def seneschallaw01_CodecBack_p (x0 : List UInt8) (x1 : List ((List UInt8) × (List UInt8))) : Option (Bool) :=
  Option.bind (codec_Hex_p x0) fun y1 => Option.bind (codec_FromHex_p y1) fun y2 => Option.bind (codec_Base64_p x0) fun y3 => Option.bind (codec_FromBase64_p y3) fun y4 => Option.bind (codec_Percent_p x0) fun y5 => Option.bind (codec_FromPercent_p y5) fun y6 => Option.bind (seneschallaw01_awake_p) fun y7 => bif (bif (bif (bif (bif (bif (bif (!y7) then true else (y2.1 != x0)) then true else (y4.1 != x0)) then true else (y6.1 != x0)) then true else (y2.2 != 0)) then true else (y4.2 != 0)) then true else (y6.2 != 0)) then (some (false)) else (Option.bind (codec_Form_p x1) fun y8 => bif (y8.2 != 0) then (some ((y8.1 == ([] : List UInt8)))) else (Option.bind (codec_FromForm_p y8.1) fun y9 => Option.bind (bif (y9.2 == 0) then (Option.bind (seneschalref01_Same_p x1 y9.1) fun y10 => some (y10)) else (some (false))) (fun t1 => some (t1))))
theorem seneschallaw01_CodecBack_c {S : Mem} {w : World} (hS : Sub S w) (hG : GV S) {x0 : List UInt8} {v1_ : Value} {x1 : List ((List UInt8) × (List UInt8))} (h1_ : RdS S v1_ x1) {r : Bool} (hF : seneschallaw01_CodecBack_p x0 x1 = some r) :
    Calls Tryd.prog 8 #[str (x0), v1_] w fun e w' => e = .returned (.bool (r)) ∧ Ext w w' := by
  refine enter (n := 83) Tryd.func8 rfl rfl rfl ?_
  have H := HS.start hS
  unfold seneschallaw01_CodecBack_p at hF
  refine wp_seq_k ?_; intro K1 hK1
  refine wp_region_lit ?_
  refine p_val (r_assign (v := .bool (false)) rfl) ?_
  refine wpList_nil ?_
  refine x_norm ?_; refine hK1 _ _ ?_; clear hK1
  refine wp_seq_k ?_; intro K2 hK2
  refine wp_region_lit ?_
  refine p_val (r_move (v := str (x0)) rfl) ?_
  obtain ⟨y1, e1, hF⟩ := bnd hF
  refine p_call (l := [str (x0)]) is14 rfl ?_
  refine (codec_Hex_c H.sub e1).mono ?_; rintro _ w1 ⟨rfl, hx⟩; replace H := H.ext hx; clear hx
  obtain ⟨y2, e2, hF⟩ := bnd hF
  refine p_call (l := [str (y1)]) is11 rfl ?_
  refine (codec_FromHex_c H.sub e2).mono ?_; rintro _ w2 ⟨rfl, hx⟩; replace H := H.ext hx; clear hx
  refine p_val (r_move (v := .tuple #[str (y2.1), .int .i64 (y2.2)]) rfl) ?_
  refine p_val (r_extract (v := str (y2.1)) rfl rfl) ?_
  refine p_val (r_extract (v := .int .i64 (y2.2)) rfl rfl) ?_
  refine p_val (r_assign (v := str (y2.1)) rfl) ?_
  refine p_val (r_assign (v := .int .i64 (y2.2)) rfl) ?_
  refine wpList_nil ?_
  refine x_norm ?_; refine hK2 _ _ ?_; clear hK2
  refine wp_seq_k ?_; intro K3 hK3
  refine wp_region_lit ?_
  refine p_val (r_move (v := str (x0)) rfl) ?_
  obtain ⟨y3, e3, hF⟩ := bnd hF
  refine p_call (l := [str (x0)]) is18 rfl ?_
  refine (codec_Base64_c H.sub e3).mono ?_; rintro _ w3 ⟨rfl, hx⟩; replace H := H.ext hx; clear hx
  obtain ⟨y4, e4, hF⟩ := bnd hF
  refine p_call (l := [str (y3)]) is16 rfl ?_
  refine (codec_FromBase64_c H.sub e4).mono ?_; rintro _ w4 ⟨rfl, hx⟩; replace H := H.ext hx; clear hx
  refine p_val (r_move (v := .tuple #[str (y4.1), .int .i64 (y4.2)]) rfl) ?_
  refine p_val (r_extract (v := str (y4.1)) rfl rfl) ?_
  refine p_val (r_extract (v := .int .i64 (y4.2)) rfl rfl) ?_
  refine p_val (r_assign (v := str (y4.1)) rfl) ?_
  refine p_val (r_assign (v := .int .i64 (y4.2)) rfl) ?_
  refine wpList_nil ?_
  refine x_norm ?_; refine hK3 _ _ ?_; clear hK3
  refine wp_seq_k ?_; intro K4 hK4
  refine wp_region_lit ?_
  refine p_val (r_move (v := str (x0)) rfl) ?_
  obtain ⟨y5, e5, hF⟩ := bnd hF
  refine p_call (l := [str (x0)]) is22 rfl ?_
  refine (codec_Percent_c H.sub e5).mono ?_; rintro _ w5 ⟨rfl, hx⟩; replace H := H.ext hx; clear hx
  obtain ⟨y6, e6, hF⟩ := bnd hF
  refine p_call (l := [str (y5)]) is20 rfl ?_
  refine (codec_FromPercent_c H.sub hG e6).mono ?_; rintro _ w6 ⟨rfl, hx⟩; replace H := H.ext hx; clear hx
  refine p_val (r_move (v := .tuple #[str (y6.1), .int .i64 (y6.2)]) rfl) ?_
  refine p_val (r_extract (v := str (y6.1)) rfl rfl) ?_
  refine p_val (r_extract (v := .int .i64 (y6.2)) rfl rfl) ?_
  refine p_val (r_assign (v := str (y6.1)) rfl) ?_
  refine p_val (r_assign (v := .int .i64 (y6.2)) rfl) ?_
  refine wpList_nil ?_
  refine x_norm ?_; refine hK4 _ _ ?_; clear hK4
  refine wp_seq_k ?_; intro K5 hK5
  refine wp_seq_k ?_; intro K6 hK6
  refine wp_region_lit ?_
  obtain ⟨y7, e7, hF⟩ := bnd hF
  refine p_call (l := []) is13 rfl ?_
  refine (seneschallaw01_awake_c H.sub hG e7).mono ?_; rintro _ w7 ⟨rfl, hx⟩; replace H := H.ext hx; clear hx
  refine p_val (r_not (t := (!y7)) rfl rfl) ?_
  refine p_val (r_move (v := .bool ((!y7))) rfl) ?_
  refine nameL fun m1 k1 => ?_
  refine gs_at 4 fun K7 hK7 R1 hR1 => ?_
  have J1 : ∀ (m2 : FM), (∀ t, has [36, 37, 38, 39] t = false → look m2 t = look m1 t) → look m2 39 = .bool ((bif (!y7) then true else (y2.1 != x0))) → K7 m2 w7 := by
    intro m2 k2 q1
    have q2 : look m2 0 = str (x0) := (k2 0 rfl).trans (k1 0)
    have q3 : look m2 1 = v1_ := (k2 1 rfl).trans (k1 1)
    have q4 : look m2 6 = .int .i64 (y2.2) := (k2 6 rfl).trans (k1 6)
    have q5 : look m2 7 = str (y4.1) := (k2 7 rfl).trans (k1 7)
    have q6 : look m2 8 = .int .i64 (y4.2) := (k2 8 rfl).trans (k1 8)
    have q7 : look m2 9 = str (y6.1) := (k2 9 rfl).trans (k1 9)
    have q8 : look m2 10 = .int .i64 (y6.2) := (k2 10 rfl).trans (k1 10)
    refine hK7 _ _ ?_; clear hK7 hR1
    refine p_val (r_move (v := .bool ((bif (!y7) then true else (y2.1 != x0)))) q1) ?_
    refine nameL fun m3 k3 => ?_
    refine gs_at 4 fun K8 hK8 R2 hR2 => ?_
    have J2 : ∀ (m4 : FM), (∀ t, has [41, 42, 43, 44] t = false → look m4 t = look m3 t) → look m4 44 = .bool ((bif (bif (!y7) then true else (y2.1 != x0)) then true else (y4.1 != x0))) → K8 m4 w7 := by
      intro m4 k4 q9
      have q10 : look m4 0 = str (x0) := (k4 0 rfl).trans ((k3 0).trans q2)
      have q11 : look m4 1 = v1_ := (k4 1 rfl).trans ((k3 1).trans q3)
      have q12 : look m4 6 = .int .i64 (y2.2) := (k4 6 rfl).trans ((k3 6).trans q4)
      have q13 : look m4 8 = .int .i64 (y4.2) := (k4 8 rfl).trans ((k3 8).trans q6)
      have q14 : look m4 9 = str (y6.1) := (k4 9 rfl).trans ((k3 9).trans q7)
      have q15 : look m4 10 = .int .i64 (y6.2) := (k4 10 rfl).trans ((k3 10).trans q8)
      refine hK8 _ _ ?_; clear hK8 hR2
      refine p_val (r_move (v := .bool ((bif (bif (!y7) then true else (y2.1 != x0)) then true else (y4.1 != x0)))) q9) ?_
      refine nameL fun m5 k5 => ?_
      refine gs_at 4 fun K9 hK9 R3 hR3 => ?_
      have J3 : ∀ (m6 : FM), (∀ t, has [46, 47, 48, 49] t = false → look m6 t = look m5 t) → look m6 49 = .bool ((bif (bif (bif (!y7) then true else (y2.1 != x0)) then true else (y4.1 != x0)) then true else (y6.1 != x0))) → K9 m6 w7 := by
        intro m6 k6 q16
        have q17 : look m6 1 = v1_ := (k6 1 rfl).trans ((k5 1).trans q11)
        have q18 : look m6 6 = .int .i64 (y2.2) := (k6 6 rfl).trans ((k5 6).trans q12)
        have q19 : look m6 8 = .int .i64 (y4.2) := (k6 8 rfl).trans ((k5 8).trans q13)
        have q20 : look m6 10 = .int .i64 (y6.2) := (k6 10 rfl).trans ((k5 10).trans q15)
        refine hK9 _ _ ?_; clear hK9 hR3
        refine p_val (r_move (v := .bool ((bif (bif (bif (!y7) then true else (y2.1 != x0)) then true else (y4.1 != x0)) then true else (y6.1 != x0)))) q16) ?_
        refine nameL fun m7 k7 => ?_
        refine gs_at 3 fun K10 hK10 R4 hR4 => ?_
        have J4 : ∀ (m8 : FM), (∀ t, has [51, 52, 53] t = false → look m8 t = look m7 t) → look m8 53 = .bool ((bif (bif (bif (bif (!y7) then true else (y2.1 != x0)) then true else (y4.1 != x0)) then true else (y6.1 != x0)) then true else (y2.2 != 0))) → K10 m8 w7 := by
          intro m8 k8 q21
          have q22 : look m8 1 = v1_ := (k8 1 rfl).trans ((k7 1).trans q17)
          have q23 : look m8 8 = .int .i64 (y4.2) := (k8 8 rfl).trans ((k7 8).trans q19)
          have q24 : look m8 10 = .int .i64 (y6.2) := (k8 10 rfl).trans ((k7 10).trans q20)
          refine hK10 _ _ ?_; clear hK10 hR4
          refine p_val (r_move (v := .bool ((bif (bif (bif (bif (!y7) then true else (y2.1 != x0)) then true else (y4.1 != x0)) then true else (y6.1 != x0)) then true else (y2.2 != 0)))) q21) ?_
          refine nameL fun m9 k9 => ?_
          refine gs_at 3 fun K11 hK11 R5 hR5 => ?_
          have J5 : ∀ (m10 : FM), (∀ t, has [55, 56, 57] t = false → look m10 t = look m9 t) → look m10 57 = .bool ((bif (bif (bif (bif (bif (!y7) then true else (y2.1 != x0)) then true else (y4.1 != x0)) then true else (y6.1 != x0)) then true else (y2.2 != 0)) then true else (y4.2 != 0))) → K11 m10 w7 := by
            intro m10 k10 q25
            have q26 : look m10 1 = v1_ := (k10 1 rfl).trans ((k9 1).trans q22)
            have q27 : look m10 10 = .int .i64 (y6.2) := (k10 10 rfl).trans ((k9 10).trans q24)
            refine hK11 _ _ ?_; clear hK11 hR5
            refine p_val (r_move (v := .bool ((bif (bif (bif (bif (bif (!y7) then true else (y2.1 != x0)) then true else (y4.1 != x0)) then true else (y6.1 != x0)) then true else (y2.2 != 0)) then true else (y4.2 != 0)))) q25) ?_
            refine nameL fun m11 k11 => ?_
            refine gs_at 3 fun K12 hK12 R6 hR6 => ?_
            have J6 : ∀ (m12 : FM), (∀ t, has [59, 60, 61] t = false → look m12 t = look m11 t) → look m12 61 = .bool ((bif (bif (bif (bif (bif (bif (!y7) then true else (y2.1 != x0)) then true else (y4.1 != x0)) then true else (y6.1 != x0)) then true else (y2.2 != 0)) then true else (y4.2 != 0)) then true else (y6.2 != 0))) → K12 m12 w7 := by
              intro m12 k12 q28
              have q29 : look m12 1 = v1_ := (k12 1 rfl).trans ((k11 1).trans q26)
              refine hK12 _ _ ?_; clear hK12 hR6
              refine wpList_nil ?_
              refine x_norm ?_; refine hK6 _ _ ?_; clear hK6
              refine c_split (t := (bif (bif (bif (bif (bif (bif (!y7) then true else (y2.1 != x0)) then true else (y4.1 != x0)) then true else (y6.1 != x0)) then true else (y2.2 != 0)) then true else (y4.2 != 0)) then true else (y6.2 != 0))) q28 (fun hc1 => ?_) (fun hc1 => ?_)
              · replace hF := cnd_t hF hc1
                refine wp_seq_k ?_; intro K13 hK13
                refine wp_region_lit ?_
                refine p_val (r_assign (v := .bool (false)) rfl) ?_
                refine wpList_nil ?_
                refine x_norm ?_; refine hK13 _ _ ?_; clear hK13
                refine wp_ret ?_
                refine x_ret ?_
                obtain rfl := Option.some.inj hF
                refine e_1 rfl (q_tmp (v := .bool (false)) rfl) ?_
                exact ⟨rfl, H.toExt⟩
              · replace hF := cnd_f hF hc1
                refine wp_skip ?_
                refine x_norm ?_; refine hK5 _ _ ?_; clear hK5
                refine wp_seq_k ?_; intro K14 hK14
                refine wp_region_lit ?_
                refine p_val (r_move (v := v1_) q29) ?_
                obtain ⟨y8, e8, hF⟩ := bnd hF
                refine p_call (l := [v1_]) is24 rfl ?_
                refine (codec_Form_c H.sub h1_ e8).mono ?_; rintro _ w8 ⟨rfl, hx⟩; replace H := H.ext hx; clear hx
                refine p_val (r_move (v := .tuple #[str (y8.1), .int .i64 (y8.2)]) rfl) ?_
                refine p_val (r_extract (v := str (y8.1)) rfl rfl) ?_
                refine p_val (r_extract (v := .int .i64 (y8.2)) rfl rfl) ?_
                refine p_val (r_assign (v := str (y8.1)) rfl) ?_
                refine p_val (r_assign (v := .int .i64 (y8.2)) rfl) ?_
                refine wpList_nil ?_
                refine x_norm ?_; refine hK14 _ _ ?_; clear hK14
                refine wp_seq_k ?_; intro K15 hK15
                refine wp_seq_k ?_; intro K16 hK16
                refine wp_region_lit ?_
                refine p_val (r_move (v := .int .i64 (y8.2)) rfl) ?_
                refine p_val (r_neq (t := (y8.2 != 0)) rfl rfl rfl) ?_
                refine wpList_nil ?_
                refine x_norm ?_; refine hK16 _ _ ?_; clear hK16
                refine c_split (t := (y8.2 != 0)) rfl (fun hc2 => ?_) (fun hc2 => ?_)
                · replace hF := cnd_t hF hc2
                  refine wp_seq_k ?_; intro K17 hK17
                  refine wp_region_lit ?_
                  refine p_val (r_move (v := str (y8.1)) rfl) ?_
                  refine p_val (r_eqT (t := (y8.1 == ([] : List UInt8))) rfl rfl rfl) ?_
                  refine p_val (r_assign (v := .bool ((y8.1 == ([] : List UInt8)))) rfl) ?_
                  refine wpList_nil ?_
                  refine x_norm ?_; refine hK17 _ _ ?_; clear hK17
                  refine wp_ret ?_
                  refine x_ret ?_
                  obtain rfl := Option.some.inj hF
                  refine e_1 rfl (q_tmp (v := .bool ((y8.1 == ([] : List UInt8)))) rfl) ?_
                  exact ⟨rfl, H.toExt⟩
                · replace hF := cnd_f hF hc2
                  refine wp_skip ?_
                  refine x_norm ?_; refine hK15 _ _ ?_; clear hK15
                  refine wp_seq_k ?_; intro K18 hK18
                  refine wp_region_lit ?_
                  refine p_val (r_move (v := str (y8.1)) rfl) ?_
                  obtain ⟨y9, e9, hF⟩ := bnd hF
                  refine p_call (l := [str (y8.1)]) is26 rfl ?_
                  refine (codec_FromForm_c (H.hand [] rfl) hG e9).mono ?_; rintro _ w9 ⟨S1, pv1, pcs1, prs1, rfl, H2, pg1⟩
                  obtain ⟨H1, hle1⟩ := H.frame [] [] rfl H2; clear H H2; have H := H1; clear H1
                  replace hG := GV.mono hG hle1
                  replace h1_ := RdS.mono h1_ hle1
                  replace H : HS ⟨S, [], w⟩ S1 w9 [.osl (pv1) (y9.1).length 2 pcs1 prs1 34] := H
                  refine p_val (r_move (v := .tuple #[pv1, .int .i64 (y9.2)]) rfl) ?_
                  refine p_val (r_extract (v := pv1) rfl rfl) ?_
                  refine p_val (r_extract (v := .int .i64 (y9.2)) rfl rfl) ?_
                  refine p_val (r_assign (v := pv1) rfl) ?_
                  refine p_val (r_assign (v := .int .i64 (y9.2)) rfl) ?_
                  refine wpList_nil ?_
                  refine x_norm ?_; refine hK18 _ _ ?_; clear hK18
                  refine wp_seq_k ?_; intro K19 hK19
                  refine wp_region_lit ?_
                  refine p_val (r_move (v := .int .i64 (y9.2)) rfl) ?_
                  refine p_val (r_eql (t := (y9.2 == 0)) rfl rfl rfl) ?_
                  refine p_val (r_move (v := .bool ((y9.2 == 0))) rfl) ?_
                  refine nameL fun m13 k13 => ?_
                  refine gs_at 4 fun K20 hK20 R8 hR8 => ?_
                  obtain ⟨t1, hE1, hF1⟩ := bnd hF
                  have J7 : ∀ (m14 : FM) (w11 : World), (∀ t, has [79, 80, 81, 82] t = false → look m14 t = look m13 t) → look m14 82 = .bool (t1) → HS ⟨S, [], w⟩ S1 w11 [.osl (pv1) (y9.1).length 2 pcs1 prs1 34] → K20 m14 w11 := by
                    clear H; intro m14 w11 k14 q30 H
                    refine hK20 _ _ ?_
                    refine p_val (r_assign (v := .bool (t1)) q30) ?_
                    refine wpList_nil ?_
                    refine x_norm ?_; refine hK19 _ _ ?_; clear hK19
                    refine wp_ret ?_
                    obtain rfl := Option.some.inj hF1
                    refine e_1 rfl (q_tmp (v := .bool (t1)) rfl) ?_
                    exact ⟨rfl, H.toExt⟩
                  refine p_gs (j := 2) (gvl_at rfl rfl (k13 78)) (fun hb1 => ?_) (fun hb1 => ?_)
                  · replace hE1 := cnd_t hE1 hb1
                    refine p_want (gvl_at rfl rfl (k13 78)) hb1 ?_
                    refine p_val (r_move (v := v1_) ((k13 1).trans q29)) ?_
                    refine p_want (gvl_at rfl rfl (k13 78)) hb1 ?_
                    refine p_val (r_move (v := pv1) (k13 13)) ?_
                    refine p_want (gvl_at rfl rfl (k13 78)) hb1 ?_
                    obtain ⟨y10, e10, hE1⟩ := bnd hE1
                    refine p_call (l := [v1_, pv1]) is28 rfl ?_
                    refine (seneschalref01_Same_c (subMem w9) (h1_.mono H.sub) (RdS.ofOwn H (k := 0) rfl pg1) e10).mono ?_; rintro _ w10 ⟨rfl, hx⟩; replace H := H.ext hx; clear hx
                    refine p_val (r_pickt (v := .bool (y10)) (k13 78) hb1 rfl) ?_
                    refine hR8 _ _ ?_
                    replace H : HS ⟨S, [], w⟩ S1 w10 [.osl (pv1) (y9.1).length 2 pcs1 prs1 34] := H
                    obtain rfl := Option.some.inj hE1
                    exact J7 _ _ (by (repeat (refine keep_cons rfl ?_)); exact fun _ _ => rfl) rfl H
                  · replace hE1 := cnd_f hE1 hb1
                    refine p_skip (gvl_at rfl rfl (k13 78)) hb1 ?_
                    rw [put_fr]
                    refine p_skip (gvl_at rfl rfl (k13 78)) hb1 ?_
                    rw [put_fr]
                    refine p_skip (gvl_at rfl rfl (k13 78)) hb1 ?_
                    rw [put_fr]
                    refine p_val (r_pickf (v := .bool (false)) (k13 78) hb1 rfl) ?_
                    refine hR8 _ _ ?_
                    replace H : HS ⟨S, [], w⟩ S1 w9 [.osl (pv1) (y9.1).length 2 pcs1 prs1 34] := H
                    obtain rfl := Option.some.inj hE1
                    exact J7 _ _ (by (repeat (refine keep_cons rfl ?_)); exact fun _ _ => rfl) rfl H
            refine p_gs (j := 25) (gvl_at rfl rfl (k11 58)) (fun hb2 => ?_) (fun hb2 => ?_)
            · skip
              refine p_skip (gvl_at rfl rfl (k11 58)) hb2 ?_
              rw [put_fr]
              refine p_skip (gvl_at rfl rfl (k11 58)) hb2 ?_
              rw [put_fr]
              refine p_val (r_pickt (v := .bool (true)) (k11 58) hb2 rfl) ?_
              refine hR6 _ _ ?_
              exact J6 _ (by (repeat (refine keep_cons rfl ?_)); exact fun _ _ => rfl) (show (.bool (true) : Value) = .bool ((bif (bif (bif (bif (bif (bif (!y7) then true else (y2.1 != x0)) then true else (y4.1 != x0)) then true else (y6.1 != x0)) then true else (y2.2 != 0)) then true else (y4.2 != 0)) then true else (y6.2 != 0))) from congrArg Value.bool (by simp only [hb2, cond_true, cond_false]))
            · skip
              refine p_want (gvl_at rfl rfl (k11 58)) hb2 ?_
              refine p_val (r_move (v := .int .i64 (y6.2)) ((k11 10).trans q27)) ?_
              refine p_want (gvl_at rfl rfl (k11 58)) hb2 ?_
              refine p_val (r_neq (t := (y6.2 != 0)) rfl rfl rfl) ?_
              refine p_val (r_pickf (v := .bool ((y6.2 != 0))) (k11 58) hb2 rfl) ?_
              refine hR6 _ _ ?_
              exact J6 _ (by (repeat (refine keep_cons rfl ?_)); exact fun _ _ => rfl) (show (.bool ((y6.2 != 0)) : Value) = .bool ((bif (bif (bif (bif (bif (bif (!y7) then true else (y2.1 != x0)) then true else (y4.1 != x0)) then true else (y6.1 != x0)) then true else (y2.2 != 0)) then true else (y4.2 != 0)) then true else (y6.2 != 0))) from congrArg Value.bool (by simp only [hb2, cond_true, cond_false]))
          refine p_gs (j := 21) (gvl_at rfl rfl (k9 54)) (fun hb3 => ?_) (fun hb3 => ?_)
          · skip
            refine p_skip (gvl_at rfl rfl (k9 54)) hb3 ?_
            rw [put_fr]
            refine p_skip (gvl_at rfl rfl (k9 54)) hb3 ?_
            rw [put_fr]
            refine p_val (r_pickt (v := .bool (true)) (k9 54) hb3 rfl) ?_
            refine hR5 _ _ ?_
            exact J5 _ (by (repeat (refine keep_cons rfl ?_)); exact fun _ _ => rfl) (show (.bool (true) : Value) = .bool ((bif (bif (bif (bif (bif (!y7) then true else (y2.1 != x0)) then true else (y4.1 != x0)) then true else (y6.1 != x0)) then true else (y2.2 != 0)) then true else (y4.2 != 0))) from congrArg Value.bool (by simp only [hb3, cond_true, cond_false]))
          · skip
            refine p_want (gvl_at rfl rfl (k9 54)) hb3 ?_
            refine p_val (r_move (v := .int .i64 (y4.2)) ((k9 8).trans q23)) ?_
            refine p_want (gvl_at rfl rfl (k9 54)) hb3 ?_
            refine p_val (r_neq (t := (y4.2 != 0)) rfl rfl rfl) ?_
            refine p_val (r_pickf (v := .bool ((y4.2 != 0))) (k9 54) hb3 rfl) ?_
            refine hR5 _ _ ?_
            exact J5 _ (by (repeat (refine keep_cons rfl ?_)); exact fun _ _ => rfl) (show (.bool ((y4.2 != 0)) : Value) = .bool ((bif (bif (bif (bif (bif (!y7) then true else (y2.1 != x0)) then true else (y4.1 != x0)) then true else (y6.1 != x0)) then true else (y2.2 != 0)) then true else (y4.2 != 0))) from congrArg Value.bool (by simp only [hb3, cond_true, cond_false]))
        refine p_gs (j := 17) (gvl_at rfl rfl (k7 50)) (fun hb4 => ?_) (fun hb4 => ?_)
        · skip
          refine p_skip (gvl_at rfl rfl (k7 50)) hb4 ?_
          rw [put_fr]
          refine p_skip (gvl_at rfl rfl (k7 50)) hb4 ?_
          rw [put_fr]
          refine p_val (r_pickt (v := .bool (true)) (k7 50) hb4 rfl) ?_
          refine hR4 _ _ ?_
          exact J4 _ (by (repeat (refine keep_cons rfl ?_)); exact fun _ _ => rfl) (show (.bool (true) : Value) = .bool ((bif (bif (bif (bif (!y7) then true else (y2.1 != x0)) then true else (y4.1 != x0)) then true else (y6.1 != x0)) then true else (y2.2 != 0))) from congrArg Value.bool (by simp only [hb4, cond_true, cond_false]))
        · skip
          refine p_want (gvl_at rfl rfl (k7 50)) hb4 ?_
          refine p_val (r_move (v := .int .i64 (y2.2)) ((k7 6).trans q18)) ?_
          refine p_want (gvl_at rfl rfl (k7 50)) hb4 ?_
          refine p_val (r_neq (t := (y2.2 != 0)) rfl rfl rfl) ?_
          refine p_val (r_pickf (v := .bool ((y2.2 != 0))) (k7 50) hb4 rfl) ?_
          refine hR4 _ _ ?_
          exact J4 _ (by (repeat (refine keep_cons rfl ?_)); exact fun _ _ => rfl) (show (.bool ((y2.2 != 0)) : Value) = .bool ((bif (bif (bif (bif (!y7) then true else (y2.1 != x0)) then true else (y4.1 != x0)) then true else (y6.1 != x0)) then true else (y2.2 != 0))) from congrArg Value.bool (by simp only [hb4, cond_true, cond_false]))
      refine p_gs (j := 12) (gvl_at rfl rfl (k5 45)) (fun hb5 => ?_) (fun hb5 => ?_)
      · skip
        refine p_skip (gvl_at rfl rfl (k5 45)) hb5 ?_
        rw [put_fr]
        refine p_skip (gvl_at rfl rfl (k5 45)) hb5 ?_
        rw [put_fr]
        refine p_skip (gvl_at rfl rfl (k5 45)) hb5 ?_
        rw [put_fr]
        refine p_val (r_pickt (v := .bool (true)) (k5 45) hb5 rfl) ?_
        refine hR3 _ _ ?_
        exact J3 _ (by (repeat (refine keep_cons rfl ?_)); exact fun _ _ => rfl) (show (.bool (true) : Value) = .bool ((bif (bif (bif (!y7) then true else (y2.1 != x0)) then true else (y4.1 != x0)) then true else (y6.1 != x0))) from congrArg Value.bool (by simp only [hb5, cond_true, cond_false]))
      · skip
        refine p_want (gvl_at rfl rfl (k5 45)) hb5 ?_
        refine p_val (r_move (v := str (y6.1)) ((k5 9).trans q14)) ?_
        refine p_want (gvl_at rfl rfl (k5 45)) hb5 ?_
        refine p_val (r_move (v := str (x0)) ((k5 0).trans q10)) ?_
        refine p_want (gvl_at rfl rfl (k5 45)) hb5 ?_
        refine p_val (r_neT (t := (y6.1 != x0)) rfl rfl rfl) ?_
        refine p_val (r_pickf (v := .bool ((y6.1 != x0))) (k5 45) hb5 rfl) ?_
        refine hR3 _ _ ?_
        exact J3 _ (by (repeat (refine keep_cons rfl ?_)); exact fun _ _ => rfl) (show (.bool ((y6.1 != x0)) : Value) = .bool ((bif (bif (bif (!y7) then true else (y2.1 != x0)) then true else (y4.1 != x0)) then true else (y6.1 != x0))) from congrArg Value.bool (by simp only [hb5, cond_true, cond_false]))
    refine p_gs (j := 7) (gvl_at rfl rfl (k3 40)) (fun hb6 => ?_) (fun hb6 => ?_)
    · skip
      refine p_skip (gvl_at rfl rfl (k3 40)) hb6 ?_
      rw [put_fr]
      refine p_skip (gvl_at rfl rfl (k3 40)) hb6 ?_
      rw [put_fr]
      refine p_skip (gvl_at rfl rfl (k3 40)) hb6 ?_
      rw [put_fr]
      refine p_val (r_pickt (v := .bool (true)) (k3 40) hb6 rfl) ?_
      refine hR2 _ _ ?_
      exact J2 _ (by (repeat (refine keep_cons rfl ?_)); exact fun _ _ => rfl) (show (.bool (true) : Value) = .bool ((bif (bif (!y7) then true else (y2.1 != x0)) then true else (y4.1 != x0))) from congrArg Value.bool (by simp only [hb6, cond_true, cond_false]))
    · skip
      refine p_want (gvl_at rfl rfl (k3 40)) hb6 ?_
      refine p_val (r_move (v := str (y4.1)) ((k3 7).trans q5)) ?_
      refine p_want (gvl_at rfl rfl (k3 40)) hb6 ?_
      refine p_val (r_move (v := str (x0)) ((k3 0).trans q2)) ?_
      refine p_want (gvl_at rfl rfl (k3 40)) hb6 ?_
      refine p_val (r_neT (t := (y4.1 != x0)) rfl rfl rfl) ?_
      refine p_val (r_pickf (v := .bool ((y4.1 != x0))) (k3 40) hb6 rfl) ?_
      refine hR2 _ _ ?_
      exact J2 _ (by (repeat (refine keep_cons rfl ?_)); exact fun _ _ => rfl) (show (.bool ((y4.1 != x0)) : Value) = .bool ((bif (bif (!y7) then true else (y2.1 != x0)) then true else (y4.1 != x0))) from congrArg Value.bool (by simp only [hb6, cond_true, cond_false]))
  refine p_gs (j := 2) (gvl_at rfl rfl (k1 35)) (fun hb7 => ?_) (fun hb7 => ?_)
  · skip
    refine p_skip (gvl_at rfl rfl (k1 35)) hb7 ?_
    rw [put_fr]
    refine p_skip (gvl_at rfl rfl (k1 35)) hb7 ?_
    rw [put_fr]
    refine p_skip (gvl_at rfl rfl (k1 35)) hb7 ?_
    rw [put_fr]
    refine p_val (r_pickt (v := .bool (true)) (k1 35) hb7 rfl) ?_
    refine hR1 _ _ ?_
    exact J1 _ (by (repeat (refine keep_cons rfl ?_)); exact fun _ _ => rfl) (show (.bool (true) : Value) = .bool ((bif (!y7) then true else (y2.1 != x0))) from congrArg Value.bool (by simp only [hb7, cond_true, cond_false]))
  · skip
    refine p_want (gvl_at rfl rfl (k1 35)) hb7 ?_
    refine p_val (r_move (v := str (y2.1)) (k1 5)) ?_
    refine p_want (gvl_at rfl rfl (k1 35)) hb7 ?_
    refine p_val (r_move (v := str (x0)) (k1 0)) ?_
    refine p_want (gvl_at rfl rfl (k1 35)) hb7 ?_
    refine p_val (r_neT (t := (y2.1 != x0)) rfl rfl rfl) ?_
    refine p_val (r_pickf (v := .bool ((y2.1 != x0))) (k1 35) hb7 rfl) ?_
    refine hR1 _ _ ?_
    exact J1 _ (by (repeat (refine keep_cons rfl ?_)); exact fun _ _ => rfl) (show (.bool ((y2.1 != x0)) : Value) = .bool ((bif (!y7) then true else (y2.1 != x0))) from congrArg Value.bool (by simp only [hb7, cond_true, cond_false]))
def seneschallaw01_CodecOnly_p (x0 : List UInt8) (x1 : List UInt8) : Option (Bool) :=
  Option.bind (seneschallaw01_awake_p) fun y1 => Option.bind (bif (!y1) then (some (true)) else (Option.bind (codec_Hex_p x0) fun y2 => some ((((y2).length : Int) != (w64 ((2 : Int) * ((x0).length : Int))))))) (fun t1 => Option.bind (bif t1 then (some (true)) else (Option.bind (codec_Base64_p x0) fun y3 => some ((((y3).length : Int) != (w64 (Int.tdiv (w64 ((w64 ((4 : Int) * ((x0).length : Int))) + 2)) 3)))))) (fun t2 => bif t2 then (some (false)) else (Option.bind (codec_FromHex_p x1) fun y4 => Option.bind (codec_FromBase64_p x1) fun y5 => Option.bind (bif (y4.2 != 0) then (some (true)) else (Option.bind (codec_Hex_p y4.1) fun y6 => some ((y6 == x1)))) (fun t3 => Option.bind (bif t3 then (Option.bind (bif (y5.2 != 0) then (some (true)) else (Option.bind (codec_Base64_p y5.1) fun y7 => some ((y7 == x1)))) (fun t5 => some (t5))) else (some (false))) (fun t4 => some (t4))))))
theorem seneschallaw01_CodecOnly_c {S : Mem} {w : World} (hS : Sub S w) (hG : GV S) {x0 : List UInt8} {x1 : List UInt8} {r : Bool} (hF : seneschallaw01_CodecOnly_p x0 x1 = some r) :
    Calls Tryd.prog 9 #[str (x0), str (x1)] w fun e w' => e = .returned (.bool (r)) ∧ Ext w w' := by
  refine enter (n := 59) Tryd.func9 rfl rfl rfl ?_
  have H := HS.start hS
  unfold seneschallaw01_CodecOnly_p at hF
  refine wp_seq_k ?_; intro K1 hK1
  refine wp_region_lit ?_
  refine p_val (r_assign (v := .bool (false)) rfl) ?_
  refine wpList_nil ?_
  refine x_norm ?_; refine hK1 _ _ ?_; clear hK1
  refine wp_seq_k ?_; intro K2 hK2
  refine wp_seq_k ?_; intro K3 hK3
  refine wp_region_lit ?_
  obtain ⟨y1, e1, hF⟩ := bnd hF
  refine p_call (l := []) is13 rfl ?_
  refine (seneschallaw01_awake_c H.sub hG e1).mono ?_; rintro _ w1 ⟨rfl, hx⟩; replace H := H.ext hx; clear hx
  refine p_val (r_not (t := (!y1)) rfl rfl) ?_
  refine p_val (r_move (v := .bool ((!y1))) rfl) ?_
  refine nameL fun m1 k1 => ?_
  refine gs_at 8 fun K4 hK4 R1 hR1 => ?_
  obtain ⟨t1, hE1, hF1⟩ := bnd hF
  have J5 : ∀ (m2 : FM) (w3 : World), (∀ t, has [12, 13, 14, 15, 16, 17, 18, 19] t = false → look m2 t = look m1 t) → look m2 19 = .bool (t1) → HS ⟨S, [], w⟩ S w3 [] → K4 m2 w3 := by
    clear H; intro m2 w3 k2 q1 H
    have q2 : look m2 0 = str (x0) := (k2 0 rfl).trans (k1 0)
    have q3 : look m2 1 = str (x1) := (k2 1 rfl).trans (k1 1)
    refine hK4 _ _ ?_
    refine p_val (r_move (v := .bool (t1)) q1) ?_
    refine nameL fun m3 k3 => ?_
    refine gs_at 10 fun K5 hK5 R2 hR2 => ?_
    obtain ⟨t2, hE2, hF2⟩ := bnd hF1
    have J4 : ∀ (m4 : FM) (w5 : World), (∀ t, has [21, 22, 23, 24, 25, 26, 27, 28, 29, 30] t = false → look m4 t = look m3 t) → look m4 30 = .bool (t2) → HS ⟨S, [], w⟩ S w5 [] → K5 m4 w5 := by
      clear H; intro m4 w5 k4 q4 H
      have q5 : look m4 1 = str (x1) := (k4 1 rfl).trans ((k3 1).trans q3)
      refine hK5 _ _ ?_
      refine wpList_nil ?_
      refine x_norm ?_; refine hK3 _ _ ?_; clear hK3
      refine c_split (t := t2) q4 (fun hc1 => ?_) (fun hc1 => ?_)
      · replace hF2 := cnd_t hF2 hc1
        refine wp_seq_k ?_; intro K6 hK6
        refine wp_region_lit ?_
        refine p_val (r_assign (v := .bool (false)) rfl) ?_
        refine wpList_nil ?_
        refine x_norm ?_; refine hK6 _ _ ?_; clear hK6
        refine wp_ret ?_
        refine x_ret ?_
        obtain rfl := Option.some.inj hF2
        refine e_1 rfl (q_tmp (v := .bool (false)) rfl) ?_
        exact ⟨rfl, H.toExt⟩
      · replace hF2 := cnd_f hF2 hc1
        refine wp_skip ?_
        refine x_norm ?_; refine hK2 _ _ ?_; clear hK2
        refine wp_seq_k ?_; intro K7 hK7
        refine wp_region_lit ?_
        refine p_val (r_move (v := str (x1)) q5) ?_
        obtain ⟨y4, e4, hF2⟩ := bnd hF2
        refine p_call (l := [str (x1)]) is11 rfl ?_
        refine (codec_FromHex_c H.sub e4).mono ?_; rintro _ w6 ⟨rfl, hx⟩; replace H := H.ext hx; clear hx
        refine p_val (r_move (v := .tuple #[str (y4.1), .int .i64 (y4.2)]) rfl) ?_
        refine p_val (r_extract (v := str (y4.1)) rfl rfl) ?_
        refine p_val (r_extract (v := .int .i64 (y4.2)) rfl rfl) ?_
        refine p_val (r_assign (v := str (y4.1)) rfl) ?_
        refine p_val (r_assign (v := .int .i64 (y4.2)) rfl) ?_
        refine wpList_nil ?_
        refine x_norm ?_; refine hK7 _ _ ?_; clear hK7
        refine wp_seq_k ?_; intro K8 hK8
        refine wp_region_lit ?_
        refine p_val (r_move (v := str (x1)) q5) ?_
        obtain ⟨y5, e5, hF2⟩ := bnd hF2
        refine p_call (l := [str (x1)]) is16 rfl ?_
        refine (codec_FromBase64_c H.sub e5).mono ?_; rintro _ w7 ⟨rfl, hx⟩; replace H := H.ext hx; clear hx
        refine p_val (r_move (v := .tuple #[str (y5.1), .int .i64 (y5.2)]) rfl) ?_
        refine p_val (r_extract (v := str (y5.1)) rfl rfl) ?_
        refine p_val (r_extract (v := .int .i64 (y5.2)) rfl rfl) ?_
        refine p_val (r_assign (v := str (y5.1)) rfl) ?_
        refine p_val (r_assign (v := .int .i64 (y5.2)) rfl) ?_
        refine wpList_nil ?_
        refine x_norm ?_; refine hK8 _ _ ?_; clear hK8
        refine wp_seq_k ?_; intro K9 hK9
        refine wp_region_lit ?_
        refine p_val (r_move (v := .int .i64 (y4.2)) rfl) ?_
        refine p_val (r_neq (t := (y4.2 != 0)) rfl rfl rfl) ?_
        refine p_val (r_move (v := .bool ((y4.2 != 0))) rfl) ?_
        refine nameL fun m5 k5 => ?_
        refine gs_at 5 fun K10 hK10 R3 hR3 => ?_
        obtain ⟨t3, hE3, hF3⟩ := bnd hF2
        have J3 : ∀ (m6 : FM) (w9 : World), (∀ t, has [44, 45, 46, 47, 48] t = false → look m6 t = look m5 t) → look m6 48 = .bool (t3) → HS ⟨S, [], w⟩ S w9 [] → K10 m6 w9 := by
          clear H; intro m6 w9 k6 q6 H
          have q7 : look m6 1 = str (x1) := (k6 1 rfl).trans ((k5 1).trans q5)
          have q8 : look m6 7 = str (y5.1) := (k6 7 rfl).trans (k5 7)
          have q9 : look m6 8 = .int .i64 (y5.2) := (k6 8 rfl).trans (k5 8)
          refine hK10 _ _ ?_
          refine p_val (r_move (v := .bool (t3)) q6) ?_
          refine nameL fun m7 k7 => ?_
          refine gs_at 9 fun K11 hK11 R4 hR4 => ?_
          obtain ⟨t4, hE4, hF4⟩ := bnd hF3
          have J2 : ∀ (m10 : FM) (w12 : World), (∀ t, has [50, 51, 52, 53, 54, 55, 56, 57, 58] t = false → look m10 t = look m7 t) → look m10 58 = .bool (t4) → HS ⟨S, [], w⟩ S w12 [] → K11 m10 w12 := by
            clear H; intro m10 w12 k10 q12 H
            refine hK11 _ _ ?_
            refine p_val (r_assign (v := .bool (t4)) q12) ?_
            refine wpList_nil ?_
            refine x_norm ?_; refine hK9 _ _ ?_; clear hK9
            refine wp_ret ?_
            obtain rfl := Option.some.inj hF4
            refine e_1 rfl (q_tmp (v := .bool (t4)) rfl) ?_
            exact ⟨rfl, H.toExt⟩
          refine p_gs (j := 8) (gvl_at rfl rfl (k7 49)) (fun hb4 => ?_) (fun hb4 => ?_)
          · replace hE4 := cnd_t hE4 hb4
            refine p_want (gvl_at rfl rfl (k7 49)) hb4 ?_
            refine p_val (r_move (v := .int .i64 (y5.2)) ((k7 8).trans q9)) ?_
            refine p_want (gvl_at rfl rfl (k7 49)) hb4 ?_
            refine p_val (r_neq (t := (y5.2 != 0)) rfl rfl rfl) ?_
            refine p_want (gvl_at rfl rfl (k7 49)) hb4 ?_
            refine p_val (r_move (v := .bool ((y5.2 != 0))) rfl) ?_
            refine nameL fun m8 k8 => ?_
            refine gs_at 5 fun K12 hK12 R5 hR5 => ?_
            obtain ⟨t5, hE5, hF5⟩ := bnd hE4
            have J1 : ∀ (m9 : FM) (w11 : World), (∀ t, has [53, 54, 55, 56, 57] t = false → look m9 t = look m8 t) → look m9 57 = .bool (t5) → HS ⟨S, [], w⟩ S w11 [] → K12 m9 w11 := by
              clear H; intro m9 w11 k9 q10 H
              have q11 : look m9 49 = .bool (t3) := (k9 49 rfl).trans ((k8 49).trans (k7 49))
              refine hK12 _ _ ?_
              refine p_val (r_pickt (v := .bool (t5)) q11 hb4 q10) ?_
              refine hR4 _ _ ?_
              replace H : HS ⟨S, [], w⟩ S w11 [] := H
              obtain rfl := Option.some.inj hF5
              exact J2 _ _ (by (repeat (refine keep_cons rfl ?_)); refine keep_sub k9 rfl ?_; (repeat (refine keep_cons rfl ?_)); refine keep_name k8 ?_; (repeat (refine keep_cons rfl ?_)); exact fun _ _ => rfl) rfl H
            refine p_gs (j := 11) (gvl_at rfl rfl (k8 52)) (fun hb5 => ?_) (fun hb5 => ?_)
            · replace hE5 := cnd_t hE5 hb5
              refine p_skip (gvl_at rfl rfl (k8 52)) hb5 ?_
              rw [put_fr]
              refine p_skip (gvl_at rfl rfl (k8 52)) hb5 ?_
              rw [put_fr]
              refine p_skip (gvl_at rfl rfl (k8 52)) hb5 ?_
              rw [put_fr]
              refine p_skip (gvl_at rfl rfl (k8 52)) hb5 ?_
              rw [put_fr]
              refine p_want (gvl_at rfl rfl ((k8 49).trans (k7 49))) hb4 ?_
              refine p_val (r_pickt (v := .bool (true)) (k8 52) hb5 rfl) ?_
              refine hR5 _ _ ?_
              replace H : HS ⟨S, [], w⟩ S w9 [] := H
              obtain rfl := Option.some.inj hE5
              exact J1 _ _ (by (repeat (refine keep_cons rfl ?_)); exact fun _ _ => rfl) rfl H
            · replace hE5 := cnd_f hE5 hb5
              refine p_want (gvl_at rfl rfl (k8 52)) hb5 ?_
              refine p_val (r_move (v := str (y5.1)) ((k8 7).trans ((k7 7).trans q8))) ?_
              refine p_want (gvl_at rfl rfl (k8 52)) hb5 ?_
              obtain ⟨y7, e7, hE5⟩ := bnd hE5
              refine p_call (l := [str (y5.1)]) is18 rfl ?_
              refine (codec_Base64_c H.sub e7).mono ?_; rintro _ w10 ⟨rfl, hx⟩; replace H := H.ext hx; clear hx
              refine p_want (gvl_at rfl rfl (k8 52)) hb5 ?_
              refine p_val (r_move (v := str (x1)) ((k8 1).trans ((k7 1).trans q7))) ?_
              refine p_want (gvl_at rfl rfl (k8 52)) hb5 ?_
              refine p_val (r_eqT (t := (y7 == x1)) rfl rfl rfl) ?_
              refine p_want (gvl_at rfl rfl ((k8 49).trans (k7 49))) hb4 ?_
              refine p_val (r_pickf (v := .bool ((y7 == x1))) (k8 52) hb5 rfl) ?_
              refine hR5 _ _ ?_
              replace H : HS ⟨S, [], w⟩ S w10 [] := H
              obtain rfl := Option.some.inj hE5
              exact J1 _ _ (by (repeat (refine keep_cons rfl ?_)); exact fun _ _ => rfl) rfl H
          · replace hE4 := cnd_f hE4 hb4
            refine p_skip (gvl_at rfl rfl (k7 49)) hb4 ?_
            rw [put_fr]
            refine p_skip (gvl_at rfl rfl (k7 49)) hb4 ?_
            rw [put_fr]
            refine p_skip (gvl_at rfl rfl (k7 49)) hb4 ?_
            rw [put_fr]
            refine p_skipU rfl ?_
            rw [put_fr]
            refine p_skipU rfl ?_
            rw [put_fr]
            refine p_skipU rfl ?_
            rw [put_fr]
            refine p_skipU rfl ?_
            rw [put_fr]
            refine p_skip (gvl_at rfl rfl (k7 49)) hb4 ?_
            rw [put_fr]
            refine p_val (r_pickf (v := .bool (false)) (k7 49) hb4 rfl) ?_
            refine hR4 _ _ ?_
            replace H : HS ⟨S, [], w⟩ S w9 [] := H
            obtain rfl := Option.some.inj hE4
            exact J2 _ _ (by (repeat (refine keep_cons rfl ?_)); exact fun _ _ => rfl) rfl H
        refine p_gs (j := 2) (gvl_at rfl rfl (k5 43)) (fun hb3 => ?_) (fun hb3 => ?_)
        · replace hE3 := cnd_t hE3 hb3
          refine p_skip (gvl_at rfl rfl (k5 43)) hb3 ?_
          rw [put_fr]
          refine p_skip (gvl_at rfl rfl (k5 43)) hb3 ?_
          rw [put_fr]
          refine p_skip (gvl_at rfl rfl (k5 43)) hb3 ?_
          rw [put_fr]
          refine p_skip (gvl_at rfl rfl (k5 43)) hb3 ?_
          rw [put_fr]
          refine p_val (r_pickt (v := .bool (true)) (k5 43) hb3 rfl) ?_
          refine hR3 _ _ ?_
          replace H : HS ⟨S, [], w⟩ S w7 [] := H
          obtain rfl := Option.some.inj hE3
          exact J3 _ _ (by (repeat (refine keep_cons rfl ?_)); exact fun _ _ => rfl) rfl H
        · replace hE3 := cnd_f hE3 hb3
          refine p_want (gvl_at rfl rfl (k5 43)) hb3 ?_
          refine p_val (r_move (v := str (y4.1)) (k5 5)) ?_
          refine p_want (gvl_at rfl rfl (k5 43)) hb3 ?_
          obtain ⟨y6, e6, hE3⟩ := bnd hE3
          refine p_call (l := [str (y4.1)]) is14 rfl ?_
          refine (codec_Hex_c H.sub e6).mono ?_; rintro _ w8 ⟨rfl, hx⟩; replace H := H.ext hx; clear hx
          refine p_want (gvl_at rfl rfl (k5 43)) hb3 ?_
          refine p_val (r_move (v := str (x1)) ((k5 1).trans q5)) ?_
          refine p_want (gvl_at rfl rfl (k5 43)) hb3 ?_
          refine p_val (r_eqT (t := (y6 == x1)) rfl rfl rfl) ?_
          refine p_val (r_pickf (v := .bool ((y6 == x1))) (k5 43) hb3 rfl) ?_
          refine hR3 _ _ ?_
          replace H : HS ⟨S, [], w⟩ S w8 [] := H
          obtain rfl := Option.some.inj hE3
          exact J3 _ _ (by (repeat (refine keep_cons rfl ?_)); exact fun _ _ => rfl) rfl H
    refine p_gs (j := 11) (gvl_at rfl rfl (k3 20)) (fun hb2 => ?_) (fun hb2 => ?_)
    · replace hE2 := cnd_t hE2 hb2
      refine p_skip (gvl_at rfl rfl (k3 20)) hb2 ?_
      rw [put_fr]
      refine p_skip (gvl_at rfl rfl (k3 20)) hb2 ?_
      rw [put_fr]
      refine p_skip (gvl_at rfl rfl (k3 20)) hb2 ?_
      rw [put_fr]
      refine p_skip (gvl_at rfl rfl (k3 20)) hb2 ?_
      rw [put_fr]
      refine p_skip (gvl_at rfl rfl (k3 20)) hb2 ?_
      rw [put_fr]
      refine p_skip (gvl_at rfl rfl (k3 20)) hb2 ?_
      rw [put_fr]
      refine p_skip (gvl_at rfl rfl (k3 20)) hb2 ?_
      rw [put_fr]
      refine p_skip (gvl_at rfl rfl (k3 20)) hb2 ?_
      rw [put_fr]
      refine p_skip (gvl_at rfl rfl (k3 20)) hb2 ?_
      rw [put_fr]
      refine p_val (r_pickt (v := .bool (true)) (k3 20) hb2 rfl) ?_
      refine hR2 _ _ ?_
      replace H : HS ⟨S, [], w⟩ S w3 [] := H
      obtain rfl := Option.some.inj hE2
      exact J4 _ _ (by (repeat (refine keep_cons rfl ?_)); exact fun _ _ => rfl) rfl H
    · replace hE2 := cnd_f hE2 hb2
      refine p_want (gvl_at rfl rfl (k3 20)) hb2 ?_
      refine p_val (r_move (v := str (x0)) ((k3 0).trans q2)) ?_
      refine p_want (gvl_at rfl rfl (k3 20)) hb2 ?_
      obtain ⟨y3, e3, hE2⟩ := bnd hE2
      refine p_call (l := [str (x0)]) is18 rfl ?_
      refine (codec_Base64_c H.sub e3).mono ?_; rintro _ w4 ⟨rfl, hx⟩; replace H := H.ext hx; clear hx
      refine p_want (gvl_at rfl rfl (k3 20)) hb2 ?_
      refine p_val (r_lenT (N := (y3).length) u9 rfl rfl) ?_
      refine p_want (gvl_at rfl rfl (k3 20)) hb2 ?_
      refine p_val (r_move (v := str (x0)) ((k3 0).trans q2)) ?_
      refine p_want (gvl_at rfl rfl (k3 20)) hb2 ?_
      refine p_val (r_lenT (N := (x0).length) u9 rfl rfl) ?_
      refine p_want (gvl_at rfl rfl (k3 20)) hb2 ?_
      refine p_val (r_mul (r := w64 ((4 : Int) * ((x0).length : Int))) rfl rfl rfl) ?_
      refine p_want (gvl_at rfl rfl (k3 20)) hb2 ?_
      refine p_val (r_add (r := w64 ((w64 ((4 : Int) * ((x0).length : Int))) + 2)) rfl rfl rfl) ?_
      refine p_want (gvl_at rfl rfl (k3 20)) hb2 ?_
      refine p_val (r_quo (r := w64 (Int.tdiv (w64 ((w64 ((4 : Int) * ((x0).length : Int))) + 2)) 3)) rfl rfl (by decide) rfl) ?_
      refine p_want (gvl_at rfl rfl (k3 20)) hb2 ?_
      refine p_val (r_neq (t := (((y3).length : Int) != (w64 (Int.tdiv (w64 ((w64 ((4 : Int) * ((x0).length : Int))) + 2)) 3)))) rfl rfl rfl) ?_
      refine p_val (r_pickf (v := .bool ((((y3).length : Int) != (w64 (Int.tdiv (w64 ((w64 ((4 : Int) * ((x0).length : Int))) + 2)) 3))))) (k3 20) hb2 rfl) ?_
      refine hR2 _ _ ?_
      replace H : HS ⟨S, [], w⟩ S w4 [] := H
      obtain rfl := Option.some.inj hE2
      exact J4 _ _ (by (repeat (refine keep_cons rfl ?_)); exact fun _ _ => rfl) rfl H
  refine p_gs (j := 2) (gvl_at rfl rfl (k1 11)) (fun hb1 => ?_) (fun hb1 => ?_)
  · replace hE1 := cnd_t hE1 hb1
    refine p_skip (gvl_at rfl rfl (k1 11)) hb1 ?_
    rw [put_fr]
    refine p_skip (gvl_at rfl rfl (k1 11)) hb1 ?_
    rw [put_fr]
    refine p_skip (gvl_at rfl rfl (k1 11)) hb1 ?_
    rw [put_fr]
    refine p_skip (gvl_at rfl rfl (k1 11)) hb1 ?_
    rw [put_fr]
    refine p_skip (gvl_at rfl rfl (k1 11)) hb1 ?_
    rw [put_fr]
    refine p_skip (gvl_at rfl rfl (k1 11)) hb1 ?_
    rw [put_fr]
    refine p_skip (gvl_at rfl rfl (k1 11)) hb1 ?_
    rw [put_fr]
    refine p_val (r_pickt (v := .bool (true)) (k1 11) hb1 rfl) ?_
    refine hR1 _ _ ?_
    replace H : HS ⟨S, [], w⟩ S w1 [] := H
    obtain rfl := Option.some.inj hE1
    exact J5 _ _ (by (repeat (refine keep_cons rfl ?_)); exact fun _ _ => rfl) rfl H
  · replace hE1 := cnd_f hE1 hb1
    refine p_want (gvl_at rfl rfl (k1 11)) hb1 ?_
    refine p_val (r_move (v := str (x0)) (k1 0)) ?_
    refine p_want (gvl_at rfl rfl (k1 11)) hb1 ?_
    obtain ⟨y2, e2, hE1⟩ := bnd hE1
    refine p_call (l := [str (x0)]) is14 rfl ?_
    refine (codec_Hex_c H.sub e2).mono ?_; rintro _ w2 ⟨rfl, hx⟩; replace H := H.ext hx; clear hx
    refine p_want (gvl_at rfl rfl (k1 11)) hb1 ?_
    refine p_val (r_lenT (N := (y2).length) u9 rfl rfl) ?_
    refine p_want (gvl_at rfl rfl (k1 11)) hb1 ?_
    refine p_val (r_move (v := str (x0)) (k1 0)) ?_
    refine p_want (gvl_at rfl rfl (k1 11)) hb1 ?_
    refine p_val (r_lenT (N := (x0).length) u9 rfl rfl) ?_
    refine p_want (gvl_at rfl rfl (k1 11)) hb1 ?_
    refine p_val (r_mul (r := w64 ((2 : Int) * ((x0).length : Int))) rfl rfl rfl) ?_
    refine p_want (gvl_at rfl rfl (k1 11)) hb1 ?_
    refine p_val (r_neq (t := (((y2).length : Int) != (w64 ((2 : Int) * ((x0).length : Int))))) rfl rfl rfl) ?_
    refine p_val (r_pickf (v := .bool ((((y2).length : Int) != (w64 ((2 : Int) * ((x0).length : Int)))))) (k1 11) hb1 rfl) ?_
    refine hR1 _ _ ?_
    replace H : HS ⟨S, [], w⟩ S w2 [] := H
    obtain rfl := Option.some.inj hE1
    exact J5 _ _ (by (repeat (refine keep_cons rfl ?_)); exact fun _ _ => rfl) rfl H
def seneschallaw01_CodecSafe_b2 (s1 : Int) (y8 : UInt8) (s3 : Bool × Int) : Option ((Bool × Int) ⊕ (Bool)) :=
  Option.bind (idx ([([] : List UInt8), ([37] : List UInt8), ([37, 38, 61, 43] : List UInt8)] : List (List UInt8)) s1) fun y9 => bif decide (s3.2 < ((y9).length : Int)) then (Option.bind (bif s3.1 then (some (true)) else (Option.bind (idx ([([] : List UInt8), ([37] : List UInt8), ([37, 38, 61, 43] : List UInt8)] : List (List UInt8)) s1) fun y10 => Option.bind (idx y10 s3.2) fun y11 => some ((((y8).toNat : Int) == ((y11).toNat : Int))))) (fun t5 => some (.inl ((t5, (w64 (s3.2 + 1))))))) else (some (.inr (s3.1)))
def seneschallaw01_CodecSafe_b1 (y1 : (List UInt8) × Int) (y4 : List UInt8) (y5 : (List UInt8)) (s1 : Int) (s2 : Int) : Option ((Int) ⊕ ((Bool) ⊕ (Unit))) :=
  Option.bind (idx ([y4, y5, y1.1] : List (List UInt8)) s1) fun y6 => bif decide (s2 < ((y6).length : Int)) then (jn (Option.bind (idx ([y4, y5, y1.1] : List (List UInt8)) s1) fun y7 => Option.bind (idx y7 s2) fun y8 => Option.bind (Option.bind (iter (seneschallaw01_CodecSafe_b2 s1 y8) (((bif (bif (bif (bif (bif (bif decide ((65 : Int) ≤ ((y8).toNat : Int)) then decide (((y8).toNat : Int) ≤ 90) else false) then true else (bif decide ((97 : Int) ≤ ((y8).toNat : Int)) then decide (((y8).toNat : Int) ≤ 122) else false)) then true else (bif decide ((48 : Int) ≤ ((y8).toNat : Int)) then decide (((y8).toNat : Int) ≤ 57) else false)) then true else (((y8).toNat : Int) == 45)) then true else (((y8).toNat : Int) == 95)) then true else (bif decide ((0 : Int) < s1) then (bif (((y8).toNat : Int) == 46) then true else (((y8).toNat : Int) == 126)) else false)), 0))) (fun e => some (e))) (fun t4 => bif (!t4) then (some (.inr (false))) else (some (.inl (()))))) (fun t3 => some (.inl ((w64 (s2 + 1))))) (fun e => some (.inr (.inl (e))))) else (some (.inr (.inr (()))))
def seneschallaw01_CodecSafe_b0 (y1 : (List UInt8) × Int) (y4 : List UInt8) (y5 : (List UInt8)) (s1 : Int) : Option ((Int) ⊕ ((Bool) ⊕ (Unit))) :=
  bif decide (s1 < 3) then (jn (Option.bind (iter (seneschallaw01_CodecSafe_b1 y1 y4 y5 s1) (0)) (fun e => jnO e (fun e1 => some (.inr (e1))) (fun e2 => some (.inl (e2))))) (fun t2 => some (.inl ((w64 (s1 + 1))))) (fun e => some (.inr (.inl (e))))) else (some (.inr (.inr (()))))
def seneschallaw01_CodecSafe_p (x0 : List UInt8) (x1 : List ((List UInt8) × (List UInt8))) : Option (Bool) :=
  Option.bind (codec_Form_p x1) fun y1 => Option.bind (codec_Hex_p x0) fun y2 => Option.bind (codec_Base64_p x0) fun y3 => Option.bind (app y2 y3) fun y4 => Option.bind (codec_Percent_p x0) fun y5 => jn (Option.bind (iter (seneschallaw01_CodecSafe_b0 y1 y4 y5) (0)) (fun e => jnO e (fun e1 => some (.inr (e1))) (fun e2 => some (.inl (e2))))) (fun t1 => Option.bind (seneschallaw01_awake_p) fun y12 => some (y12)) (fun e => some (e))
theorem seneschallaw01_CodecSafe_c {S : Mem} {w : World} (hS : Sub S w) (hG : GV S) {x0 : List UInt8} {v1_ : Value} {x1 : List ((List UInt8) × (List UInt8))} (h1_ : RdS S v1_ x1) {r : Bool} (hF : seneschallaw01_CodecSafe_p x0 x1 = some r) :
    Calls Tryd.prog 10 #[str (x0), v1_] w fun e w' => e = .returned (.bool (r)) ∧ Ext w w' := by
  refine enter (n := 113) Tryd.func10 rfl rfl rfl ?_
  have H := HS.start hS
  unfold seneschallaw01_CodecSafe_p at hF
  refine wp_seq_k ?_; intro K1 hK1
  refine wp_region_lit ?_
  refine p_val (r_assign (v := .bool (false)) rfl) ?_
  refine wpList_nil ?_
  refine x_norm ?_; refine hK1 _ _ ?_; clear hK1
  refine wp_seq_k ?_; intro K2 hK2
  refine wp_region_lit ?_
  refine p_val (r_move (v := v1_) rfl) ?_
  obtain ⟨y1, e1, hF⟩ := bnd hF
  refine p_call (l := [v1_]) is24 rfl ?_
  refine (codec_Form_c H.sub h1_ e1).mono ?_; rintro _ w1 ⟨rfl, hx⟩; replace H := H.ext hx; clear hx
  refine p_val (r_move (v := .tuple #[str (y1.1), .int .i64 (y1.2)]) rfl) ?_
  refine p_val (r_extract (v := str (y1.1)) rfl rfl) ?_
  refine p_val (r_extract (v := .int .i64 (y1.2)) rfl rfl) ?_
  refine p_val (r_assign (v := str (y1.1)) rfl) ?_
  refine p_val (r_assign (v := .int .i64 (y1.2)) rfl) ?_
  refine wpList_nil ?_
  refine x_norm ?_; refine hK2 _ _ ?_; clear hK2
  refine wp_seq_k ?_; intro K3 hK3
  refine wp_region_lit ?_
  refine p_val (r_move (v := str (x0)) rfl) ?_
  obtain ⟨y2, e2, hF⟩ := bnd hF
  refine p_call (l := [str (x0)]) is14 rfl ?_
  refine (codec_Hex_c H.sub e2).mono ?_; rintro _ w2 ⟨rfl, hx⟩; replace H := H.ext hx; clear hx
  refine p_val (r_move (v := str (x0)) rfl) ?_
  obtain ⟨y3, e3, hF⟩ := bnd hF
  refine p_call (l := [str (x0)]) is18 rfl ?_
  refine (codec_Base64_c H.sub e3).mono ?_; rintro _ w3 ⟨rfl, hx⟩; replace H := H.ext hx; clear hx
  obtain ⟨y4, e4, hF⟩ := bnd hF
  refine p_val (r_cat (r := y4) rfl rfl (by have := (app_some e4).1; omega) (app_some e4).2) ?_
  refine p_val (r_move (v := str (x0)) rfl) ?_
  obtain ⟨y5, e5, hF⟩ := bnd hF
  refine p_call (l := [str (x0)]) is22 rfl ?_
  refine (codec_Percent_c H.sub e5).mono ?_; rintro _ w4 ⟨rfl, hx⟩; replace H := H.ext hx; clear hx
  refine p_val (r_move (v := str (y1.1)) rfl) ?_
  have g1 : RL S ([str (y4)] ++ ([str (y5)] ++ ([str (y1.1)] ++ ([] : List Value)))) ([y4, y5, y1.1] : List (List UInt8)) := (RL.cons rpT (RL.cons rpT (RL.cons rpT RL.nil)))
  refine p_of1 (a_bslice (N := 3) (vals := [(0, str (y4)), (1, str (y5)), (2, str (y1.1))]) (l := ([str (y4)] ++ ([str (y5)] ++ ([str (y1.1)] ++ ([] : List Value))))) tn39 H rfl rfl rfl g1.len) ?_; clear H; intro w5 v1 H
  generalize ([str (y4)] ++ ([str (y5)] ++ ([str (y1.1)] ++ ([] : List Value)))) = cs1 at H g1
  replace H : HS ⟨S, [], w⟩ S w5 [.osl (v1) (([y4, y5, y1.1] : List (List UInt8))).length 1 cs1 [] 9] := H
  refine p_val (r_assign (v := v1) rfl) ?_
  refine wpList_nil ?_
  refine x_norm ?_; refine hK3 _ _ ?_; clear hK3
  refine wp_seq_k ?_; intro K4 hK4
  refine wp_region_lit ?_
  have g2 : RL S ([str (([] : List UInt8))] ++ ([str (([37] : List UInt8))] ++ ([str (([37, 38, 61, 43] : List UInt8))] ++ ([] : List Value)))) ([([] : List UInt8), ([37] : List UInt8), ([37, 38, 61, 43] : List UInt8)] : List (List UInt8)) := (RL.cons rpT (RL.cons rpT (RL.cons rpT RL.nil)))
  refine p_of1 (a_bslice (N := 3) (vals := [(0, str (([] : List UInt8))), (1, str (([37] : List UInt8))), (2, str (([37, 38, 61, 43] : List UInt8)))]) (l := ([str (([] : List UInt8))] ++ ([str (([37] : List UInt8))] ++ ([str (([37, 38, 61, 43] : List UInt8))] ++ ([] : List Value))))) tn39 H rfl rfl rfl g2.len) ?_; clear H; intro w6 v2 H
  generalize ([str (([] : List UInt8))] ++ ([str (([37] : List UInt8))] ++ ([str (([37, 38, 61, 43] : List UInt8))] ++ ([] : List Value)))) = cs2 at H g2
  replace H : HS ⟨S, [], w⟩ S w6 [.osl (v2) (([([] : List UInt8), ([37] : List UInt8), ([37, 38, 61, 43] : List UInt8)] : List (List UInt8))).length 1 cs2 [] 9, .osl (v1) (([y4, y5, y1.1] : List (List UInt8))).length 1 cs1 [] 9] := H
  refine p_val (r_assign (v := v2) rfl) ?_
  refine wpList_nil ?_
  refine x_norm ?_; refine hK4 _ _ ?_; clear hK4
  refine wp_seq_k ?_; intro K5 hK5
  refine nameF fun m1 k1 => ?_
  obtain ⟨o1, hE1, hF1⟩ := jn_some hF
  have J11 : ∀ (t1 : Unit) (m28 : FM) (w14 : World), o1 = .inl t1 → (∀ t, has [4, 9, 10, 11, 12, 13, 29, 30, 31, 32, 33, 34, 35, 36, 37, 38, 39, 40, 41, 42, 43, 44, 45, 46, 47, 48, 49, 50, 51, 52, 53, 54, 55, 56, 57, 58, 59, 60, 61, 62, 63, 64, 65, 66, 67, 68, 69, 70, 71, 72, 73, 74, 75, 76, 77, 78, 79, 80, 81, 82, 83, 84, 85, 86, 87, 88, 89, 90, 91, 92, 93, 94, 95, 96, 97, 98, 99, 100, 101, 102, 103, 104, 105, 106, 107, 108, 109, 110, 111] t = false → look m28 t = look m1 t) → HS ⟨S, [], w⟩ S w14 [.osl (v2) (([([] : List UInt8), ([37] : List UInt8), ([37, 38, 61, 43] : List UInt8)] : List (List UInt8))).length 1 cs2 [] 9, .osl (v1) (([y4, y5, y1.1] : List (List UInt8))).length 1 cs1 [] 9] → K5 (fr 113 m28) w14 := by
    clear H; intro t1 m28 w14 ho k31 H
    replace hF1 := jnO_l hF1 ho
    refine hK5 _ _ ?_
    refine wp_seq_k ?_; intro K30 hK30
    refine wp_region_lit ?_
    obtain ⟨y12, e12, hF1⟩ := bnd hF1
    refine p_call (l := []) is13 rfl ?_
    refine (seneschallaw01_awake_c H.sub hG e12).mono ?_; rintro _ w15 ⟨rfl, hx⟩; replace H := H.ext hx; clear hx
    refine p_val (r_assign (v := .bool (y12)) rfl) ?_
    refine wpList_nil ?_
    refine x_norm ?_; refine hK30 _ _ ?_; clear hK30
    refine wp_ret ?_
    obtain rfl := Option.some.inj hF1
    refine e_1 rfl (q_tmp (v := .bool (y12)) rfl) ?_
    exact ⟨rfl, H.toExt⟩
  refine wp_seq_k ?_; intro K6 hK6
  refine wp_region_lit ?_
  refine p_val (r_assign (v := .int .i64 (0)) rfl) ?_
  refine wpList_nil ?_
  refine x_norm ?_; refine hK6 _ _ ?_; clear hK6
  refine wp_block ?_
  refine nameF fun m2 k2 => ?_
  obtain ⟨out1, hL1, hE2⟩ := bnd hE1
  replace H : HS ⟨S, [], w⟩ S w6 [.osl (v2) (([([] : List UInt8), ([37] : List UInt8), ([37, 38, 61, 43] : List UInt8)] : List (List UInt8))).length 1 cs2 [] 9, .osl (v1) (([y4, y5, y1.1] : List (List UInt8))).length 1 cs1 [] 9] := H
  refine loopI [4, 9, 10, 11, 12, 13, 29, 30, 31, 32, 33, 34, 35, 36, 37, 38, 39, 40, 41, 42, 43, 44, 45, 46, 47, 48, 49, 50, 51, 52, 53, 54, 55, 56, 57, 58, 59, 60, 61, 62, 63, 64, 65, 66, 67, 68, 69, 70, 71, 72, 73, 74, 75, 76, 77, 78, 79, 80, 81, 82, 83, 84, 85, 86, 87, 88, 89, 90, 91, 92, 93, 94, 95, 96, 97, 98, 99, 100, 101, 102, 103, 104, 105, 106, 107, 108, 109, 110, 111] (fun (s1 : Int) (m3 : FM) (w7 : World) => look m3 9 = .int .i64 (s1) ∧ HS ⟨S, [], w⟩ S w7 [.osl (v2) (([([] : List UInt8), ([37] : List UInt8), ([37, 38, 61, 43] : List UInt8)] : List (List UInt8))).length 1 cs2 [] 9, .osl (v1) (([y4, y5, y1.1] : List (List UInt8))).length 1 cs1 [] 9]) hL1 ⟨(k2 9), H⟩ ?_
  clear H; intro k4 s1 m3 w7 k3 hI1 o2 hb1 hh1; obtain ⟨q1, H⟩ := hI1
  have q2 : look m3 7 = v1 := (k3 7 rfl).trans ((k2 7).trans (k1 7))
  have q3 : look m3 8 = v2 := (k3 8 rfl).trans ((k2 8).trans (k1 8))
  unfold seneschallaw01_CodecSafe_b0 at hb1
  refine wp_seq_k ?_; intro K7 hK7
  refine wp_seq_k ?_; intro K8 hK8
  refine wp_region_lit ?_
  refine p_val (r_move (v := .int .i64 (s1)) q1) ?_
  refine p_val (r_lss (t := decide (s1 < 3)) rfl rfl rfl) ?_
  refine wpList_nil ?_
  refine x_norm ?_; refine hK8 _ _ ?_; clear hK8
  refine c_split (t := decide (s1 < 3)) rfl (fun hc1 => ?_) (fun hc1 => ?_)
  · replace hb1 := cnd_t hb1 hc1
    refine wp_skip ?_
    refine x_norm ?_; refine hK7 _ _ ?_; clear hK7
    refine wp_seq_k ?_; intro K9 hK9
    refine nameF fun m4 k5 => ?_
    obtain ⟨o3, hE3, hF2⟩ := jn_some hb1
    have J10 : ∀ (t2 : Unit) (m27 : FM) (w13 : World), o3 = .inl t2 → (∀ t, has [4, 10, 11, 12, 13, 33, 34, 35, 36, 37, 38, 39, 40, 41, 42, 43, 44, 45, 46, 47, 48, 49, 50, 51, 52, 53, 54, 55, 56, 57, 58, 59, 60, 61, 62, 63, 64, 65, 66, 67, 68, 69, 70, 71, 72, 73, 74, 75, 76, 77, 78, 79, 80, 81, 82, 83, 84, 85, 86, 87, 88, 89, 90, 91, 92, 93, 94, 95, 96, 97, 98, 99, 100, 101, 102, 103, 104, 105, 106, 107, 108, 109, 110, 111] t = false → look m27 t = look m4 t) → HS ⟨S, [], w⟩ S w13 [.osl (v2) (([([] : List UInt8), ([37] : List UInt8), ([37, 38, 61, 43] : List UInt8)] : List (List UInt8))).length 1 cs2 [] 9, .osl (v1) (([y4, y5, y1.1] : List (List UInt8))).length 1 cs1 [] 9] → K9 (fr 113 m27) w13 := by
      clear H; intro t2 m27 w13 ho k30 H
      replace hF2 := jnO_l hF2 ho
      have q67 : look m27 7 = v1 := (k30 7 rfl).trans ((k5 7).trans q2)
      have q68 : look m27 8 = v2 := (k30 8 rfl).trans ((k5 8).trans q3)
      have q69 : look m27 9 = .int .i64 (s1) := (k30 9 rfl).trans ((k5 9).trans q1)
      refine hK9 _ _ ?_
      refine wp_region_lit ?_
      refine p_val (r_move (v := .int .i64 (s1)) q69) ?_
      refine p_val (r_add (r := w64 (s1 + 1)) rfl rfl rfl) ?_
      refine p_val (r_assign (v := .int .i64 ((w64 (s1 + 1)))) rfl) ?_
      refine wpList_nil ?_
      refine x_norm ?_
      replace H : HS ⟨S, [], w⟩ S w13 [.osl (v2) (([([] : List UInt8), ([37] : List UInt8), ([37, 38, 61, 43] : List UInt8)] : List (List UInt8))).length 1 cs2 [] 9, .osl (v1) (([y4, y5, y1.1] : List (List UInt8))).length 1 cs1 [] 9] := H
      obtain rfl := Option.some.inj hF2
      exact ⟨(w64 (s1 + 1)), _, rfl, (by (repeat (refine keep_cons rfl ?_)); refine keep_sub k30 rfl ?_; (repeat (refine keep_cons rfl ?_)); refine keep_name k5 ?_; (repeat (refine keep_cons rfl ?_)); refine keep_sub k3 rfl ?_; (repeat (refine keep_cons rfl ?_)); exact fun _ _ => rfl), ⟨rfl, H⟩, hh1⟩
    refine wp_block ?_
    refine wp_seq_k ?_; intro K10 hK10
    refine wp_region_lit ?_
    refine p_val (r_assign (v := .int .i64 (0)) rfl) ?_
    refine wpList_nil ?_
    refine x_norm ?_; refine hK10 _ _ ?_; clear hK10
    refine wp_block ?_
    refine nameF fun m5 k6 => ?_
    obtain ⟨out2, hL2, hE4⟩ := bnd hE3
    replace H : HS ⟨S, [], w⟩ S w7 [.osl (v2) (([([] : List UInt8), ([37] : List UInt8), ([37, 38, 61, 43] : List UInt8)] : List (List UInt8))).length 1 cs2 [] 9, .osl (v1) (([y4, y5, y1.1] : List (List UInt8))).length 1 cs1 [] 9] := H
    refine loopI [4, 10, 11, 12, 13, 33, 34, 35, 36, 37, 38, 39, 40, 41, 42, 43, 44, 45, 46, 47, 48, 49, 50, 51, 52, 53, 54, 55, 56, 57, 58, 59, 60, 61, 62, 63, 64, 65, 66, 67, 68, 69, 70, 71, 72, 73, 74, 75, 76, 77, 78, 79, 80, 81, 82, 83, 84, 85, 86, 87, 88, 89, 90, 91, 92, 93, 94, 95, 96, 97, 98, 99, 100, 101, 102, 103, 104, 105, 106, 107, 108, 109, 110, 111] (fun (s2 : Int) (m6 : FM) (w8 : World) => look m6 10 = .int .i64 (s2) ∧ HS ⟨S, [], w⟩ S w8 [.osl (v2) (([([] : List UInt8), ([37] : List UInt8), ([37, 38, 61, 43] : List UInt8)] : List (List UInt8))).length 1 cs2 [] 9, .osl (v1) (([y4, y5, y1.1] : List (List UInt8))).length 1 cs1 [] 9]) hL2 ⟨(k6 10), H⟩ ?_
    clear H; intro k8 s2 m6 w8 k7 hI2 o4 hb2 hh2; obtain ⟨q4, H⟩ := hI2
    have q5 : look m6 7 = v1 := (k7 7 rfl).trans ((k6 7).trans ((k5 7).trans q2))
    have q6 : look m6 8 = v2 := (k7 8 rfl).trans ((k6 8).trans ((k5 8).trans q3))
    have q7 : look m6 9 = .int .i64 (s1) := (k7 9 rfl).trans ((k6 9).trans ((k5 9).trans q1))
    unfold seneschallaw01_CodecSafe_b1 at hb2
    refine wp_seq_k ?_; intro K11 hK11
    refine wp_seq_k ?_; intro K12 hK12
    refine wp_region_lit ?_
    refine p_val (r_move (v := .int .i64 (s2)) q4) ?_
    refine p_val (r_move (v := v1) q5) ?_
    refine p_val (r_move (v := .int .i64 (s1)) q7) ?_
    obtain ⟨y6, e6, hb2⟩ := bnd hb2
    obtain ⟨b1, c1, hv1⟩ := H.ownAt (k := 1) rfl (idx_lt e6)
    refine p_val (r_addrV (i := (s1 : Int).toNat) u39 tsz9 rfl hv1 rfl (idx_some e6).1 (idx_lt e6)) ?_
    subst hv1
    have hr1 := RL.get g1 (idx_some e6).2; generalize hghr1 : piece cs1 _ _ = cs3 at hr1
    obtain rfl := elT hr1
    refine p_val (o_load1 (v := str (y6)) to9 H (k := 1) rfl rfl (idx_lt e6) hghr1) ?_
    refine p_val (r_lenT (N := (y6).length) u9 rfl rfl) ?_
    refine p_val (r_lss (t := decide (s2 < ((y6).length : Int))) rfl rfl rfl) ?_
    refine wpList_nil ?_
    refine x_norm ?_; refine hK12 _ _ ?_; clear hK12
    refine c_split (t := decide (s2 < ((y6).length : Int))) rfl (fun hc2 => ?_) (fun hc2 => ?_)
    · replace hb2 := cnd_t hb2 hc2
      refine wp_skip ?_
      refine x_norm ?_; refine hK11 _ _ ?_; clear hK11
      refine wp_seq_k ?_; intro K13 hK13
      refine nameF fun m7 k9 => ?_
      obtain ⟨o5, hE5, hF3⟩ := jn_some hb2
      have J9 : ∀ (t3 : Unit) (m26 : FM) (w12 : World), o5 = .inl t3 → (∀ t, has [4, 11, 12, 13, 42, 43, 44, 45, 46, 47, 48, 49, 50, 51, 52, 53, 54, 55, 56, 57, 58, 59, 60, 61, 62, 63, 64, 65, 66, 67, 68, 69, 70, 71, 72, 73, 74, 75, 76, 77, 78, 79, 80, 81, 82, 83, 84, 85, 86, 87, 88, 89, 90, 91, 92, 93, 94, 95, 96, 97, 98, 99, 100, 101, 102, 103, 104, 105, 106, 107, 108, 109, 110, 111] t = false → look m26 t = look m7 t) → HS ⟨S, [], w⟩ S w12 [.osl (v2) (([([] : List UInt8), ([37] : List UInt8), ([37, 38, 61, 43] : List UInt8)] : List (List UInt8))).length 1 cs2 [] 9, .osl (sl b1 0 (([y4, y5, y1.1] : List (List UInt8))).length c1) (([y4, y5, y1.1] : List (List UInt8))).length 1 cs1 [] 9] → K13 (fr 113 m26) w12 := by
        clear H; intro t3 m26 w12 ho k29 H
        replace hF3 := jnO_l hF3 ho
        have q63 : look m26 7 = sl b1 0 (([y4, y5, y1.1] : List (List UInt8))).length c1 := (k29 7 rfl).trans ((k9 7).trans q5)
        have q64 : look m26 8 = v2 := (k29 8 rfl).trans ((k9 8).trans q6)
        have q65 : look m26 9 = .int .i64 (s1) := (k29 9 rfl).trans ((k9 9).trans q7)
        have q66 : look m26 10 = .int .i64 (s2) := (k29 10 rfl).trans ((k9 10).trans q4)
        refine hK13 _ _ ?_
        refine wp_region_lit ?_
        refine p_val (r_move (v := .int .i64 (s2)) q66) ?_
        refine p_val (r_add (r := w64 (s2 + 1)) rfl rfl rfl) ?_
        refine p_val (r_assign (v := .int .i64 ((w64 (s2 + 1)))) rfl) ?_
        refine wpList_nil ?_
        refine x_norm ?_
        replace H : HS ⟨S, [], w⟩ S w12 [.osl (v2) (([([] : List UInt8), ([37] : List UInt8), ([37, 38, 61, 43] : List UInt8)] : List (List UInt8))).length 1 cs2 [] 9, .osl (sl b1 0 (([y4, y5, y1.1] : List (List UInt8))).length c1) (([y4, y5, y1.1] : List (List UInt8))).length 1 cs1 [] 9] := H
        obtain rfl := Option.some.inj hF3
        exact ⟨(w64 (s2 + 1)), _, rfl, (by (repeat (refine keep_cons rfl ?_)); refine keep_sub k29 rfl ?_; (repeat (refine keep_cons rfl ?_)); refine keep_name k9 ?_; (repeat (refine keep_cons rfl ?_)); refine keep_sub k7 rfl ?_; (repeat (refine keep_cons rfl ?_)); exact fun _ _ => rfl), ⟨rfl, H⟩, hh2⟩
      refine wp_block ?_
      refine wp_seq_k ?_; intro K14 hK14
      refine wp_region_lit ?_
      refine p_val (r_move (v := sl b1 0 (([y4, y5, y1.1] : List (List UInt8))).length c1) ((k9 7).trans q5)) ?_
      refine p_val (r_move (v := .int .i64 (s1)) ((k9 9).trans q7)) ?_
      obtain ⟨y7, e7, hE5⟩ := bnd hE5
      refine p_val (r_addrV (i := (s1 : Int).toNat) u39 tsz9 rfl (HS.ownV H (k := 1) rfl) rfl (idx_some e7).1 (idx_lt e7)) ?_
      have hr2 := RL.get g1 (idx_some e7).2; generalize hghr2 : piece cs1 _ _ = cs4 at hr2
      obtain rfl := elT hr2
      refine p_val (o_load1 (v := str (y7)) to9 H (k := 1) rfl rfl (idx_lt e7) hghr2) ?_
      refine p_val (r_move (v := .int .i64 (s2)) ((k9 10).trans q4)) ?_
      obtain ⟨y8, e8, hE5⟩ := bnd hE5
      refine p_val (r_idxT (i := (s2 : Int).toNat) (u := y8) u9 rfl rfl (idx_some e8).1 (idx_some e8).2) ?_
      refine p_val (r_assign (v := .int .u8 (((y8).toNat : Int))) rfl) ?_
      refine wpList_nil ?_
      refine x_norm ?_; refine hK14 _ _ ?_; clear hK14
      refine wp_seq_k ?_; intro K15 hK15
      refine wp_region_lit ?_
      refine p_val (r_move (v := .int .u8 (((y8).toNat : Int))) rfl) ?_
      refine p_val (r_geq (t := decide ((65 : Int) ≤ ((y8).toNat : Int))) rfl rfl rfl) ?_
      refine p_val (r_move (v := .bool (decide ((65 : Int) ≤ ((y8).toNat : Int)))) rfl) ?_
      refine nameL fun m8 k10 => ?_
      refine gs_at 3 fun K16 hK16 R3 hR3 => ?_
      have J1 : ∀ (m9 : FM), (∀ t, has [51, 52, 53] t = false → look m9 t = look m8 t) → look m9 53 = .bool ((bif decide ((65 : Int) ≤ ((y8).toNat : Int)) then decide (((y8).toNat : Int) ≤ 90) else false)) → K16 m9 w8 := by
        intro m9 k11 q8
        have q9 : look m9 7 = sl b1 0 (([y4, y5, y1.1] : List (List UInt8))).length c1 := (k11 7 rfl).trans ((k10 7).trans ((k9 7).trans q5))
        have q10 : look m9 8 = v2 := (k11 8 rfl).trans ((k10 8).trans ((k9 8).trans q6))
        have q11 : look m9 9 = .int .i64 (s1) := (k11 9 rfl).trans ((k10 9).trans ((k9 9).trans q7))
        have q12 : look m9 10 = .int .i64 (s2) := (k11 10 rfl).trans ((k10 10).trans ((k9 10).trans q4))
        have q13 : look m9 11 = .int .u8 (((y8).toNat : Int)) := (k11 11 rfl).trans (k10 11)
        refine hK16 _ _ ?_; clear hK16 hR3
        refine p_val (r_move (v := .bool ((bif decide ((65 : Int) ≤ ((y8).toNat : Int)) then decide (((y8).toNat : Int) ≤ 90) else false))) q8) ?_
        refine nameL fun m10 k12 => ?_
        refine gs_at 7 fun K17 hK17 R4 hR4 => ?_
        have J2 : ∀ (m11 : FM), (∀ t, has [55, 56, 57, 58, 59, 60, 61] t = false → look m11 t = look m10 t) → look m11 61 = .bool ((bif (bif decide ((65 : Int) ≤ ((y8).toNat : Int)) then decide (((y8).toNat : Int) ≤ 90) else false) then true else (bif decide ((97 : Int) ≤ ((y8).toNat : Int)) then decide (((y8).toNat : Int) ≤ 122) else false))) → K17 m11 w8 := by
          intro m11 k13 q14
          have q15 : look m11 7 = sl b1 0 (([y4, y5, y1.1] : List (List UInt8))).length c1 := (k13 7 rfl).trans ((k12 7).trans q9)
          have q16 : look m11 8 = v2 := (k13 8 rfl).trans ((k12 8).trans q10)
          have q17 : look m11 9 = .int .i64 (s1) := (k13 9 rfl).trans ((k12 9).trans q11)
          have q18 : look m11 10 = .int .i64 (s2) := (k13 10 rfl).trans ((k12 10).trans q12)
          have q19 : look m11 11 = .int .u8 (((y8).toNat : Int)) := (k13 11 rfl).trans ((k12 11).trans q13)
          refine hK17 _ _ ?_; clear hK17 hR4
          refine p_val (r_move (v := .bool ((bif (bif decide ((65 : Int) ≤ ((y8).toNat : Int)) then decide (((y8).toNat : Int) ≤ 90) else false) then true else (bif decide ((97 : Int) ≤ ((y8).toNat : Int)) then decide (((y8).toNat : Int) ≤ 122) else false)))) q14) ?_
          refine nameL fun m12 k14 => ?_
          refine gs_at 7 fun K18 hK18 R5 hR5 => ?_
          have J3 : ∀ (m13 : FM), (∀ t, has [63, 64, 65, 66, 67, 68, 69] t = false → look m13 t = look m12 t) → look m13 69 = .bool ((bif (bif (bif decide ((65 : Int) ≤ ((y8).toNat : Int)) then decide (((y8).toNat : Int) ≤ 90) else false) then true else (bif decide ((97 : Int) ≤ ((y8).toNat : Int)) then decide (((y8).toNat : Int) ≤ 122) else false)) then true else (bif decide ((48 : Int) ≤ ((y8).toNat : Int)) then decide (((y8).toNat : Int) ≤ 57) else false))) → K18 m13 w8 := by
            intro m13 k15 q20
            have q21 : look m13 7 = sl b1 0 (([y4, y5, y1.1] : List (List UInt8))).length c1 := (k15 7 rfl).trans ((k14 7).trans q15)
            have q22 : look m13 8 = v2 := (k15 8 rfl).trans ((k14 8).trans q16)
            have q23 : look m13 9 = .int .i64 (s1) := (k15 9 rfl).trans ((k14 9).trans q17)
            have q24 : look m13 10 = .int .i64 (s2) := (k15 10 rfl).trans ((k14 10).trans q18)
            have q25 : look m13 11 = .int .u8 (((y8).toNat : Int)) := (k15 11 rfl).trans ((k14 11).trans q19)
            refine hK18 _ _ ?_; clear hK18 hR5
            refine p_val (r_move (v := .bool ((bif (bif (bif decide ((65 : Int) ≤ ((y8).toNat : Int)) then decide (((y8).toNat : Int) ≤ 90) else false) then true else (bif decide ((97 : Int) ≤ ((y8).toNat : Int)) then decide (((y8).toNat : Int) ≤ 122) else false)) then true else (bif decide ((48 : Int) ≤ ((y8).toNat : Int)) then decide (((y8).toNat : Int) ≤ 57) else false)))) q20) ?_
            refine nameL fun m14 k16 => ?_
            refine gs_at 3 fun K19 hK19 R6 hR6 => ?_
            have J4 : ∀ (m15 : FM), (∀ t, has [71, 72, 73] t = false → look m15 t = look m14 t) → look m15 73 = .bool ((bif (bif (bif (bif decide ((65 : Int) ≤ ((y8).toNat : Int)) then decide (((y8).toNat : Int) ≤ 90) else false) then true else (bif decide ((97 : Int) ≤ ((y8).toNat : Int)) then decide (((y8).toNat : Int) ≤ 122) else false)) then true else (bif decide ((48 : Int) ≤ ((y8).toNat : Int)) then decide (((y8).toNat : Int) ≤ 57) else false)) then true else (((y8).toNat : Int) == 45))) → K19 m15 w8 := by
              intro m15 k17 q26
              have q27 : look m15 7 = sl b1 0 (([y4, y5, y1.1] : List (List UInt8))).length c1 := (k17 7 rfl).trans ((k16 7).trans q21)
              have q28 : look m15 8 = v2 := (k17 8 rfl).trans ((k16 8).trans q22)
              have q29 : look m15 9 = .int .i64 (s1) := (k17 9 rfl).trans ((k16 9).trans q23)
              have q30 : look m15 10 = .int .i64 (s2) := (k17 10 rfl).trans ((k16 10).trans q24)
              have q31 : look m15 11 = .int .u8 (((y8).toNat : Int)) := (k17 11 rfl).trans ((k16 11).trans q25)
              refine hK19 _ _ ?_; clear hK19 hR6
              refine p_val (r_move (v := .bool ((bif (bif (bif (bif decide ((65 : Int) ≤ ((y8).toNat : Int)) then decide (((y8).toNat : Int) ≤ 90) else false) then true else (bif decide ((97 : Int) ≤ ((y8).toNat : Int)) then decide (((y8).toNat : Int) ≤ 122) else false)) then true else (bif decide ((48 : Int) ≤ ((y8).toNat : Int)) then decide (((y8).toNat : Int) ≤ 57) else false)) then true else (((y8).toNat : Int) == 45)))) q26) ?_
              refine nameL fun m16 k18 => ?_
              refine gs_at 3 fun K20 hK20 R7 hR7 => ?_
              have J5 : ∀ (m17 : FM), (∀ t, has [75, 76, 77] t = false → look m17 t = look m16 t) → look m17 77 = .bool ((bif (bif (bif (bif (bif decide ((65 : Int) ≤ ((y8).toNat : Int)) then decide (((y8).toNat : Int) ≤ 90) else false) then true else (bif decide ((97 : Int) ≤ ((y8).toNat : Int)) then decide (((y8).toNat : Int) ≤ 122) else false)) then true else (bif decide ((48 : Int) ≤ ((y8).toNat : Int)) then decide (((y8).toNat : Int) ≤ 57) else false)) then true else (((y8).toNat : Int) == 45)) then true else (((y8).toNat : Int) == 95))) → K20 m17 w8 := by
                intro m17 k19 q32
                have q33 : look m17 7 = sl b1 0 (([y4, y5, y1.1] : List (List UInt8))).length c1 := (k19 7 rfl).trans ((k18 7).trans q27)
                have q34 : look m17 8 = v2 := (k19 8 rfl).trans ((k18 8).trans q28)
                have q35 : look m17 9 = .int .i64 (s1) := (k19 9 rfl).trans ((k18 9).trans q29)
                have q36 : look m17 10 = .int .i64 (s2) := (k19 10 rfl).trans ((k18 10).trans q30)
                have q37 : look m17 11 = .int .u8 (((y8).toNat : Int)) := (k19 11 rfl).trans ((k18 11).trans q31)
                refine hK20 _ _ ?_; clear hK20 hR7
                refine p_val (r_move (v := .bool ((bif (bif (bif (bif (bif decide ((65 : Int) ≤ ((y8).toNat : Int)) then decide (((y8).toNat : Int) ≤ 90) else false) then true else (bif decide ((97 : Int) ≤ ((y8).toNat : Int)) then decide (((y8).toNat : Int) ≤ 122) else false)) then true else (bif decide ((48 : Int) ≤ ((y8).toNat : Int)) then decide (((y8).toNat : Int) ≤ 57) else false)) then true else (((y8).toNat : Int) == 45)) then true else (((y8).toNat : Int) == 95)))) q32) ?_
                refine nameL fun m18 k20 => ?_
                refine gs_at 11 fun K21 hK21 R8 hR8 => ?_
                have J6 : ∀ (m19 : FM), (∀ t, has [79, 80, 81, 82, 83, 84, 85, 86, 87, 88, 89] t = false → look m19 t = look m18 t) → look m19 89 = .bool ((bif (bif (bif (bif (bif (bif decide ((65 : Int) ≤ ((y8).toNat : Int)) then decide (((y8).toNat : Int) ≤ 90) else false) then true else (bif decide ((97 : Int) ≤ ((y8).toNat : Int)) then decide (((y8).toNat : Int) ≤ 122) else false)) then true else (bif decide ((48 : Int) ≤ ((y8).toNat : Int)) then decide (((y8).toNat : Int) ≤ 57) else false)) then true else (((y8).toNat : Int) == 45)) then true else (((y8).toNat : Int) == 95)) then true else (bif decide ((0 : Int) < s1) then (bif (((y8).toNat : Int) == 46) then true else (((y8).toNat : Int) == 126)) else false))) → K21 m19 w8 := by
                  intro m19 k21 q38
                  have q39 : look m19 7 = sl b1 0 (([y4, y5, y1.1] : List (List UInt8))).length c1 := (k21 7 rfl).trans ((k20 7).trans q33)
                  have q40 : look m19 8 = v2 := (k21 8 rfl).trans ((k20 8).trans q34)
                  have q41 : look m19 9 = .int .i64 (s1) := (k21 9 rfl).trans ((k20 9).trans q35)
                  have q42 : look m19 10 = .int .i64 (s2) := (k21 10 rfl).trans ((k20 10).trans q36)
                  have q43 : look m19 11 = .int .u8 (((y8).toNat : Int)) := (k21 11 rfl).trans ((k20 11).trans q37)
                  refine hK21 _ _ ?_; clear hK21 hR8
                  refine p_val (r_assign (v := .bool ((bif (bif (bif (bif (bif (bif decide ((65 : Int) ≤ ((y8).toNat : Int)) then decide (((y8).toNat : Int) ≤ 90) else false) then true else (bif decide ((97 : Int) ≤ ((y8).toNat : Int)) then decide (((y8).toNat : Int) ≤ 122) else false)) then true else (bif decide ((48 : Int) ≤ ((y8).toNat : Int)) then decide (((y8).toNat : Int) ≤ 57) else false)) then true else (((y8).toNat : Int) == 45)) then true else (((y8).toNat : Int) == 95)) then true else (bif decide ((0 : Int) < s1) then (bif (((y8).toNat : Int) == 46) then true else (((y8).toNat : Int) == 126)) else false)))) q38) ?_
                  refine wpList_nil ?_
                  refine x_norm ?_; refine hK15 _ _ ?_; clear hK15
                  refine wp_seq_k ?_; intro K22 hK22
                  refine nameF fun m20 k22 => ?_
                  obtain ⟨t4, hE6, hF4⟩ := bnd hE5
                  have J8 : ∀ (m25 : FM) (w11 : World), (∀ t, has [12, 13, 90, 91, 92, 93, 94, 95, 96, 97, 98, 99, 100, 101, 102, 103, 104, 105, 106, 107, 108, 109] t = false → look m25 t = look m20 t) → look m25 12 = .bool (t4) → HS ⟨S, [], w⟩ S w11 [.osl (v2) (([([] : List UInt8), ([37] : List UInt8), ([37, 38, 61, 43] : List UInt8)] : List (List UInt8))).length 1 cs2 [] 9, .osl (sl b1 0 (([y4, y5, y1.1] : List (List UInt8))).length c1) (([y4, y5, y1.1] : List (List UInt8))).length 1 cs1 [] 9] → K22 (fr 113 m25) w11 := by
                    clear H; intro m25 w11 k28 q58 H
                    have q59 : look m25 7 = sl b1 0 (([y4, y5, y1.1] : List (List UInt8))).length c1 := (k28 7 rfl).trans ((k22 7).trans q39)
                    have q60 : look m25 8 = v2 := (k28 8 rfl).trans ((k22 8).trans q40)
                    have q61 : look m25 9 = .int .i64 (s1) := (k28 9 rfl).trans ((k22 9).trans q41)
                    have q62 : look m25 10 = .int .i64 (s2) := (k28 10 rfl).trans ((k22 10).trans q42)
                    refine hK22 _ _ ?_
                    refine wp_seq_k ?_; intro K28 hK28
                    refine wp_region_lit ?_
                    refine p_val (r_move (v := .bool (t4)) q58) ?_
                    refine p_val (r_not (t := (!t4)) rfl rfl) ?_
                    refine wpList_nil ?_
                    refine x_norm ?_; refine hK28 _ _ ?_; clear hK28
                    refine c_split (t := (!t4)) rfl (fun hc4 => ?_) (fun hc4 => ?_)
                    · replace hF4 := cnd_t hF4 hc4
                      refine wp_seq_k ?_; intro K29 hK29
                      refine wp_region_lit ?_
                      refine p_val (r_assign (v := .bool (false)) rfl) ?_
                      refine wpList_nil ?_
                      refine x_norm ?_; refine hK29 _ _ ?_; clear hK29
                      refine wp_ret ?_
                      refine b_ret ?_
                      refine x_ret ?_
                      refine x_ret ?_
                      refine b_ret ?_
                      refine b_ret ?_
                      refine x_ret ?_
                      refine x_ret ?_
                      refine b_ret ?_
                      refine x_ret ?_
                      obtain rfl := Option.some.inj hF4
                      obtain rfl := Option.some.inj hF3
                      obtain rfl := Option.some.inj hh2
                      obtain rfl := Option.some.inj hE4
                      obtain rfl := Option.some.inj hF2
                      obtain rfl := Option.some.inj hh1
                      obtain rfl := Option.some.inj hE2
                      obtain rfl := Option.some.inj hF1
                      refine e_1 rfl (q_tmp (v := .bool (false)) rfl) ?_
                      exact ⟨rfl, H.toExt⟩
                    · replace hF4 := cnd_f hF4 hc4
                      refine wp_skip ?_
                      refine b_norm ?_
                      refine x_norm ?_
                      replace H : HS ⟨S, [], w⟩ S w11 [.osl (v2) (([([] : List UInt8), ([37] : List UInt8), ([37, 38, 61, 43] : List UInt8)] : List (List UInt8))).length 1 cs2 [] 9, .osl (sl b1 0 (([y4, y5, y1.1] : List (List UInt8))).length c1) (([y4, y5, y1.1] : List (List UInt8))).length 1 cs1 [] 9] := H
                      obtain rfl := Option.some.inj hF4
                      exact J9 _ _ _ rfl (by (repeat (refine keep_cons rfl ?_)); refine keep_sub k28 rfl ?_; (repeat (refine keep_cons rfl ?_)); refine keep_name k22 ?_; (repeat (refine keep_cons rfl ?_)); refine keep_sub k21 rfl ?_; (repeat (refine keep_cons rfl ?_)); refine keep_name k20 ?_; (repeat (refine keep_cons rfl ?_)); refine keep_sub k19 rfl ?_; (repeat (refine keep_cons rfl ?_)); refine keep_name k18 ?_; (repeat (refine keep_cons rfl ?_)); refine keep_sub k17 rfl ?_; (repeat (refine keep_cons rfl ?_)); refine keep_name k16 ?_; (repeat (refine keep_cons rfl ?_)); refine keep_sub k15 rfl ?_; (repeat (refine keep_cons rfl ?_)); refine keep_name k14 ?_; (repeat (refine keep_cons rfl ?_)); refine keep_sub k13 rfl ?_; (repeat (refine keep_cons rfl ?_)); refine keep_name k12 ?_; (repeat (refine keep_cons rfl ?_)); refine keep_sub k11 rfl ?_; (repeat (refine keep_cons rfl ?_)); refine keep_name k10 ?_; (repeat (refine keep_cons rfl ?_)); exact fun _ _ => rfl) H
                  refine wp_seq_k ?_; intro K23 hK23
                  refine wp_region_lit ?_
                  refine p_val (r_assign (v := .int .i64 (0)) rfl) ?_
                  refine wpList_nil ?_
                  refine x_norm ?_; refine hK23 _ _ ?_; clear hK23
                  refine wp_block ?_
                  refine nameF fun m21 k23 => ?_
                  obtain ⟨out3, hL3, hE7⟩ := bnd hE6
                  replace H : HS ⟨S, [], w⟩ S w8 [.osl (v2) (([([] : List UInt8), ([37] : List UInt8), ([37, 38, 61, 43] : List UInt8)] : List (List UInt8))).length 1 cs2 [] 9, .osl (sl b1 0 (([y4, y5, y1.1] : List (List UInt8))).length c1) (([y4, y5, y1.1] : List (List UInt8))).length 1 cs1 [] 9] := H
                  refine loopI [12, 13, 90, 91, 92, 93, 94, 95, 96, 97, 98, 99, 100, 101, 102, 103, 104, 105, 106, 107, 108, 109] (fun (s3 : Bool × Int) (m22 : FM) (w9 : World) => look m22 12 = .bool (s3.1) ∧ look m22 13 = .int .i64 (s3.2) ∧ HS ⟨S, [], w⟩ S w9 [.osl (v2) (([([] : List UInt8), ([37] : List UInt8), ([37, 38, 61, 43] : List UInt8)] : List (List UInt8))).length 1 cs2 [] 9, .osl (sl b1 0 (([y4, y5, y1.1] : List (List UInt8))).length c1) (([y4, y5, y1.1] : List (List UInt8))).length 1 cs1 [] 9]) hL3 ⟨((k23 12).trans (k22 12)), (k23 13), H⟩ ?_
                  clear H; intro k25 s3 m22 w9 k24 hI3 o7 hb3 hh3; obtain ⟨q44, q45, H⟩ := hI3
                  have q46 : look m22 7 = sl b1 0 (([y4, y5, y1.1] : List (List UInt8))).length c1 := (k24 7 rfl).trans ((k23 7).trans ((k22 7).trans q39))
                  have q47 : look m22 8 = v2 := (k24 8 rfl).trans ((k23 8).trans ((k22 8).trans q40))
                  have q48 : look m22 9 = .int .i64 (s1) := (k24 9 rfl).trans ((k23 9).trans ((k22 9).trans q41))
                  have q49 : look m22 10 = .int .i64 (s2) := (k24 10 rfl).trans ((k23 10).trans ((k22 10).trans q42))
                  have q50 : look m22 11 = .int .u8 (((y8).toNat : Int)) := (k24 11 rfl).trans ((k23 11).trans ((k22 11).trans q43))
                  unfold seneschallaw01_CodecSafe_b2 at hb3
                  refine wp_seq_k ?_; intro K24 hK24
                  refine wp_seq_k ?_; intro K25 hK25
                  refine wp_region_lit ?_
                  refine p_val (r_move (v := .int .i64 (s3.2)) q45) ?_
                  refine p_val (r_move (v := v2) q47) ?_
                  refine p_val (r_move (v := .int .i64 (s1)) q48) ?_
                  obtain ⟨y9, e9, hb3⟩ := bnd hb3
                  obtain ⟨b3, c3, hv3⟩ := H.ownAt (k := 0) rfl (idx_lt e9)
                  refine p_val (r_addrV (i := (s1 : Int).toNat) u39 tsz9 rfl hv3 rfl (idx_some e9).1 (idx_lt e9)) ?_
                  subst hv3
                  have hr3 := RL.get g2 (idx_some e9).2; generalize hghr3 : piece cs2 _ _ = cs5 at hr3
                  obtain rfl := elT hr3
                  refine p_val (o_load1 (v := str (y9)) to9 H (k := 0) rfl rfl (idx_lt e9) hghr3) ?_
                  refine p_val (r_lenT (N := (y9).length) u9 rfl rfl) ?_
                  refine p_val (r_lss (t := decide (s3.2 < ((y9).length : Int))) rfl rfl rfl) ?_
                  refine wpList_nil ?_
                  refine x_norm ?_; refine hK25 _ _ ?_; clear hK25
                  refine c_split (t := decide (s3.2 < ((y9).length : Int))) rfl (fun hc3 => ?_) (fun hc3 => ?_)
                  · replace hb3 := cnd_t hb3 hc3
                    refine wp_skip ?_
                    refine x_norm ?_; refine hK24 _ _ ?_; clear hK24
                    refine wp_seq_k ?_; intro K26 hK26
                    refine wp_block ?_
                    refine wp_region_lit ?_
                    refine p_val (r_move (v := .bool (s3.1)) q44) ?_
                    refine p_val (r_move (v := .bool (s3.1)) rfl) ?_
                    refine nameL fun m23 k26 => ?_
                    refine gs_at 9 fun K27 hK27 R9 hR9 => ?_
                    obtain ⟨t5, hE8, hF5⟩ := bnd hb3
                    have J7 : ∀ (m24 : FM) (w10 : World), (∀ t, has [101, 102, 103, 104, 105, 106, 107, 108, 109] t = false → look m24 t = look m23 t) → look m24 109 = .bool (t5) → HS ⟨S, [], w⟩ S w10 [.osl (sl b3 0 (([([] : List UInt8), ([37] : List UInt8), ([37, 38, 61, 43] : List UInt8)] : List (List UInt8))).length c3) (([([] : List UInt8), ([37] : List UInt8), ([37, 38, 61, 43] : List UInt8)] : List (List UInt8))).length 1 cs2 [] 9, .osl (sl b1 0 (([y4, y5, y1.1] : List (List UInt8))).length c1) (([y4, y5, y1.1] : List (List UInt8))).length 1 cs1 [] 9] → K27 m24 w10 := by
                      clear H; intro m24 w10 k27 q51 H
                      have q52 : look m24 7 = sl b1 0 (([y4, y5, y1.1] : List (List UInt8))).length c1 := (k27 7 rfl).trans ((k26 7).trans q46)
                      have q53 : look m24 8 = sl b3 0 (([([] : List UInt8), ([37] : List UInt8), ([37, 38, 61, 43] : List UInt8)] : List (List UInt8))).length c3 := (k27 8 rfl).trans ((k26 8).trans q47)
                      have q54 : look m24 9 = .int .i64 (s1) := (k27 9 rfl).trans ((k26 9).trans q48)
                      have q55 : look m24 10 = .int .i64 (s2) := (k27 10 rfl).trans ((k26 10).trans q49)
                      have q56 : look m24 11 = .int .u8 (((y8).toNat : Int)) := (k27 11 rfl).trans ((k26 11).trans q50)
                      have q57 : look m24 13 = .int .i64 (s3.2) := (k27 13 rfl).trans ((k26 13).trans q45)
                      refine hK27 _ _ ?_
                      refine p_val (r_assign (v := .bool (t5)) q51) ?_
                      refine wpList_nil ?_
                      refine b_norm ?_
                      refine x_norm ?_; refine hK26 _ _ ?_; clear hK26
                      refine wp_region_lit ?_
                      refine p_val (r_move (v := .int .i64 (s3.2)) q57) ?_
                      refine p_val (r_add (r := w64 (s3.2 + 1)) rfl rfl rfl) ?_
                      refine p_val (r_assign (v := .int .i64 ((w64 (s3.2 + 1)))) rfl) ?_
                      refine wpList_nil ?_
                      refine x_norm ?_
                      replace H : HS ⟨S, [], w⟩ S w10 [.osl (sl b3 0 (([([] : List UInt8), ([37] : List UInt8), ([37, 38, 61, 43] : List UInt8)] : List (List UInt8))).length c3) (([([] : List UInt8), ([37] : List UInt8), ([37, 38, 61, 43] : List UInt8)] : List (List UInt8))).length 1 cs2 [] 9, .osl (sl b1 0 (([y4, y5, y1.1] : List (List UInt8))).length c1) (([y4, y5, y1.1] : List (List UInt8))).length 1 cs1 [] 9] := H
                      obtain rfl := Option.some.inj hF5
                      exact ⟨(t5, (w64 (s3.2 + 1))), _, rfl, (by (repeat (refine keep_cons rfl ?_)); refine keep_sub k27 rfl ?_; (repeat (refine keep_cons rfl ?_)); refine keep_name k26 ?_; (repeat (refine keep_cons rfl ?_)); refine keep_sub k24 rfl ?_; (repeat (refine keep_cons rfl ?_)); exact fun _ _ => rfl), ⟨rfl, rfl, H⟩, hh3⟩
                    refine p_gs (j := 1) (gvl_at rfl rfl (k26 100)) (fun hb4 => ?_) (fun hb4 => ?_)
                    · replace hE8 := cnd_t hE8 hb4
                      refine p_skip (gvl_at rfl rfl (k26 100)) hb4 ?_
                      rw [put_fr]
                      refine p_skip (gvl_at rfl rfl (k26 100)) hb4 ?_
                      rw [put_fr]
                      refine p_skip (gvl_at rfl rfl (k26 100)) hb4 ?_
                      rw [put_fr]
                      refine p_skip (gvl_at rfl rfl (k26 100)) hb4 ?_
                      rw [put_fr]
                      refine p_skip (gvl_at rfl rfl (k26 100)) hb4 ?_
                      rw [put_fr]
                      refine p_skip (gvl_at rfl rfl (k26 100)) hb4 ?_
                      rw [put_fr]
                      refine p_skip (gvl_at rfl rfl (k26 100)) hb4 ?_
                      rw [put_fr]
                      refine p_skip (gvl_at rfl rfl (k26 100)) hb4 ?_
                      rw [put_fr]
                      refine p_val (r_pickt (v := .bool (true)) (k26 100) hb4 rfl) ?_
                      refine hR9 _ _ ?_
                      replace H : HS ⟨S, [], w⟩ S w9 [.osl (sl b3 0 (([([] : List UInt8), ([37] : List UInt8), ([37, 38, 61, 43] : List UInt8)] : List (List UInt8))).length c3) (([([] : List UInt8), ([37] : List UInt8), ([37, 38, 61, 43] : List UInt8)] : List (List UInt8))).length 1 cs2 [] 9, .osl (sl b1 0 (([y4, y5, y1.1] : List (List UInt8))).length c1) (([y4, y5, y1.1] : List (List UInt8))).length 1 cs1 [] 9] := H
                      obtain rfl := Option.some.inj hE8
                      exact J7 _ _ (by (repeat (refine keep_cons rfl ?_)); exact fun _ _ => rfl) rfl H
                    · replace hE8 := cnd_f hE8 hb4
                      refine p_want (gvl_at rfl rfl (k26 100)) hb4 ?_
                      refine p_val (r_move (v := .int .u8 (((y8).toNat : Int))) ((k26 11).trans q50)) ?_
                      refine p_want (gvl_at rfl rfl (k26 100)) hb4 ?_
                      refine p_val (r_move (v := sl b3 0 (([([] : List UInt8), ([37] : List UInt8), ([37, 38, 61, 43] : List UInt8)] : List (List UInt8))).length c3) ((k26 8).trans q47)) ?_
                      refine p_want (gvl_at rfl rfl (k26 100)) hb4 ?_
                      refine p_val (r_move (v := .int .i64 (s1)) ((k26 9).trans q48)) ?_
                      refine p_want (gvl_at rfl rfl (k26 100)) hb4 ?_
                      obtain ⟨y10, e10, hE8⟩ := bnd hE8
                      refine p_val (r_addrV (i := (s1 : Int).toNat) u39 tsz9 rfl (HS.ownV H (k := 0) rfl) rfl (idx_some e10).1 (idx_lt e10)) ?_
                      refine p_want (gvl_at rfl rfl (k26 100)) hb4 ?_
                      have hr4 := RL.get g2 (idx_some e10).2; generalize hghr4 : piece cs2 _ _ = cs6 at hr4
                      obtain rfl := elT hr4
                      refine p_val (o_load1 (v := str (y10)) to9 H (k := 0) rfl rfl (idx_lt e10) hghr4) ?_
                      refine p_want (gvl_at rfl rfl (k26 100)) hb4 ?_
                      refine p_val (r_move (v := .int .i64 (s3.2)) ((k26 13).trans q45)) ?_
                      refine p_want (gvl_at rfl rfl (k26 100)) hb4 ?_
                      obtain ⟨y11, e11, hE8⟩ := bnd hE8
                      refine p_val (r_idxT (i := (s3.2 : Int).toNat) (u := y11) u9 rfl rfl (idx_some e11).1 (idx_some e11).2) ?_
                      refine p_want (gvl_at rfl rfl (k26 100)) hb4 ?_
                      refine p_val (r_eql (t := (((y8).toNat : Int) == ((y11).toNat : Int))) rfl rfl rfl) ?_
                      refine p_val (r_pickf (v := .bool ((((y8).toNat : Int) == ((y11).toNat : Int)))) (k26 100) hb4 rfl) ?_
                      refine hR9 _ _ ?_
                      replace H : HS ⟨S, [], w⟩ S w9 [.osl (sl b3 0 (([([] : List UInt8), ([37] : List UInt8), ([37, 38, 61, 43] : List UInt8)] : List (List UInt8))).length c3) (([([] : List UInt8), ([37] : List UInt8), ([37, 38, 61, 43] : List UInt8)] : List (List UInt8))).length 1 cs2 [] 9, .osl (sl b1 0 (([y4, y5, y1.1] : List (List UInt8))).length c1) (([y4, y5, y1.1] : List (List UInt8))).length 1 cs1 [] 9] := H
                      obtain rfl := Option.some.inj hE8
                      exact J7 _ _ (by (repeat (refine keep_cons rfl ?_)); exact fun _ _ => rfl) rfl H
                  · replace hb3 := cnd_f hb3 hc3
                    refine wp_exit ?_
                    refine x_exit ?_
                    refine x_exit ?_
                    refine b_hit ?_
                    refine x_norm ?_
                    replace H : HS ⟨S, [], w⟩ S w9 [.osl (sl b3 0 (([([] : List UInt8), ([37] : List UInt8), ([37, 38, 61, 43] : List UInt8)] : List (List UInt8))).length c3) (([([] : List UInt8), ([37] : List UInt8), ([37, 38, 61, 43] : List UInt8)] : List (List UInt8))).length 1 cs2 [] 9, .osl (sl b1 0 (([y4, y5, y1.1] : List (List UInt8))).length c1) (([y4, y5, y1.1] : List (List UInt8))).length 1 cs1 [] 9] := H
                    obtain rfl := Option.some.inj hb3
                    obtain rfl := Option.some.inj hh3
                    obtain rfl := Option.some.inj hE7
                    exact J8 _ _ (by (repeat (refine keep_cons rfl ?_)); refine keep_sub k24 rfl ?_; (repeat (refine keep_cons rfl ?_)); refine keep_name k23 ?_; (repeat (refine keep_cons rfl ?_)); exact fun _ _ => rfl) q44 H
                refine p_gs (j := 30) (gvl_at rfl rfl (k20 78)) (fun hb5 => ?_) (fun hb5 => ?_)
                · skip
                  refine p_skip (gvl_at rfl rfl (k20 78)) hb5 ?_
                  rw [put_fr]
                  refine p_skip (gvl_at rfl rfl (k20 78)) hb5 ?_
                  rw [put_fr]
                  refine p_skip (gvl_at rfl rfl (k20 78)) hb5 ?_
                  rw [put_fr]
                  refine p_skipU rfl ?_
                  rw [put_fr]
                  refine p_skipU rfl ?_
                  rw [put_fr]
                  refine p_skipU rfl ?_
                  rw [put_fr]
                  refine p_skipU rfl ?_
                  rw [put_fr]
                  refine p_skipU rfl ?_
                  rw [put_fr]
                  refine p_skipU rfl ?_
                  rw [put_fr]
                  refine p_skip (gvl_at rfl rfl (k20 78)) hb5 ?_
                  rw [put_fr]
                  refine p_val (r_pickt (v := .bool (true)) (k20 78) hb5 rfl) ?_
                  refine hR8 _ _ ?_
                  exact J6 _ (by (repeat (refine keep_cons rfl ?_)); exact fun _ _ => rfl) (show (.bool (true) : Value) = .bool ((bif (bif (bif (bif (bif (bif decide ((65 : Int) ≤ ((y8).toNat : Int)) then decide (((y8).toNat : Int) ≤ 90) else false) then true else (bif decide ((97 : Int) ≤ ((y8).toNat : Int)) then decide (((y8).toNat : Int) ≤ 122) else false)) then true else (bif decide ((48 : Int) ≤ ((y8).toNat : Int)) then decide (((y8).toNat : Int) ≤ 57) else false)) then true else (((y8).toNat : Int) == 45)) then true else (((y8).toNat : Int) == 95)) then true else (bif decide ((0 : Int) < s1) then (bif (((y8).toNat : Int) == 46) then true else (((y8).toNat : Int) == 126)) else false))) from congrArg Value.bool (by simp only [hb5, cond_true, cond_false]))
                · skip
                  refine p_want (gvl_at rfl rfl (k20 78)) hb5 ?_
                  refine p_val (r_move (v := .int .i64 (s1)) ((k20 9).trans q35)) ?_
                  refine p_want (gvl_at rfl rfl (k20 78)) hb5 ?_
                  refine p_val (r_gtr (t := decide ((0 : Int) < s1)) rfl rfl rfl) ?_
                  refine p_want (gvl_at rfl rfl (k20 78)) hb5 ?_
                  refine p_val (r_move (v := .bool (decide ((0 : Int) < s1))) rfl) ?_
                  refine p_gs (j := 33) rfl (fun hb6 => ?_) (fun hb6 => ?_)
                  · skip
                    refine p_want rfl hb6 ?_
                    refine p_val (r_move (v := .int .u8 (((y8).toNat : Int))) ((k20 11).trans q37)) ?_
                    refine p_want rfl hb6 ?_
                    refine p_val (r_eql (t := (((y8).toNat : Int) == 46)) rfl rfl rfl) ?_
                    refine p_want rfl hb6 ?_
                    refine p_val (r_move (v := .bool ((((y8).toNat : Int) == 46))) rfl) ?_
                    refine p_gs (j := 36) rfl (fun hb7 => ?_) (fun hb7 => ?_)
                    · skip
                      refine p_skip rfl hb7 ?_
                      rw [put_fr]
                      refine p_skip rfl hb7 ?_
                      rw [put_fr]
                      refine p_want rfl hb6 ?_
                      refine p_val (r_pickt (v := .bool (true)) rfl hb7 rfl) ?_
                      refine p_want (gvl_at rfl rfl (k20 78)) hb5 ?_
                      refine p_val (r_pickt (v := .bool (true)) rfl hb6 rfl) ?_
                      refine p_val (r_pickf (v := .bool (true)) (k20 78) hb5 rfl) ?_
                      refine hR8 _ _ ?_
                      exact J6 _ (by (repeat (refine keep_cons rfl ?_)); exact fun _ _ => rfl) (show (.bool (true) : Value) = .bool ((bif (bif (bif (bif (bif (bif decide ((65 : Int) ≤ ((y8).toNat : Int)) then decide (((y8).toNat : Int) ≤ 90) else false) then true else (bif decide ((97 : Int) ≤ ((y8).toNat : Int)) then decide (((y8).toNat : Int) ≤ 122) else false)) then true else (bif decide ((48 : Int) ≤ ((y8).toNat : Int)) then decide (((y8).toNat : Int) ≤ 57) else false)) then true else (((y8).toNat : Int) == 45)) then true else (((y8).toNat : Int) == 95)) then true else (bif decide ((0 : Int) < s1) then (bif (((y8).toNat : Int) == 46) then true else (((y8).toNat : Int) == 126)) else false))) from congrArg Value.bool (by simp only [hb5, hb6, hb7, cond_true, cond_false]))
                    · skip
                      refine p_want rfl hb7 ?_
                      refine p_val (r_move (v := .int .u8 (((y8).toNat : Int))) ((k20 11).trans q37)) ?_
                      refine p_want rfl hb7 ?_
                      refine p_val (r_eql (t := (((y8).toNat : Int) == 126)) rfl rfl rfl) ?_
                      refine p_want rfl hb6 ?_
                      refine p_val (r_pickf (v := .bool ((((y8).toNat : Int) == 126))) rfl hb7 rfl) ?_
                      refine p_want (gvl_at rfl rfl (k20 78)) hb5 ?_
                      refine p_val (r_pickt (v := .bool ((((y8).toNat : Int) == 126))) rfl hb6 rfl) ?_
                      refine p_val (r_pickf (v := .bool ((((y8).toNat : Int) == 126))) (k20 78) hb5 rfl) ?_
                      refine hR8 _ _ ?_
                      exact J6 _ (by (repeat (refine keep_cons rfl ?_)); exact fun _ _ => rfl) (show (.bool ((((y8).toNat : Int) == 126)) : Value) = .bool ((bif (bif (bif (bif (bif (bif decide ((65 : Int) ≤ ((y8).toNat : Int)) then decide (((y8).toNat : Int) ≤ 90) else false) then true else (bif decide ((97 : Int) ≤ ((y8).toNat : Int)) then decide (((y8).toNat : Int) ≤ 122) else false)) then true else (bif decide ((48 : Int) ≤ ((y8).toNat : Int)) then decide (((y8).toNat : Int) ≤ 57) else false)) then true else (((y8).toNat : Int) == 45)) then true else (((y8).toNat : Int) == 95)) then true else (bif decide ((0 : Int) < s1) then (bif (((y8).toNat : Int) == 46) then true else (((y8).toNat : Int) == 126)) else false))) from congrArg Value.bool (by simp only [hb5, hb6, hb7, cond_true, cond_false]))
                  · skip
                    refine p_skip rfl hb6 ?_
                    rw [put_fr]
                    refine p_skip rfl hb6 ?_
                    rw [put_fr]
                    refine p_skip rfl hb6 ?_
                    rw [put_fr]
                    refine p_skipU rfl ?_
                    rw [put_fr]
                    refine p_skipU rfl ?_
                    rw [put_fr]
                    refine p_skip rfl hb6 ?_
                    rw [put_fr]
                    refine p_want (gvl_at rfl rfl (k20 78)) hb5 ?_
                    refine p_val (r_pickf (v := .bool (false)) rfl hb6 rfl) ?_
                    refine p_val (r_pickf (v := .bool (false)) (k20 78) hb5 rfl) ?_
                    refine hR8 _ _ ?_
                    exact J6 _ (by (repeat (refine keep_cons rfl ?_)); exact fun _ _ => rfl) (show (.bool (false) : Value) = .bool ((bif (bif (bif (bif (bif (bif decide ((65 : Int) ≤ ((y8).toNat : Int)) then decide (((y8).toNat : Int) ≤ 90) else false) then true else (bif decide ((97 : Int) ≤ ((y8).toNat : Int)) then decide (((y8).toNat : Int) ≤ 122) else false)) then true else (bif decide ((48 : Int) ≤ ((y8).toNat : Int)) then decide (((y8).toNat : Int) ≤ 57) else false)) then true else (((y8).toNat : Int) == 45)) then true else (((y8).toNat : Int) == 95)) then true else (bif decide ((0 : Int) < s1) then (bif (((y8).toNat : Int) == 46) then true else (((y8).toNat : Int) == 126)) else false))) from congrArg Value.bool (by simp only [hb5, hb6, cond_true, cond_false]))
              refine p_gs (j := 26) (gvl_at rfl rfl (k18 74)) (fun hb8 => ?_) (fun hb8 => ?_)
              · skip
                refine p_skip (gvl_at rfl rfl (k18 74)) hb8 ?_
                rw [put_fr]
                refine p_skip (gvl_at rfl rfl (k18 74)) hb8 ?_
                rw [put_fr]
                refine p_val (r_pickt (v := .bool (true)) (k18 74) hb8 rfl) ?_
                refine hR7 _ _ ?_
                exact J5 _ (by (repeat (refine keep_cons rfl ?_)); exact fun _ _ => rfl) (show (.bool (true) : Value) = .bool ((bif (bif (bif (bif (bif decide ((65 : Int) ≤ ((y8).toNat : Int)) then decide (((y8).toNat : Int) ≤ 90) else false) then true else (bif decide ((97 : Int) ≤ ((y8).toNat : Int)) then decide (((y8).toNat : Int) ≤ 122) else false)) then true else (bif decide ((48 : Int) ≤ ((y8).toNat : Int)) then decide (((y8).toNat : Int) ≤ 57) else false)) then true else (((y8).toNat : Int) == 45)) then true else (((y8).toNat : Int) == 95))) from congrArg Value.bool (by simp only [hb8, cond_true, cond_false]))
              · skip
                refine p_want (gvl_at rfl rfl (k18 74)) hb8 ?_
                refine p_val (r_move (v := .int .u8 (((y8).toNat : Int))) ((k18 11).trans q31)) ?_
                refine p_want (gvl_at rfl rfl (k18 74)) hb8 ?_
                refine p_val (r_eql (t := (((y8).toNat : Int) == 95)) rfl rfl rfl) ?_
                refine p_val (r_pickf (v := .bool ((((y8).toNat : Int) == 95))) (k18 74) hb8 rfl) ?_
                refine hR7 _ _ ?_
                exact J5 _ (by (repeat (refine keep_cons rfl ?_)); exact fun _ _ => rfl) (show (.bool ((((y8).toNat : Int) == 95)) : Value) = .bool ((bif (bif (bif (bif (bif decide ((65 : Int) ≤ ((y8).toNat : Int)) then decide (((y8).toNat : Int) ≤ 90) else false) then true else (bif decide ((97 : Int) ≤ ((y8).toNat : Int)) then decide (((y8).toNat : Int) ≤ 122) else false)) then true else (bif decide ((48 : Int) ≤ ((y8).toNat : Int)) then decide (((y8).toNat : Int) ≤ 57) else false)) then true else (((y8).toNat : Int) == 45)) then true else (((y8).toNat : Int) == 95))) from congrArg Value.bool (by simp only [hb8, cond_true, cond_false]))
            refine p_gs (j := 22) (gvl_at rfl rfl (k16 70)) (fun hb9 => ?_) (fun hb9 => ?_)
            · skip
              refine p_skip (gvl_at rfl rfl (k16 70)) hb9 ?_
              rw [put_fr]
              refine p_skip (gvl_at rfl rfl (k16 70)) hb9 ?_
              rw [put_fr]
              refine p_val (r_pickt (v := .bool (true)) (k16 70) hb9 rfl) ?_
              refine hR6 _ _ ?_
              exact J4 _ (by (repeat (refine keep_cons rfl ?_)); exact fun _ _ => rfl) (show (.bool (true) : Value) = .bool ((bif (bif (bif (bif decide ((65 : Int) ≤ ((y8).toNat : Int)) then decide (((y8).toNat : Int) ≤ 90) else false) then true else (bif decide ((97 : Int) ≤ ((y8).toNat : Int)) then decide (((y8).toNat : Int) ≤ 122) else false)) then true else (bif decide ((48 : Int) ≤ ((y8).toNat : Int)) then decide (((y8).toNat : Int) ≤ 57) else false)) then true else (((y8).toNat : Int) == 45))) from congrArg Value.bool (by simp only [hb9, cond_true, cond_false]))
            · skip
              refine p_want (gvl_at rfl rfl (k16 70)) hb9 ?_
              refine p_val (r_move (v := .int .u8 (((y8).toNat : Int))) ((k16 11).trans q25)) ?_
              refine p_want (gvl_at rfl rfl (k16 70)) hb9 ?_
              refine p_val (r_eql (t := (((y8).toNat : Int) == 45)) rfl rfl rfl) ?_
              refine p_val (r_pickf (v := .bool ((((y8).toNat : Int) == 45))) (k16 70) hb9 rfl) ?_
              refine hR6 _ _ ?_
              exact J4 _ (by (repeat (refine keep_cons rfl ?_)); exact fun _ _ => rfl) (show (.bool ((((y8).toNat : Int) == 45)) : Value) = .bool ((bif (bif (bif (bif decide ((65 : Int) ≤ ((y8).toNat : Int)) then decide (((y8).toNat : Int) ≤ 90) else false) then true else (bif decide ((97 : Int) ≤ ((y8).toNat : Int)) then decide (((y8).toNat : Int) ≤ 122) else false)) then true else (bif decide ((48 : Int) ≤ ((y8).toNat : Int)) then decide (((y8).toNat : Int) ≤ 57) else false)) then true else (((y8).toNat : Int) == 45))) from congrArg Value.bool (by simp only [hb9, cond_true, cond_false]))
          refine p_gs (j := 14) (gvl_at rfl rfl (k14 62)) (fun hb10 => ?_) (fun hb10 => ?_)
          · skip
            refine p_skip (gvl_at rfl rfl (k14 62)) hb10 ?_
            rw [put_fr]
            refine p_skip (gvl_at rfl rfl (k14 62)) hb10 ?_
            rw [put_fr]
            refine p_skip (gvl_at rfl rfl (k14 62)) hb10 ?_
            rw [put_fr]
            refine p_skipU rfl ?_
            rw [put_fr]
            refine p_skipU rfl ?_
            rw [put_fr]
            refine p_skip (gvl_at rfl rfl (k14 62)) hb10 ?_
            rw [put_fr]
            refine p_val (r_pickt (v := .bool (true)) (k14 62) hb10 rfl) ?_
            refine hR5 _ _ ?_
            exact J3 _ (by (repeat (refine keep_cons rfl ?_)); exact fun _ _ => rfl) (show (.bool (true) : Value) = .bool ((bif (bif (bif decide ((65 : Int) ≤ ((y8).toNat : Int)) then decide (((y8).toNat : Int) ≤ 90) else false) then true else (bif decide ((97 : Int) ≤ ((y8).toNat : Int)) then decide (((y8).toNat : Int) ≤ 122) else false)) then true else (bif decide ((48 : Int) ≤ ((y8).toNat : Int)) then decide (((y8).toNat : Int) ≤ 57) else false))) from congrArg Value.bool (by simp only [hb10, cond_true, cond_false]))
          · skip
            refine p_want (gvl_at rfl rfl (k14 62)) hb10 ?_
            refine p_val (r_move (v := .int .u8 (((y8).toNat : Int))) ((k14 11).trans q19)) ?_
            refine p_want (gvl_at rfl rfl (k14 62)) hb10 ?_
            refine p_val (r_geq (t := decide ((48 : Int) ≤ ((y8).toNat : Int))) rfl rfl rfl) ?_
            refine p_want (gvl_at rfl rfl (k14 62)) hb10 ?_
            refine p_val (r_move (v := .bool (decide ((48 : Int) ≤ ((y8).toNat : Int)))) rfl) ?_
            refine p_gs (j := 17) rfl (fun hb11 => ?_) (fun hb11 => ?_)
            · skip
              refine p_want rfl hb11 ?_
              refine p_val (r_move (v := .int .u8 (((y8).toNat : Int))) ((k14 11).trans q19)) ?_
              refine p_want rfl hb11 ?_
              refine p_val (r_leq (t := decide (((y8).toNat : Int) ≤ 57)) rfl rfl rfl) ?_
              refine p_want (gvl_at rfl rfl (k14 62)) hb10 ?_
              refine p_val (r_pickt (v := .bool (decide (((y8).toNat : Int) ≤ 57))) rfl hb11 rfl) ?_
              refine p_val (r_pickf (v := .bool (decide (((y8).toNat : Int) ≤ 57))) (k14 62) hb10 rfl) ?_
              refine hR5 _ _ ?_
              exact J3 _ (by (repeat (refine keep_cons rfl ?_)); exact fun _ _ => rfl) (show (.bool (decide (((y8).toNat : Int) ≤ 57)) : Value) = .bool ((bif (bif (bif decide ((65 : Int) ≤ ((y8).toNat : Int)) then decide (((y8).toNat : Int) ≤ 90) else false) then true else (bif decide ((97 : Int) ≤ ((y8).toNat : Int)) then decide (((y8).toNat : Int) ≤ 122) else false)) then true else (bif decide ((48 : Int) ≤ ((y8).toNat : Int)) then decide (((y8).toNat : Int) ≤ 57) else false))) from congrArg Value.bool (by simp only [hb10, hb11, cond_true, cond_false]))
            · skip
              refine p_skip rfl hb11 ?_
              rw [put_fr]
              refine p_skip rfl hb11 ?_
              rw [put_fr]
              refine p_want (gvl_at rfl rfl (k14 62)) hb10 ?_
              refine p_val (r_pickf (v := .bool (false)) rfl hb11 rfl) ?_
              refine p_val (r_pickf (v := .bool (false)) (k14 62) hb10 rfl) ?_
              refine hR5 _ _ ?_
              exact J3 _ (by (repeat (refine keep_cons rfl ?_)); exact fun _ _ => rfl) (show (.bool (false) : Value) = .bool ((bif (bif (bif decide ((65 : Int) ≤ ((y8).toNat : Int)) then decide (((y8).toNat : Int) ≤ 90) else false) then true else (bif decide ((97 : Int) ≤ ((y8).toNat : Int)) then decide (((y8).toNat : Int) ≤ 122) else false)) then true else (bif decide ((48 : Int) ≤ ((y8).toNat : Int)) then decide (((y8).toNat : Int) ≤ 57) else false))) from congrArg Value.bool (by simp only [hb10, hb11, cond_true, cond_false]))
        refine p_gs (j := 6) (gvl_at rfl rfl (k12 54)) (fun hb12 => ?_) (fun hb12 => ?_)
        · skip
          refine p_skip (gvl_at rfl rfl (k12 54)) hb12 ?_
          rw [put_fr]
          refine p_skip (gvl_at rfl rfl (k12 54)) hb12 ?_
          rw [put_fr]
          refine p_skip (gvl_at rfl rfl (k12 54)) hb12 ?_
          rw [put_fr]
          refine p_skipU rfl ?_
          rw [put_fr]
          refine p_skipU rfl ?_
          rw [put_fr]
          refine p_skip (gvl_at rfl rfl (k12 54)) hb12 ?_
          rw [put_fr]
          refine p_val (r_pickt (v := .bool (true)) (k12 54) hb12 rfl) ?_
          refine hR4 _ _ ?_
          exact J2 _ (by (repeat (refine keep_cons rfl ?_)); exact fun _ _ => rfl) (show (.bool (true) : Value) = .bool ((bif (bif decide ((65 : Int) ≤ ((y8).toNat : Int)) then decide (((y8).toNat : Int) ≤ 90) else false) then true else (bif decide ((97 : Int) ≤ ((y8).toNat : Int)) then decide (((y8).toNat : Int) ≤ 122) else false))) from congrArg Value.bool (by simp only [hb12, cond_true, cond_false]))
        · skip
          refine p_want (gvl_at rfl rfl (k12 54)) hb12 ?_
          refine p_val (r_move (v := .int .u8 (((y8).toNat : Int))) ((k12 11).trans q13)) ?_
          refine p_want (gvl_at rfl rfl (k12 54)) hb12 ?_
          refine p_val (r_geq (t := decide ((97 : Int) ≤ ((y8).toNat : Int))) rfl rfl rfl) ?_
          refine p_want (gvl_at rfl rfl (k12 54)) hb12 ?_
          refine p_val (r_move (v := .bool (decide ((97 : Int) ≤ ((y8).toNat : Int)))) rfl) ?_
          refine p_gs (j := 9) rfl (fun hb13 => ?_) (fun hb13 => ?_)
          · skip
            refine p_want rfl hb13 ?_
            refine p_val (r_move (v := .int .u8 (((y8).toNat : Int))) ((k12 11).trans q13)) ?_
            refine p_want rfl hb13 ?_
            refine p_val (r_leq (t := decide (((y8).toNat : Int) ≤ 122)) rfl rfl rfl) ?_
            refine p_want (gvl_at rfl rfl (k12 54)) hb12 ?_
            refine p_val (r_pickt (v := .bool (decide (((y8).toNat : Int) ≤ 122))) rfl hb13 rfl) ?_
            refine p_val (r_pickf (v := .bool (decide (((y8).toNat : Int) ≤ 122))) (k12 54) hb12 rfl) ?_
            refine hR4 _ _ ?_
            exact J2 _ (by (repeat (refine keep_cons rfl ?_)); exact fun _ _ => rfl) (show (.bool (decide (((y8).toNat : Int) ≤ 122)) : Value) = .bool ((bif (bif decide ((65 : Int) ≤ ((y8).toNat : Int)) then decide (((y8).toNat : Int) ≤ 90) else false) then true else (bif decide ((97 : Int) ≤ ((y8).toNat : Int)) then decide (((y8).toNat : Int) ≤ 122) else false))) from congrArg Value.bool (by simp only [hb12, hb13, cond_true, cond_false]))
          · skip
            refine p_skip rfl hb13 ?_
            rw [put_fr]
            refine p_skip rfl hb13 ?_
            rw [put_fr]
            refine p_want (gvl_at rfl rfl (k12 54)) hb12 ?_
            refine p_val (r_pickf (v := .bool (false)) rfl hb13 rfl) ?_
            refine p_val (r_pickf (v := .bool (false)) (k12 54) hb12 rfl) ?_
            refine hR4 _ _ ?_
            exact J2 _ (by (repeat (refine keep_cons rfl ?_)); exact fun _ _ => rfl) (show (.bool (false) : Value) = .bool ((bif (bif decide ((65 : Int) ≤ ((y8).toNat : Int)) then decide (((y8).toNat : Int) ≤ 90) else false) then true else (bif decide ((97 : Int) ≤ ((y8).toNat : Int)) then decide (((y8).toNat : Int) ≤ 122) else false))) from congrArg Value.bool (by simp only [hb12, hb13, cond_true, cond_false]))
      refine p_gs (j := 2) (gvl_at rfl rfl (k10 50)) (fun hb14 => ?_) (fun hb14 => ?_)
      · skip
        refine p_want (gvl_at rfl rfl (k10 50)) hb14 ?_
        refine p_val (r_move (v := .int .u8 (((y8).toNat : Int))) (k10 11)) ?_
        refine p_want (gvl_at rfl rfl (k10 50)) hb14 ?_
        refine p_val (r_leq (t := decide (((y8).toNat : Int) ≤ 90)) rfl rfl rfl) ?_
        refine p_val (r_pickt (v := .bool (decide (((y8).toNat : Int) ≤ 90))) (k10 50) hb14 rfl) ?_
        refine hR3 _ _ ?_
        exact J1 _ (by (repeat (refine keep_cons rfl ?_)); exact fun _ _ => rfl) (show (.bool (decide (((y8).toNat : Int) ≤ 90)) : Value) = .bool ((bif decide ((65 : Int) ≤ ((y8).toNat : Int)) then decide (((y8).toNat : Int) ≤ 90) else false)) from congrArg Value.bool (by simp only [hb14, cond_true, cond_false]))
      · skip
        refine p_skip (gvl_at rfl rfl (k10 50)) hb14 ?_
        rw [put_fr]
        refine p_skip (gvl_at rfl rfl (k10 50)) hb14 ?_
        rw [put_fr]
        refine p_val (r_pickf (v := .bool (false)) (k10 50) hb14 rfl) ?_
        refine hR3 _ _ ?_
        exact J1 _ (by (repeat (refine keep_cons rfl ?_)); exact fun _ _ => rfl) (show (.bool (false) : Value) = .bool ((bif decide ((65 : Int) ≤ ((y8).toNat : Int)) then decide (((y8).toNat : Int) ≤ 90) else false)) from congrArg Value.bool (by simp only [hb14, cond_true, cond_false]))
    · replace hb2 := cnd_f hb2 hc2
      refine wp_exit ?_
      refine x_exit ?_
      refine x_exit ?_
      refine b_hit ?_
      refine b_norm ?_
      refine x_norm ?_
      replace H : HS ⟨S, [], w⟩ S w8 [.osl (v2) (([([] : List UInt8), ([37] : List UInt8), ([37, 38, 61, 43] : List UInt8)] : List (List UInt8))).length 1 cs2 [] 9, .osl (sl b1 0 (([y4, y5, y1.1] : List (List UInt8))).length c1) (([y4, y5, y1.1] : List (List UInt8))).length 1 cs1 [] 9] := H
      obtain rfl := Option.some.inj hb2
      obtain rfl := Option.some.inj hh2
      obtain rfl := Option.some.inj hE4
      exact J10 _ _ _ rfl (by (repeat (refine keep_cons rfl ?_)); refine keep_sub k7 rfl ?_; (repeat (refine keep_cons rfl ?_)); refine keep_name k6 ?_; (repeat (refine keep_cons rfl ?_)); exact fun _ _ => rfl) H
  · replace hb1 := cnd_f hb1 hc1
    refine wp_exit ?_
    refine x_exit ?_
    refine x_exit ?_
    refine b_hit ?_
    refine x_norm ?_
    replace H : HS ⟨S, [], w⟩ S w7 [.osl (v2) (([([] : List UInt8), ([37] : List UInt8), ([37, 38, 61, 43] : List UInt8)] : List (List UInt8))).length 1 cs2 [] 9, .osl (v1) (([y4, y5, y1.1] : List (List UInt8))).length 1 cs1 [] 9] := H
    obtain rfl := Option.some.inj hb1
    obtain rfl := Option.some.inj hh1
    obtain rfl := Option.some.inj hE2
    exact J11 _ _ _ rfl (by (repeat (refine keep_cons rfl ?_)); refine keep_sub k3 rfl ?_; (repeat (refine keep_cons rfl ?_)); refine keep_name k2 ?_; (repeat (refine keep_cons rfl ?_)); exact fun _ _ => rfl) H
end Go.Proofs.YtdomaggikbmooaaDoor
