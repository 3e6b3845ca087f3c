/- What some functions compute, and that they do. Conditions: as each theorem says. -/
import Derived.Test.YtdomaggikbmooaaDoorCdA
namespace Go.Proofs.YtdomaggikbmooaaDoor
open Go Go.RowKit
attribute [local irreducible] wpList wpT Code.wp Calls Code.rounds
theorem to3 : TOne Tryd.prog 3 := ⟨fun _ => by kernel_rfl, fun _ => by kernel_rfl⟩
theorem to9 : TOne Tryd.prog 9 := ⟨fun _ => by kernel_rfl, fun _ => by kernel_rfl⟩
theorem tz34 : TZero Tryd.prog 34 (.agg #[str [], str []]) := fun _ => by kernel_rfl
theorem u28 : Tryd.prog.underlying 28 = some (.slice 34) := by kernel_rfl
theorem u39 : Tryd.prog.underlying 39 = some (.slice 9) := by kernel_rfl
theorem u53 : Tryd.prog.underlying 53 = some (.slice 3) := by kernel_rfl
theorem is19 : IsFn Tryd.prog 19 := isFn Tryd.func19 (by kernel_rfl) (by kernel_rfl)
theorem is21 : IsFn Tryd.prog 21 := isFn Tryd.func21 (by kernel_rfl) (by kernel_rfl)
theorem is23 : IsFn Tryd.prog 23 := isFn Tryd.func23 (by kernel_rfl) (by kernel_rfl)
theorem is32 : IsFn Tryd.prog 32 := isFn Tryd.func32 (by kernel_rfl) (by kernel_rfl)
theorem is36 : IsFn Tryd.prog 36 := isFn Tryd.func36 (by kernel_rfl) (by kernel_rfl)
theorem is41 : IsFn Tryd.prog 41 := isFn Tryd.func41 (by kernel_rfl) (by kernel_rfl)
theorem is43 : IsFn Tryd.prog 43 := isFn Tryd.func43 (by kernel_rfl) (by kernel_rfl)
theorem is46 : IsFn Tryd.prog 46 := isFn Tryd.func46 (by kernel_rfl) (by kernel_rfl)
theorem tb34 : TBuild Tryd.prog 34 (.agg #[str [], str []]) [(0, 1), (1, 1)] := tbuildS (fs := fieldsOf Tryd.prog 34) (by kernel_rfl) tz34 (fun _ => by kernel_rfl)
theorem fa34_0 : TField Tryd.prog 34 0 0 := fun _ _ _ => by kernel_rfl
theorem fa34_1 : TField Tryd.prog 34 1 1 := fun _ _ _ => by kernel_rfl
theorem tn28 : TSn Tryd.prog 28 34 (.agg #[str [], str []]) [str [], str []] 32 2 := TSn.mk' (by kernel_rfl) (by kernel_rfl) rfl rfl rfl rfl
theorem tn39 : TSn Tryd.prog 39 9 (str []) [str []] 16 1 := TSn.mk' (by kernel_rfl) (by kernel_rfl) rfl rfl rfl rfl
theorem tn53 : TSn Tryd.prog 53 3 (.int .i64 0) [.int .i64 0] 8 1 := TSn.mk' (by kernel_rfl) (by kernel_rfl) rfl rfl rfl rfl
theorem tsz3 : TSz Tryd.prog 3 1 := fun _ => by kernel_rfl
theorem tsz9 : TSz Tryd.prog 9 1 := fun _ => by kernel_rfl
theorem tsz34 : TSz Tryd.prog 34 2 := fun _ => by kernel_rfl
def seneschalref01_Hex_b0 (x0 : List UInt8) (s1 : Int × (List UInt8)) : Option ((Int × (List UInt8)) ⊕ ((List UInt8))) :=
  bif decide (s1.1 < ((x0).length : Int)) then (Option.bind (idx x0 s1.1) fun y1 => Option.bind (idx ([48, 49, 50, 51, 52, 53, 54, 55, 56, 57, 97, 98, 99, 100, 101, 102] : List UInt8) (((i8 (Int.tdiv ((y1).toNat : Int) 16))).toNat : Int)) fun y2 => Option.bind (idx x0 s1.1) fun y3 => Option.bind (idx ([48, 49, 50, 51, 52, 53, 54, 55, 56, 57, 97, 98, 99, 100, 101, 102] : List UInt8) (((i8 (Int.tmod ((y3).toNat : Int) 16))).toNat : Int)) fun y4 => Option.bind (app s1.2 ([y2, y4] : List UInt8)) fun y5 => some (.inl (((w64 (s1.1 + 1)), y5)))) else (some (.inr (s1.2)))
def seneschalref01_Hex_p (x0 : List UInt8) : Option ((List UInt8)) :=
  Option.bind (Option.bind (iter (seneschalref01_Hex_b0 x0) ((0, ([] : List UInt8)))) (fun e => some (e))) (fun t1 => some (t1))
theorem seneschalref01_Hex_c {S : Mem} {w : World} (hS : Sub S w) {x0 : List UInt8} {r : (List UInt8)} (hF : seneschalref01_Hex_p x0 = some r) :
    Calls Tryd.prog 15 #[str (x0)] w fun e w' => e = .returned (str (r)) ∧ Ext w w' := by
  refine enter (n := 27) Tryd.func15 rfl rfl rfl ?_
  have H := HS.start hS
  unfold seneschalref01_Hex_p at hF
  refine wp_seq_k ?_; intro K1 hK1
  refine wp_region_lit ?_
  refine p_val (r_assign (v := str (([] : List UInt8))) rfl) ?_
  refine wpList_nil ?_
  refine x_norm ?_; refine hK1 _ _ ?_; clear hK1
  refine wp_seq_k ?_; intro K2 hK2
  refine wp_region_lit ?_
  have g1 : RL S ([] : List Value) ([] : List UInt8) := RL.nil
  refine p_of1 (a_bslice (N := 0) (vals := []) (l := ([] : List Value)) tn40 H rfl rfl rfl g1.len) ?_; clear H; intro w1 v1 H
  replace H : HS ⟨S, [], w⟩ S w1 [.osl (v1) (([] : List UInt8)).length 1 ([] : List Value) [] 5] := H
  refine p_val (r_assign (v := v1) rfl) ?_
  refine wpList_nil ?_
  refine x_norm ?_; refine hK2 _ _ ?_; clear hK2
  refine wp_seq_k ?_; intro K3 hK3
  refine nameF fun m1 k1 => ?_
  obtain ⟨t1, hE1, hF1⟩ := bnd hF
  have J1 : ∀ (v5 : Value) (cs5 rs3 : List Value) (m4 : FM) (w6 : World), (∀ t, has [3, 4, 6, 7, 8, 9, 10, 11, 12, 13, 14, 15, 16, 17, 18, 19, 20, 21, 22, 23, 24] t = false → look m4 t = look m1 t) → look m4 3 = v5 → HS ⟨S, [], w⟩ S w6 [.osl (v5) (t1).length 1 cs5 rs3 5] → RL S cs5 t1 → K3 (fr 27 m4) w6 := by
    clear H; intro v5 cs5 rs3 m4 w6 k5 q4 H g5
    refine hK3 _ _ ?_
    refine wp_seq_k ?_; intro K8 hK8
    refine wp_region_lit ?_
    refine p_val (r_move (v := v5) q4) ?_
    refine p_val (r_strO u40 u5 u9 rfl H (k := 0) rfl g5) ?_
    refine p_val (r_assign (v := str (t1)) rfl) ?_
    refine wpList_nil ?_
    refine x_norm ?_; refine hK8 _ _ ?_; clear hK8
    refine wp_ret ?_
    obtain rfl := Option.some.inj hF1
    refine e_1 rfl (q_tmp (v := str (t1)) rfl) ?_
    exact ⟨rfl, H.toExt⟩
  refine wp_seq_k ?_; intro K4 hK4
  refine wp_region_lit ?_
  refine p_val (r_assign (v := .int .i64 (0)) rfl) ?_
  refine wpList_nil ?_
  refine x_norm ?_; refine hK4 _ _ ?_; clear hK4
  refine wp_block ?_
  refine nameF fun m2 k2 => ?_
  obtain ⟨out1, hL1, hE2⟩ := bnd hE1
  replace H : HS ⟨S, [], w⟩ S w1 [.osl (v1) (([] : List UInt8)).length 1 ([] : List Value) [] 5] := H
  refine loopI [3, 4, 6, 7, 8, 9, 10, 11, 12, 13, 14, 15, 16, 17, 18, 19, 20, 21, 22, 23, 24] (fun (s1 : Int × (List UInt8)) (m3 : FM) (w2 : World) => ∃ (v2 : Value) (cs2 rs1 : List Value), look m3 3 = v2 ∧ look m3 4 = .int .i64 (s1.1) ∧ HS ⟨S, [], w⟩ S w2 [.osl (v2) (s1.2).length 1 cs2 rs1 5] ∧ RL S cs2 s1.2) hL1 ⟨_, _, _, (show _ = (v1 : Value) from ((k2 3).trans (k1 3))), (k2 4), H, g1⟩ ?_
  clear H; intro k4 s1 m3 w2 k3 hI1 o2 hb1 hh1; obtain ⟨v2, cs2, rs1, q1, q2, H, g2⟩ := hI1
  have q3 : look m3 0 = str (x0) := (k3 0 rfl).trans ((k2 0).trans (k1 0))
  unfold seneschalref01_Hex_b0 at hb1
  refine wp_seq_k ?_; intro K5 hK5
  refine wp_seq_k ?_; intro K6 hK6
  refine wp_region_lit ?_
  refine p_val (r_move (v := .int .i64 (s1.1)) q2) ?_
  refine p_val (r_move (v := str (x0)) q3) ?_
  refine p_val (r_lenT (N := (x0).length) u9 rfl rfl) ?_
  refine p_val (r_lss (t := decide (s1.1 < ((x0).length : Int))) rfl rfl rfl) ?_
  refine wpList_nil ?_
  refine x_norm ?_; refine hK6 _ _ ?_; clear hK6
  refine c_split (t := decide (s1.1 < ((x0).length : Int))) rfl (fun hc1 => ?_) (fun hc1 => ?_)
  · replace hb1 := cnd_t hb1 hc1
    refine wp_skip ?_
    refine x_norm ?_; refine hK5 _ _ ?_; clear hK5
    refine wp_seq_k ?_; intro K7 hK7
    refine wp_block ?_
    obtain ⟨y1, e1, hb1⟩ := bnd hb1
    obtain ⟨y2, e2, hb1⟩ := bnd hb1
    obtain ⟨y3, e3, hb1⟩ := bnd hb1
    obtain ⟨y4, e4, hb1⟩ := bnd hb1
    apply wp_region_ext 11 (kinds []) rfl rfl (by kernel_rfl); intro vs1
    simp only [List.take_succ_cons, List.take_zero, List.drop_succ_cons, List.drop_zero]
    replace H := H.drew
    refine t_float (fun w => r_move (v := v2) q1) rfl rfl ?_
    refine t_val (fun w hx => r_move (v := str (x0)) q3) rfl rfl ?_
    refine t_val (fun w hx => r_move (v := .int .i64 (s1.1)) q2) rfl rfl ?_
    refine t_val (fun w hx => r_idxT (i := (s1.1 : Int).toNat) (u := y1) u9 rfl rfl (idx_some e1).1 (idx_some e1).2) rfl rfl ?_
    refine t_val (fun w hx => r_quo (r := (((i8 (Int.tdiv ((y1).toNat : Int) 16))).toNat : Int)) rfl rfl (by decide) (i8_wrap _)) rfl rfl ?_
    refine t_val (fun w hx => r_idxT (i := ((((i8 (Int.tdiv ((y1).toNat : Int) 16))).toNat : Int) : Int).toNat) (u := y2) u9 rfl rfl (idx_some e2).1 (idx_some e2).2) rfl rfl ?_
    refine t_val (fun w hx => r_move (v := str (x0)) q3) rfl rfl ?_
    refine t_val (fun w hx => r_move (v := .int .i64 (s1.1)) q2) rfl rfl ?_
    refine t_val (fun w hx => r_idxT (i := (s1.1 : Int).toNat) (u := y3) u9 rfl rfl (idx_some e3).1 (idx_some e3).2) rfl rfl ?_
    refine t_val (fun w hx => r_rem (r := (((i8 (Int.tmod ((y3).toNat : Int) 16))).toNat : Int)) rfl rfl (by decide) (i8_rem _ _ (by omega))) rfl rfl ?_
    refine t_val (fun w hx => r_idxT (i := ((((i8 (Int.tmod ((y3).toNat : Int) 16))).toNat : Int) : Int).toNat) (u := y4) u9 rfl rfl (idx_some e4).1 (idx_some e4).2) rfl rfl ?_
    refine t_nil (fun w3 hx hF hA => ?_)
    replace H := H.ext hx; clear hx hF hA
    have g3 : RL S ([Value.int .u8 (((y2).toNat : Int))] ++ ([Value.int .u8 (((y4).toNat : Int))] ++ ([] : List Value))) ([y2, y4] : List UInt8) := (RL.cons rpU8 (RL.cons rpU8 RL.nil))
    refine p_of1 (a_bslice (N := 2) (vals := [(0, .int .u8 (((y2).toNat : Int))), (1, .int .u8 (((y4).toNat : Int)))]) (l := ([Value.int .u8 (((y2).toNat : Int))] ++ ([Value.int .u8 (((y4).toNat : Int))] ++ ([] : List Value)))) tn40 H rfl rfl rfl g3.len) ?_; clear H; intro w4 v3 H
    generalize ([Value.int .u8 (((y2).toNat : Int))] ++ ([Value.int .u8 (((y4).toNat : Int))] ++ ([] : List Value))) = cs3 at H g3
    replace H : HS ⟨S, [], w⟩ S w4 [.osl (v3) (([y2, y4] : List UInt8)).length 1 cs3 [] 5, .osl (v2) (s1.2).length 1 cs2 rs1 5] := H
    obtain ⟨y5, e5, hb1⟩ := bnd hb1
    refine p_of1 (a_appendX (k := 1) (v2 := v3) tn40 rfl H rfl rfl g2 rfl (H.slW (k := 0) rfl) g3 e5) ?_; clear H; rintro w5 v4 ⟨cs4, rs2, H, g4⟩
    replace H : HS ⟨S, [], w⟩ S w5 [.osl (v3) (([y2, y4] : List UInt8)).length 1 cs3 [] 5, .osl (v4) (y5).length 1 cs4 rs2 5] := H
    replace H := H.sel [1] rfl
    replace H : HS ⟨S, [], w⟩ S w5 [.osl (v4) (y5).length 1 cs4 rs2 5] := H
    refine p_val (r_assign (v := v4) rfl) ?_
    refine wpList_nil ?_; refine on_norm ?_
    refine b_norm ?_
    refine x_norm ?_; refine hK7 _ _ ?_; clear hK7
    refine wp_region_lit ?_
    refine p_val (r_move (v := .int .i64 (s1.1)) q2) ?_
    refine p_val (r_add (r := w64 (s1.1 + 1)) rfl rfl rfl) ?_
    refine p_val (r_assign (v := .int .i64 ((w64 (s1.1 + 1)))) rfl) ?_
    refine wpList_nil ?_
    refine x_norm ?_
    replace H : HS ⟨S, [], w⟩ S w5 [.osl (v4) (y5).length 1 cs4 rs2 5] := H
    obtain rfl := Option.some.inj hb1
    exact ⟨((w64 (s1.1 + 1)), y5), _, rfl, (by (repeat (refine keep_cons rfl ?_)); refine keep_sub k3 rfl ?_; (repeat (refine keep_cons rfl ?_)); exact fun _ _ => rfl), ⟨_, _, _, rfl, rfl, H, g4⟩, hh1⟩
  · replace hb1 := cnd_f hb1 hc1
    refine wp_exit ?_
    refine x_exit ?_
    refine x_exit ?_
    refine b_hit ?_
    refine x_norm ?_
    replace H : HS ⟨S, [], w⟩ S w2 [.osl (v2) (s1.2).length 1 cs2 rs1 5] := H
    obtain rfl := Option.some.inj hb1
    obtain rfl := Option.some.inj hh1
    obtain rfl := Option.some.inj hE2
    exact J1 _ _ _ _ _ (by (repeat (refine keep_cons rfl ?_)); refine keep_sub k3 rfl ?_; (repeat (refine keep_cons rfl ?_)); refine keep_name k2 ?_; (repeat (refine keep_cons rfl ?_)); exact fun _ _ => rfl) (show _ = (v2 : Value) from q1) H g2
def seneschalref01_FromHex_b0 (x0 : List UInt8) (s1 : Int × (List UInt8)) : Option ((Int × (List UInt8)) ⊕ (((List UInt8) × Int) ⊕ ((List UInt8)))) :=
  bif decide (s1.1 < ((x0).length : Int)) then (Option.bind (idx x0 s1.1) fun y1 => Option.bind (seneschalref01_digit_p y1 false) fun y2 => Option.bind (idx x0 (w64 (s1.1 + 1))) fun y3 => Option.bind (seneschalref01_digit_p y3 false) fun y4 => bif (bif decide (y2 < 0) then true else decide (y4 < 0)) then (some (.inr (.inl ((([] : List UInt8), 10))))) else (Option.bind (app s1.2 ([(i8 (w64 ((w64 ((16 : Int) * y2)) + y4)))] : List UInt8)) fun y5 => some (.inl (((w64 (s1.1 + 2)), y5))))) else (some (.inr (.inr (s1.2))))
def seneschalref01_FromHex_p (x0 : List UInt8) : Option ((List UInt8) × Int) :=
  bif ((Int.tmod ((x0).length : Int) 2) == 1) then (some ((([] : List UInt8), 10))) else (jn (Option.bind (iter (seneschalref01_FromHex_b0 x0) ((0, ([] : List UInt8)))) (fun e => jnO e (fun e1 => some (.inr (e1))) (fun e2 => some (.inl (e2))))) (fun t1 => some ((t1, 0))) (fun e => some (e)))
theorem seneschalref01_FromHex_c {S : Mem} {w : World} (hS : Sub S w) {x0 : List UInt8} {r : (List UInt8) × Int} (hF : seneschalref01_FromHex_p x0 = some r) :
    Calls Tryd.prog 12 #[str (x0)] w fun e w' => e = .returned (.tuple #[str (r.1), .int .i64 (r.2)]) ∧ Ext w w' := by
  refine enter (n := 44) Tryd.func12 rfl rfl rfl ?_
  have H := HS.start hS
  unfold seneschalref01_FromHex_p at hF
  refine wp_seq_k ?_; intro K1 hK1
  refine wp_region_lit ?_
  refine p_val (r_assign (v := str (([] : List UInt8))) rfl) ?_
  refine p_val (r_assign (v := .int .i64 (0)) rfl) ?_
  refine wpList_nil ?_
  refine x_norm ?_; refine hK1 _ _ ?_; clear hK1
  refine wp_seq_k ?_; intro K2 hK2
  refine wp_region_lit ?_
  have g1 : RL S ([] : List Value) ([] : List UInt8) := RL.nil
  refine p_of1 (a_bslice (N := 0) (vals := []) (l := ([] : List Value)) tn40 H rfl rfl rfl g1.len) ?_; clear H; intro w1 v1 H
  replace H : HS ⟨S, [], w⟩ S w1 [.osl (v1) (([] : List UInt8)).length 1 ([] : List Value) [] 5] := H
  refine p_val (r_assign (v := v1) rfl) ?_
  refine wpList_nil ?_
  refine x_norm ?_; refine hK2 _ _ ?_; clear hK2
  refine wp_seq_k ?_; intro K3 hK3
  refine wp_seq_k ?_; intro K4 hK4
  refine wp_region_lit ?_
  refine p_val (r_move (v := str (x0)) rfl) ?_
  refine p_val (r_lenT (N := (x0).length) u9 rfl rfl) ?_
  refine p_val (r_rem (r := Int.tmod ((x0).length : Int) 2) rfl rfl (by decide) rfl) ?_
  refine p_val (r_eql (t := ((Int.tmod ((x0).length : Int) 2) == 1)) rfl rfl rfl) ?_
  refine wpList_nil ?_
  refine x_norm ?_; refine hK4 _ _ ?_; clear hK4
  refine c_split (t := ((Int.tmod ((x0).length : Int) 2) == 1)) rfl (fun hc1 => ?_) (fun hc1 => ?_)
  · replace hF := cnd_t hF hc1
    refine wp_seq_k ?_; intro K5 hK5
    refine wp_region_lit ?_
    refine p_val (r_assign (v := str (([] : List UInt8))) rfl) ?_
    refine p_val (r_assign (v := .int .i64 (10)) rfl) ?_
    refine wpList_nil ?_
    refine x_norm ?_; refine hK5 _ _ ?_; clear hK5
    refine wp_ret ?_
    refine x_ret ?_
    obtain rfl := Option.some.inj hF
    refine e_2 rfl (q_tmp (v := str (([] : List UInt8))) rfl) (q_tmp (v := .int .i64 (10)) rfl) ?_
    exact ⟨rfl, H.toExt⟩
  · replace hF := cnd_f hF hc1
    refine wp_skip ?_
    refine x_norm ?_; refine hK3 _ _ ?_; clear hK3
    refine wp_seq_k ?_; intro K6 hK6
    refine nameF fun m1 k1 => ?_
    obtain ⟨o1, hE1, hF1⟩ := jn_some hF
    have J2 : ∀ (t1 : (List UInt8)) (v5 : Value) (cs5 rs3 : List Value) (m6 : FM) (w6 : World), o1 = .inl t1 → (∀ t, has [2, 3, 4, 5, 6, 7, 13, 14, 15, 16, 17, 18, 19, 20, 21, 22, 23, 24, 25, 26, 27, 28, 29, 30, 31, 32, 33, 34, 35, 36, 37, 38, 39, 40, 41] t = false → look m6 t = look m1 t) → look m6 4 = v5 → HS ⟨S, [], w⟩ S w6 [.osl (v5) (t1).length 1 cs5 rs3 5] → RL S cs5 t1 → K6 (fr 44 m6) w6 := by
      clear H; intro t1 v5 cs5 rs3 m6 w6 ho k7 q10 H g5
      replace hF1 := jnO_l hF1 ho
      refine hK6 _ _ ?_
      refine wp_seq_k ?_; intro K16 hK16
      refine wp_region_lit ?_
      refine p_val (r_move (v := v5) q10) ?_
      refine p_val (r_strO u40 u5 u9 rfl H (k := 0) rfl g5) ?_
      refine p_val (r_assign (v := str (t1)) rfl) ?_
      refine p_val (r_assign (v := .int .i64 (0)) rfl) ?_
      refine wpList_nil ?_
      refine x_norm ?_; refine hK16 _ _ ?_; clear hK16
      refine wp_ret ?_
      obtain rfl := Option.some.inj hF1
      refine e_2 rfl (q_tmp (v := str (t1)) rfl) (q_tmp (v := .int .i64 (0)) rfl) ?_
      exact ⟨rfl, H.toExt⟩
    refine wp_seq_k ?_; intro K7 hK7
    refine wp_region_lit ?_
    refine p_val (r_assign (v := .int .i64 (0)) rfl) ?_
    refine wpList_nil ?_
    refine x_norm ?_; refine hK7 _ _ ?_; clear hK7
    refine wp_block ?_
    refine nameF fun m2 k2 => ?_
    obtain ⟨out1, hL1, hE2⟩ := bnd hE1
    replace H : HS ⟨S, [], w⟩ S w1 [.osl (v1) (([] : List UInt8)).length 1 ([] : List Value) [] 5] := H
    refine loopI [2, 3, 4, 5, 6, 7, 13, 14, 15, 16, 17, 18, 19, 20, 21, 22, 23, 24, 25, 26, 27, 28, 29, 30, 31, 32, 33, 34, 35, 36, 37, 38, 39, 40, 41] (fun (s1 : Int × (List UInt8)) (m3 : FM) (w2 : World) => ∃ (v2 : Value) (cs2 rs1 : List Value), look m3 4 = v2 ∧ look m3 5 = .int .i64 (s1.1) ∧ HS ⟨S, [], w⟩ S w2 [.osl (v2) (s1.2).length 1 cs2 rs1 5] ∧ RL S cs2 s1.2) hL1 ⟨_, _, _, (show _ = (v1 : Value) from ((k2 4).trans (k1 4))), (k2 5), H, g1⟩ ?_
    clear H; intro k4 s1 m3 w2 k3 hI1 o2 hb1 hh1; obtain ⟨v2, cs2, rs1, q1, q2, H, g2⟩ := hI1
    have q3 : look m3 0 = str (x0) := (k3 0 rfl).trans ((k2 0).trans (k1 0))
    unfold seneschalref01_FromHex_b0 at hb1
    refine wp_seq_k ?_; intro K8 hK8
    refine wp_seq_k ?_; intro K9 hK9
    refine wp_region_lit ?_
    refine p_val (r_move (v := .int .i64 (s1.1)) q2) ?_
    refine p_val (r_move (v := str (x0)) q3) ?_
    refine p_val (r_lenT (N := (x0).length) u9 rfl rfl) ?_
    refine p_val (r_lss (t := decide (s1.1 < ((x0).length : Int))) rfl rfl rfl) ?_
    refine wpList_nil ?_
    refine x_norm ?_; refine hK9 _ _ ?_; clear hK9
    refine c_split (t := decide (s1.1 < ((x0).length : Int))) rfl (fun hc2 => ?_) (fun hc2 => ?_)
    · replace hb1 := cnd_t hb1 hc2
      refine wp_skip ?_
      refine x_norm ?_; refine hK8 _ _ ?_; clear hK8
      refine wp_seq_k ?_; intro K10 hK10
      refine wp_block ?_
      refine wp_seq_k ?_; intro K11 hK11
      obtain ⟨y1, e1, hb1⟩ := bnd hb1
      obtain ⟨y2, e2, hb1⟩ := bnd hb1
      obtain ⟨y3, e3, hb1⟩ := bnd hb1
      obtain ⟨y4, e4, hb1⟩ := bnd hb1
      apply wp_region_ext 9 (kinds [(3, .inl (.int .i64 (y2))), (8, .inl (.int .i64 (y4)))]) rfl rfl (by kernel_rfl); intro vs1
      simp only [List.take_succ_cons, List.take_zero, List.drop_succ_cons, List.drop_zero]
      replace H := H.drew
      refine t_val (fun w hx => r_move (v := str (x0)) q3) rfl rfl ?_
      refine t_val (fun w hx => r_move (v := .int .i64 (s1.1)) q2) rfl rfl ?_
      refine t_val (fun w hx => r_idxT (i := (s1.1 : Int).toNat) (u := y1) u9 rfl rfl (idx_some e1).1 (idx_some e1).2) rfl rfl ?_
      refine t_call (l := [.int .u8 (((y1).toNat : Int)), .bool (false)]) rfl rfl is32 rfl (fun w hx hF => (seneschalref01_digit_c (H.ext hx).sub e2).mono (fun _ _ ⟨he, hx⟩ => ⟨he, hx⟩)) ?_
      refine t_val (fun w hx => r_move (v := str (x0)) q3) rfl rfl ?_
      refine t_val (fun w hx => r_move (v := .int .i64 (s1.1)) q2) rfl rfl ?_
      refine t_val (fun w hx => r_add (r := w64 (s1.1 + 1)) rfl rfl rfl) rfl rfl ?_
      refine t_val (fun w hx => r_idxT (i := ((w64 (s1.1 + 1)) : Int).toNat) (u := y3) u9 rfl rfl (idx_some e3).1 (idx_some e3).2) rfl rfl ?_
      refine t_call (l := [.int .u8 (((y3).toNat : Int)), .bool (false)]) rfl rfl is32 rfl (fun w hx hF => (seneschalref01_digit_c (H.ext hx).sub e4).mono (fun _ _ ⟨he, hx⟩ => ⟨he, hx⟩)) ?_
      refine t_nil (fun w3 hx hF hA => ?_)
      replace H := H.ext hx; clear hx hF hA
      refine p_val (r_assign (v := .int .i64 (y2)) rfl) ?_
      refine p_val (r_assign (v := .int .i64 (y4)) rfl) ?_
      refine wpList_nil ?_; refine on_norm ?_
      refine x_norm ?_; refine hK11 _ _ ?_; clear hK11
      refine wp_seq_k ?_; intro K12 hK12
      refine wp_seq_k ?_; intro K13 hK13
      refine wp_region_lit ?_
      refine p_val (r_move (v := .int .i64 (y2)) rfl) ?_
      refine p_val (r_lss (t := decide (y2 < 0)) rfl rfl rfl) ?_
      refine p_val (r_move (v := .bool (decide (y2 < 0))) rfl) ?_
      refine nameL fun m4 k5 => ?_
      refine gs_at 3 fun K14 hK14 R2 hR2 => ?_
      have J1 : ∀ (m5 : FM), (∀ t, has [31, 32, 33] t = false → look m5 t = look m4 t) → look m5 33 = .bool ((bif decide (y2 < 0) then true else decide (y4 < 0))) → K14 m5 w3 := by
        intro m5 k6 q4
        have q5 : look m5 0 = str (x0) := (k6 0 rfl).trans ((k5 0).trans q3)
        have q6 : look m5 4 = v2 := (k6 4 rfl).trans ((k5 4).trans q1)
        have q7 : look m5 5 = .int .i64 (s1.1) := (k6 5 rfl).trans ((k5 5).trans q2)
        have q8 : look m5 6 = .int .i64 (y2) := (k6 6 rfl).trans (k5 6)
        have q9 : look m5 7 = .int .i64 (y4) := (k6 7 rfl).trans (k5 7)
        refine hK14 _ _ ?_; clear hK14 hR2
        refine wpList_nil ?_
        refine x_norm ?_; refine hK13 _ _ ?_; clear hK13
        refine c_split (t := (bif decide (y2 < 0) then true else decide (y4 < 0))) q4 (fun hc3 => ?_) (fun hc3 => ?_)
        · replace hb1 := cnd_t hb1 hc3
          refine wp_seq_k ?_; intro K15 hK15
          refine wp_region_lit ?_
          refine p_val (r_assign (v := str (([] : List UInt8))) rfl) ?_
          refine p_val (r_assign (v := .int .i64 (10)) rfl) ?_
          refine wpList_nil ?_
          refine x_norm ?_; refine hK15 _ _ ?_; clear hK15
          refine wp_ret ?_
          refine x_ret ?_
          refine b_ret ?_
          refine x_ret ?_
          refine x_ret ?_
          refine b_ret ?_
          refine x_ret ?_
          obtain rfl := Option.some.inj hb1
          obtain rfl := Option.some.inj hh1
          obtain rfl := Option.some.inj hE2
          obtain rfl := Option.some.inj hF1
          refine e_2 rfl (q_tmp (v := str (([] : List UInt8))) rfl) (q_tmp (v := .int .i64 (10)) rfl) ?_
          exact ⟨rfl, H.toExt⟩
        · replace hb1 := cnd_f hb1 hc3
          refine wp_skip ?_
          refine x_norm ?_; refine hK12 _ _ ?_; clear hK12
          refine wp_region_lit ?_
          refine p_val (r_move (v := v2) q6) ?_
          refine p_val (r_move (v := .int .i64 (y2)) q8) ?_
          refine p_val (r_mul (r := w64 ((16 : Int) * y2)) rfl rfl rfl) ?_
          refine p_val (r_move (v := .int .i64 (y4)) q9) ?_
          refine p_val (r_add (r := w64 ((w64 ((16 : Int) * y2)) + y4)) rfl rfl rfl) ?_
          refine p_val (r_conv (r := (((i8 (w64 ((w64 ((16 : Int) * y2)) + y4)))).toNat : Int)) u3 u5 rfl (i8_wrap _)) ?_
          have g3 : RL S ([Value.int .u8 ((((i8 (w64 ((w64 ((16 : Int) * y2)) + y4)))).toNat : Int))] ++ ([] : List Value)) ([(i8 (w64 ((w64 ((16 : Int) * y2)) + y4)))] : List UInt8) := (RL.cons rpU8 RL.nil)
          refine p_of1 (a_bslice (N := 1) (vals := [(0, .int .u8 ((((i8 (w64 ((w64 ((16 : Int) * y2)) + y4)))).toNat : Int)))]) (l := ([Value.int .u8 ((((i8 (w64 ((w64 ((16 : Int) * y2)) + y4)))).toNat : Int))] ++ ([] : List Value))) tn40 H rfl rfl rfl g3.len) ?_; clear H; intro w4 v3 H
          generalize ([Value.int .u8 ((((i8 (w64 ((w64 ((16 : Int) * y2)) + y4)))).toNat : Int))] ++ ([] : List Value)) = cs3 at H g3
          replace H : HS ⟨S, [], w⟩ S w4 [.osl (v3) (([(i8 (w64 ((w64 ((16 : Int) * y2)) + y4)))] : List UInt8)).length 1 cs3 [] 5, .osl (v2) (s1.2).length 1 cs2 rs1 5] := H
          obtain ⟨y5, e5, hb1⟩ := bnd hb1
          refine p_of1 (a_appendX (k := 1) (v2 := v3) tn40 rfl H rfl rfl g2 rfl (H.slW (k := 0) rfl) g3 e5) ?_; clear H; rintro w5 v4 ⟨cs4, rs2, H, g4⟩
          replace H : HS ⟨S, [], w⟩ S w5 [.osl (v3) (([(i8 (w64 ((w64 ((16 : Int) * y2)) + y4)))] : List UInt8)).length 1 cs3 [] 5, .osl (v4) (y5).length 1 cs4 rs2 5] := H
          replace H := H.sel [1] rfl
          replace H : HS ⟨S, [], w⟩ S w5 [.osl (v4) (y5).length 1 cs4 rs2 5] := H
          refine p_val (r_assign (v := v4) rfl) ?_
          refine wpList_nil ?_
          refine b_norm ?_
          refine x_norm ?_; refine hK10 _ _ ?_; clear hK10
          refine wp_region_lit ?_
          refine p_val (r_move (v := .int .i64 (s1.1)) q7) ?_
          refine p_val (r_add (r := w64 (s1.1 + 2)) rfl rfl rfl) ?_
          refine p_val (r_assign (v := .int .i64 ((w64 (s1.1 + 2)))) rfl) ?_
          refine wpList_nil ?_
          refine x_norm ?_
          replace H : HS ⟨S, [], w⟩ S w5 [.osl (v4) (y5).length 1 cs4 rs2 5] := H
          obtain rfl := Option.some.inj hb1
          exact ⟨((w64 (s1.1 + 2)), y5), _, rfl, (by (repeat (refine keep_cons rfl ?_)); refine keep_sub k6 rfl ?_; (repeat (refine keep_cons rfl ?_)); refine keep_name k5 ?_; (repeat (refine keep_cons rfl ?_)); refine keep_sub k3 rfl ?_; (repeat (refine keep_cons rfl ?_)); exact fun _ _ => rfl), ⟨_, _, _, rfl, rfl, H, g4⟩, hh1⟩
      refine p_gs (j := 2) (gvl_at rfl rfl (k5 30)) (fun hb2 => ?_) (fun hb2 => ?_)
      · skip
        refine p_skip (gvl_at rfl rfl (k5 30)) hb2 ?_
        rw [put_fr]
        refine p_skip (gvl_at rfl rfl (k5 30)) hb2 ?_
        rw [put_fr]
        refine p_val (r_pickt (v := .bool (true)) (k5 30) hb2 rfl) ?_
        refine hR2 _ _ ?_
        exact J1 _ (by (repeat (refine keep_cons rfl ?_)); exact fun _ _ => rfl) (show (.bool (true) : Value) = .bool ((bif decide (y2 < 0) then true else decide (y4 < 0))) from congrArg Value.bool (by simp only [hb2, cond_true, cond_false]))
      · skip
        refine p_want (gvl_at rfl rfl (k5 30)) hb2 ?_
        refine p_val (r_move (v := .int .i64 (y4)) (k5 7)) ?_
        refine p_want (gvl_at rfl rfl (k5 30)) hb2 ?_
        refine p_val (r_lss (t := decide (y4 < 0)) rfl rfl rfl) ?_
        refine p_val (r_pickf (v := .bool (decide (y4 < 0))) (k5 30) hb2 rfl) ?_
        refine hR2 _ _ ?_
        exact J1 _ (by (repeat (refine keep_cons rfl ?_)); exact fun _ _ => rfl) (show (.bool (decide (y4 < 0)) : Value) = .bool ((bif decide (y2 < 0) then true else decide (y4 < 0))) from congrArg Value.bool (by simp only [hb2, cond_true, cond_false]))
    · replace hb1 := cnd_f hb1 hc2
      refine wp_exit ?_
      refine x_exit ?_
      refine x_exit ?_
      refine b_hit ?_
      refine x_norm ?_
      replace H : HS ⟨S, [], w⟩ S w2 [.osl (v2) (s1.2).length 1 cs2 rs1 5] := H
      obtain rfl := Option.some.inj hb1
      obtain rfl := Option.some.inj hh1
      obtain rfl := Option.some.inj hE2
      exact J2 _ _ _ _ _ _ rfl (by (repeat (refine keep_cons rfl ?_)); refine keep_sub k3 rfl ?_; (repeat (refine keep_cons rfl ?_)); refine keep_name k2 ?_; (repeat (refine keep_cons rfl ?_)); exact fun _ _ => rfl) (show _ = (v2 : Value) from q1) H g2
def seneschalref01_Base64_b1 (x0 : List UInt8) (s1 : Int × (List UInt8)) (s2 : Int × Int) : Option ((Int × Int) ⊕ (Int)) :=
  bif decide (s2.2 < 6) then (Option.bind (seneschalref01_bit_p x0 (w64 (s1.1 + s2.2))) fun y1 => some (.inl (((w64 ((w64 ((2 : Int) * s2.1)) + y1)), (w64 (s2.2 + 1)))))) else (some (.inr (s2.1)))
def seneschalref01_Base64_b0 (x0 : List UInt8) (s1 : Int × (List UInt8)) : Option ((Int × (List UInt8)) ⊕ ((List UInt8))) :=
  bif decide (s1.1 < (w64 ((8 : Int) * ((x0).length : Int)))) then (Option.bind (Option.bind (Option.bind (iter (seneschalref01_Base64_b1 x0 s1) ((0, 0))) (fun e => some (e))) (fun t3 => Option.bind (idx ([65, 66, 67, 68, 69, 70, 71, 72, 73, 74, 75, 76, 77, 78, 79, 80, 81, 82, 83, 84, 85, 86, 87, 88, 89, 90, 97, 98, 99, 100, 101, 102, 103, 104, 105, 106, 107, 108, 109, 110, 111, 112, 113, 114, 115, 116, 117, 118, 119, 120, 121, 122, 48, 49, 50, 51, 52, 53, 54, 55, 56, 57, 45, 95] : List UInt8) t3) fun y2 => Option.bind (app s1.2 ([y2] : List UInt8)) fun y3 => some (y3))) (fun t2 => some (.inl (((w64 (s1.1 + 6)), t2))))) else (some (.inr (s1.2)))
def seneschalref01_Base64_p (x0 : List UInt8) : Option ((List UInt8)) :=
  Option.bind (Option.bind (iter (seneschalref01_Base64_b0 x0) ((0, ([] : List UInt8)))) (fun e => some (e))) (fun t1 => some (t1))
theorem seneschalref01_Base64_c {S : Mem} {w : World} (hS : Sub S w) {x0 : List UInt8} {r : (List UInt8)} (hF : seneschalref01_Base64_p x0 = some r) :
    Calls Tryd.prog 19 #[str (x0)] w fun e w' => e = .returned (str (r)) ∧ Ext w w' := by
  refine enter (n := 34) Tryd.func19 rfl rfl rfl ?_
  have H := HS.start hS
  unfold seneschalref01_Base64_p at hF
  refine wp_seq_k ?_; intro K1 hK1
  refine wp_region_lit ?_
  refine p_val (r_assign (v := str (([] : List UInt8))) rfl) ?_
  refine wpList_nil ?_
  refine x_norm ?_; refine hK1 _ _ ?_; clear hK1
  refine wp_seq_k ?_; intro K2 hK2
  refine wp_region_lit ?_
  have g1 : RL S ([] : List Value) ([] : List UInt8) := RL.nil
  refine p_of1 (a_bslice (N := 0) (vals := []) (l := ([] : List Value)) tn40 H rfl rfl rfl g1.len) ?_; clear H; intro w1 v1 H
  replace H : HS ⟨S, [], w⟩ S w1 [.osl (v1) (([] : List UInt8)).length 1 ([] : List Value) [] 5] := H
  refine p_val (r_assign (v := v1) rfl) ?_
  refine wpList_nil ?_
  refine x_norm ?_; refine hK2 _ _ ?_; clear hK2
  refine wp_seq_k ?_; intro K3 hK3
  refine nameF fun m1 k1 => ?_
  obtain ⟨t1, hE1, hF1⟩ := bnd hF
  have J3 : ∀ (v6 : Value) (cs6 rs4 : List Value) (m10 : FM) (w9 : World), (∀ t, has [3, 4, 5, 6, 8, 9, 10, 11, 12, 13, 14, 15, 16, 17, 18, 19, 20, 21, 22, 23, 24, 25, 26, 27, 28, 29, 30, 31] t = false → look m10 t = look m1 t) → look m10 3 = v6 → HS ⟨S, [], w⟩ S w9 [.osl (v6) (t1).length 1 cs6 rs4 5] → RL S cs6 t1 → K3 (fr 34 m10) w9 := by
    clear H; intro v6 cs6 rs4 m10 w9 k12 q16 H g6
    refine hK3 _ _ ?_
    refine wp_seq_k ?_; intro K14 hK14
    refine wp_region_lit ?_
    refine p_val (r_move (v := v6) q16) ?_
    refine p_val (r_strO u40 u5 u9 rfl H (k := 0) rfl g6) ?_
    refine p_val (r_assign (v := str (t1)) rfl) ?_
    refine wpList_nil ?_
    refine x_norm ?_; refine hK14 _ _ ?_; clear hK14
    refine wp_ret ?_
    obtain rfl := Option.some.inj hF1
    refine e_1 rfl (q_tmp (v := str (t1)) rfl) ?_
    exact ⟨rfl, H.toExt⟩
  refine wp_seq_k ?_; intro K4 hK4
  refine wp_region_lit ?_
  refine p_val (r_assign (v := .int .i64 (0)) rfl) ?_
  refine wpList_nil ?_
  refine x_norm ?_; refine hK4 _ _ ?_; clear hK4
  refine wp_block ?_
  refine nameF fun m2 k2 => ?_
  obtain ⟨out1, hL1, hE2⟩ := bnd hE1
  replace H : HS ⟨S, [], w⟩ S w1 [.osl (v1) (([] : List UInt8)).length 1 ([] : List Value) [] 5] := H
  refine loopI [3, 4, 5, 6, 8, 9, 10, 11, 12, 13, 14, 15, 16, 17, 18, 19, 20, 21, 22, 23, 24, 25, 26, 27, 28, 29, 30, 31] (fun (s1 : Int × (List UInt8)) (m3 : FM) (w2 : World) => ∃ (v2 : Value) (cs2 rs1 : List Value), look m3 3 = v2 ∧ look m3 4 = .int .i64 (s1.1) ∧ HS ⟨S, [], w⟩ S w2 [.osl (v2) (s1.2).length 1 cs2 rs1 5] ∧ RL S cs2 s1.2) hL1 ⟨_, _, _, (show _ = (v1 : Value) from ((k2 3).trans (k1 3))), (k2 4), H, g1⟩ ?_
  clear H; intro k4 s1 m3 w2 k3 hI1 o2 hb1 hh1; obtain ⟨v2, cs2, rs1, q1, q2, H, g2⟩ := hI1
  have q3 : look m3 0 = str (x0) := (k3 0 rfl).trans ((k2 0).trans (k1 0))
  unfold seneschalref01_Base64_b0 at hb1
  refine wp_seq_k ?_; intro K5 hK5
  refine wp_seq_k ?_; intro K6 hK6
  refine wp_region_lit ?_
  refine p_val (r_move (v := .int .i64 (s1.1)) q2) ?_
  refine p_val (r_move (v := str (x0)) q3) ?_
  refine p_val (r_lenT (N := (x0).length) u9 rfl rfl) ?_
  refine p_val (r_mul (r := w64 ((8 : Int) * ((x0).length : Int))) rfl rfl rfl) ?_
  refine p_val (r_lss (t := decide (s1.1 < (w64 ((8 : Int) * ((x0).length : Int))))) rfl rfl rfl) ?_
  refine wpList_nil ?_
  refine x_norm ?_; refine hK6 _ _ ?_; clear hK6
  refine c_split (t := decide (s1.1 < (w64 ((8 : Int) * ((x0).length : Int))))) rfl (fun hc1 => ?_) (fun hc1 => ?_)
  · replace hb1 := cnd_t hb1 hc1
    refine wp_skip ?_
    refine x_norm ?_; refine hK5 _ _ ?_; clear hK5
    refine wp_seq_k ?_; intro K7 hK7
    refine nameF fun m4 k5 => ?_
    obtain ⟨t2, hE3, hF2⟩ := bnd hb1
    have J2 : ∀ (v5 : Value) (cs5 rs3 : List Value) (m9 : FM) (w8 : World), (∀ t, has [3, 5, 6, 15, 16, 17, 18, 19, 20, 21, 22, 23, 24, 25, 26, 27, 28, 29, 30, 31] t = false → look m9 t = look m4 t) → look m9 3 = v5 → HS ⟨S, [], w⟩ S w8 [.osl (v5) (t2).length 1 cs5 rs3 5] → RL S cs5 t2 → K7 (fr 34 m9) w8 := by
      clear H; intro v5 cs5 rs3 m9 w8 k11 q13 H g5
      have q14 : look m9 0 = str (x0) := (k11 0 rfl).trans ((k5 0).trans q3)
      have q15 : look m9 4 = .int .i64 (s1.1) := (k11 4 rfl).trans ((k5 4).trans q2)
      refine hK7 _ _ ?_
      refine wp_region_lit ?_
      refine p_val (r_move (v := .int .i64 (s1.1)) q15) ?_
      refine p_val (r_add (r := w64 (s1.1 + 6)) rfl rfl rfl) ?_
      refine p_val (r_assign (v := .int .i64 ((w64 (s1.1 + 6)))) rfl) ?_
      refine wpList_nil ?_
      refine x_norm ?_
      replace H : HS ⟨S, [], w⟩ S w8 [.osl (v5) (t2).length 1 cs5 rs3 5] := H
      obtain rfl := Option.some.inj hF2
      exact ⟨((w64 (s1.1 + 6)), t2), _, rfl, (by (repeat (refine keep_cons rfl ?_)); refine keep_sub k11 rfl ?_; (repeat (refine keep_cons rfl ?_)); refine keep_name k5 ?_; (repeat (refine keep_cons rfl ?_)); refine keep_sub k3 rfl ?_; (repeat (refine keep_cons rfl ?_)); exact fun _ _ => rfl), ⟨_, _, _, (show _ = (v5 : Value) from q13), rfl, H, g5⟩, hh1⟩
    refine wp_block ?_
    refine wp_seq_k ?_; intro K8 hK8
    refine wp_region_lit ?_
    refine p_val (r_assign (v := .int .i64 (0)) rfl) ?_
    refine wpList_nil ?_
    refine x_norm ?_; refine hK8 _ _ ?_; clear hK8
    refine wp_seq_k ?_; intro K9 hK9
    refine nameF fun m5 k6 => ?_
    obtain ⟨t3, hE4, hF3⟩ := bnd hE3
    have J1 : ∀ (m8 : FM) (w5 : World), (∀ t, has [5, 6, 15, 16, 17, 18, 19, 20, 21, 22, 23, 24, 25, 26] t = false → look m8 t = look m5 t) → look m8 5 = .int .i64 (t3) → HS ⟨S, [], w⟩ S w5 [.osl (v2) (s1.2).length 1 cs2 rs1 5] → K9 (fr 34 m8) w5 := by
      clear H; intro m8 w5 k10 q9 H
      have q10 : look m8 0 = str (x0) := (k10 0 rfl).trans ((k6 0).trans ((k5 0).trans q3))
      have q11 : look m8 3 = v2 := (k10 3 rfl).trans ((k6 3).trans ((k5 3).trans q1))
      have q12 : look m8 4 = .int .i64 (s1.1) := (k10 4 rfl).trans ((k6 4).trans ((k5 4).trans q2))
      refine hK9 _ _ ?_
      refine wp_region_lit ?_
      refine p_val (r_move (v := v2) q11) ?_
      refine p_val (r_move (v := .int .i64 (t3)) q9) ?_
      obtain ⟨y2, e2, hF3⟩ := bnd hF3
      refine p_val (r_idxT (i := (t3 : Int).toNat) (u := y2) u9 rfl rfl (idx_some e2).1 (idx_some e2).2) ?_
      have g3 : RL S ([Value.int .u8 (((y2).toNat : Int))] ++ ([] : List Value)) ([y2] : List UInt8) := (RL.cons rpU8 RL.nil)
      refine p_of1 (a_bslice (N := 1) (vals := [(0, .int .u8 (((y2).toNat : Int)))]) (l := ([Value.int .u8 (((y2).toNat : Int))] ++ ([] : List Value))) tn40 H rfl rfl rfl g3.len) ?_; clear H; intro w6 v3 H
      generalize ([Value.int .u8 (((y2).toNat : Int))] ++ ([] : List Value)) = cs3 at H g3
      replace H : HS ⟨S, [], w⟩ S w6 [.osl (v3) (([y2] : List UInt8)).length 1 cs3 [] 5, .osl (v2) (s1.2).length 1 cs2 rs1 5] := H
      obtain ⟨y3, e3, hF3⟩ := bnd hF3
      refine p_of1 (a_appendX (k := 1) (v2 := v3) tn40 rfl H rfl rfl g2 rfl (H.slW (k := 0) rfl) g3 e3) ?_; clear H; rintro w7 v4 ⟨cs4, rs2, H, g4⟩
      replace H : HS ⟨S, [], w⟩ S w7 [.osl (v3) (([y2] : List UInt8)).length 1 cs3 [] 5, .osl (v4) (y3).length 1 cs4 rs2 5] := H
      replace H := H.sel [1] rfl
      replace H : HS ⟨S, [], w⟩ S w7 [.osl (v4) (y3).length 1 cs4 rs2 5] := H
      refine p_val (r_assign (v := v4) rfl) ?_
      refine wpList_nil ?_
      refine b_norm ?_
      refine x_norm ?_
      replace H : HS ⟨S, [], w⟩ S w7 [.osl (v4) (y3).length 1 cs4 rs2 5] := H
      obtain rfl := Option.some.inj hF3
      exact J2 _ _ _ _ _ (by (repeat (refine keep_cons rfl ?_)); refine keep_sub k10 rfl ?_; (repeat (refine keep_cons rfl ?_)); refine keep_name k6 ?_; (repeat (refine keep_cons rfl ?_)); exact fun _ _ => rfl) rfl H g4
    refine wp_seq_k ?_; intro K10 hK10
    refine wp_region_lit ?_
    refine p_val (r_assign (v := .int .i64 (0)) rfl) ?_
    refine wpList_nil ?_
    refine x_norm ?_; refine hK10 _ _ ?_; clear hK10
    refine wp_block ?_
    refine nameF fun m6 k7 => ?_
    obtain ⟨out2, hL2, hE5⟩ := bnd hE4
    replace H : HS ⟨S, [], w⟩ S w2 [.osl (v2) (s1.2).length 1 cs2 rs1 5] := H
    refine loopI [5, 6, 15, 16, 17, 18, 19, 20, 21, 22, 23, 24, 25, 26] (fun (s2 : Int × Int) (m7 : FM) (w3 : World) => look m7 5 = .int .i64 (s2.1) ∧ look m7 6 = .int .i64 (s2.2) ∧ HS ⟨S, [], w⟩ S w3 [.osl (v2) (s1.2).length 1 cs2 rs1 5]) hL2 ⟨((k7 5).trans (k6 5)), (k7 6), H⟩ ?_
    clear H; intro k9 s2 m7 w3 k8 hI2 o5 hb2 hh2; obtain ⟨q4, q5, H⟩ := hI2
    have q6 : look m7 0 = str (x0) := (k8 0 rfl).trans ((k7 0).trans ((k6 0).trans ((k5 0).trans q3)))
    have q7 : look m7 3 = v2 := (k8 3 rfl).trans ((k7 3).trans ((k6 3).trans ((k5 3).trans q1)))
    have q8 : look m7 4 = .int .i64 (s1.1) := (k8 4 rfl).trans ((k7 4).trans ((k6 4).trans ((k5 4).trans q2)))
    unfold seneschalref01_Base64_b1 at hb2
    refine wp_seq_k ?_; intro K11 hK11
    refine wp_seq_k ?_; intro K12 hK12
    refine wp_region_lit ?_
    refine p_val (r_move (v := .int .i64 (s2.2)) q5) ?_
    refine p_val (r_lss (t := decide (s2.2 < 6)) rfl rfl rfl) ?_
    refine wpList_nil ?_
    refine x_norm ?_; refine hK12 _ _ ?_; clear hK12
    refine c_split (t := decide (s2.2 < 6)) rfl (fun hc2 => ?_) (fun hc2 => ?_)
    · replace hb2 := cnd_t hb2 hc2
      refine wp_skip ?_
      refine x_norm ?_; refine hK11 _ _ ?_; clear hK11
      refine wp_seq_k ?_; intro K13 hK13
      refine wp_block ?_
      refine wp_region_lit ?_
      refine p_val (r_move (v := .int .i64 (s2.1)) q4) ?_
      refine p_val (r_mul (r := w64 ((2 : Int) * s2.1)) rfl rfl rfl) ?_
      refine p_val (r_move (v := str (x0)) q6) ?_
      refine p_val (r_move (v := .int .i64 (s1.1)) q8) ?_
      refine p_val (r_move (v := .int .i64 (s2.2)) q5) ?_
      refine p_val (r_add (r := w64 (s1.1 + s2.2)) rfl rfl rfl) ?_
      obtain ⟨y1, e1, hb2⟩ := bnd hb2
      refine p_call (l := [str (x0), .int .i64 ((w64 (s1.1 + s2.2)))]) is36 rfl ?_
      refine (seneschalref01_bit_c H.sub e1).mono ?_; rintro _ w4 ⟨rfl, hx⟩; replace H := H.ext hx; clear hx
      refine p_val (r_add (r := w64 ((w64 ((2 : Int) * s2.1)) + y1)) rfl rfl rfl) ?_
      refine p_val (r_assign (v := .int .i64 ((w64 ((w64 ((2 : Int) * s2.1)) + y1)))) rfl) ?_
      refine wpList_nil ?_
      refine b_norm ?_
      refine x_norm ?_; refine hK13 _ _ ?_; clear hK13
      refine wp_region_lit ?_
      refine p_val (r_move (v := .int .i64 (s2.2)) q5) ?_
      refine p_val (r_add (r := w64 (s2.2 + 1)) rfl rfl rfl) ?_
      refine p_val (r_assign (v := .int .i64 ((w64 (s2.2 + 1)))) rfl) ?_
      refine wpList_nil ?_
      refine x_norm ?_
      replace H : HS ⟨S, [], w⟩ S w4 [.osl (v2) (s1.2).length 1 cs2 rs1 5] := H
      obtain rfl := Option.some.inj hb2
      exact ⟨((w64 ((w64 ((2 : Int) * s2.1)) + y1)), (w64 (s2.2 + 1))), _, rfl, (by (repeat (refine keep_cons rfl ?_)); refine keep_sub k8 rfl ?_; (repeat (refine keep_cons rfl ?_)); exact fun _ _ => rfl), ⟨rfl, rfl, H⟩, hh2⟩
    · replace hb2 := cnd_f hb2 hc2
      refine wp_exit ?_
      refine x_exit ?_
      refine x_exit ?_
      refine b_hit ?_
      refine x_norm ?_
      replace H : HS ⟨S, [], w⟩ S w3 [.osl (v2) (s1.2).length 1 cs2 rs1 5] := H
      obtain rfl := Option.some.inj hb2
      obtain rfl := Option.some.inj hh2
      obtain rfl := Option.some.inj hE5
      exact J1 _ _ (by (repeat (refine keep_cons rfl ?_)); refine keep_sub k8 rfl ?_; (repeat (refine keep_cons rfl ?_)); refine keep_name k7 ?_; (repeat (refine keep_cons rfl ?_)); exact fun _ _ => rfl) q4 H
  · replace hb1 := cnd_f hb1 hc1
    refine wp_exit ?_
    refine x_exit ?_
    refine x_exit ?_
    refine b_hit ?_
    refine x_norm ?_
    replace H : HS ⟨S, [], w⟩ S w2 [.osl (v2) (s1.2).length 1 cs2 rs1 5] := H
    obtain rfl := Option.some.inj hb1
    obtain rfl := Option.some.inj hh1
    obtain rfl := Option.some.inj hE2
    exact J3 _ _ _ _ _ (by (repeat (refine keep_cons rfl ?_)); refine keep_sub k3 rfl ?_; (repeat (refine keep_cons rfl ?_)); refine keep_name k2 ?_; (repeat (refine keep_cons rfl ?_)); exact fun _ _ => rfl) (show _ = (v2 : Value) from q1) H g2
def seneschalref01_FromBase64_b1 (x0 : List UInt8) (s1 : Int × (List Int)) (s2 : Int × Int) : Option ((Int × Int) ⊕ (Int)) :=
  bif decide (s2.2 < 64) then (Option.bind (Option.bind (idx ([65, 66, 67, 68, 69, 70, 71, 72, 73, 74, 75, 76, 77, 78, 79, 80, 81, 82, 83, 84, 85, 86, 87, 88, 89, 90, 97, 98, 99, 100, 101, 102, 103, 104, 105, 106, 107, 108, 109, 110, 111, 112, 113, 114, 115, 116, 117, 118, 119, 120, 121, 122, 48, 49, 50, 51, 52, 53, 54, 55, 56, 57, 45, 95] : List UInt8) s2.2) fun y1 => Option.bind (idx x0 s1.1) fun y2 => bif (((y1).toNat : Int) == ((y2).toNat : Int)) then (some (s2.2)) else (some (s2.1))) (fun t4 => some (.inl ((t4, (w64 (s2.2 + 1))))))) else (some (.inr (s2.1)))
def seneschalref01_FromBase64_b2 (t3 : Int) (s3 : Int × (List Int)) : Option ((Int × (List Int)) ⊕ ((List Int))) :=
  bif decide ((0 : Int) ≤ s3.1) then (Option.bind (chk (decide (0 ≤ s3.1))) fun y3 => Option.bind (app s3.2 ([(bits .and .i64 (shrI .i64 t3 s3.1) 1)] : List Int)) fun y4 => some (.inl (((w64 (s3.1 - 1)), y4)))) else (some (.inr (s3.2)))
def seneschalref01_FromBase64_b0 (x0 : List UInt8) (s1 : Int × (List Int)) : Option ((Int × (List Int)) ⊕ (((List UInt8) × Int) ⊕ ((List Int)))) :=
  bif decide (s1.1 < ((x0).length : Int)) then (jn (Option.bind (Option.bind (iter (seneschalref01_FromBase64_b1 x0 s1) (((-1), 0))) (fun e => some (e))) (fun t3 => bif decide (t3 < 0) then (some (.inr ((([] : List UInt8), 11)))) else (Option.bind (iter (seneschalref01_FromBase64_b2 t3) ((5, s1.2))) (fun e => some (.inl (e)))))) (fun t2 => some (.inl (((w64 (s1.1 + 1)), t2)))) (fun e => some (.inr (.inl (e))))) else (some (.inr (.inr (s1.2))))
def seneschalref01_FromBase64_b4 (t1 : (List Int)) (s4 : Int × (List UInt8)) (s5 : Int × Int) : Option ((Int × Int) ⊕ (Int)) :=
  bif decide (s5.2 < 8) then (Option.bind (idx t1 (w64 (s4.1 + s5.2))) fun y5 => some (.inl (((w64 ((w64 ((2 : Int) * s5.1)) + y5)), (w64 (s5.2 + 1)))))) else (some (.inr (s5.1)))
def seneschalref01_FromBase64_b3 (t1 : (List Int)) (s4 : Int × (List UInt8)) : Option ((Int × (List UInt8)) ⊕ ((List UInt8))) :=
  bif decide ((w64 (s4.1 + 8)) ≤ ((t1).length : Int)) then (Option.bind (Option.bind (Option.bind (iter (seneschalref01_FromBase64_b4 t1 s4) ((0, 0))) (fun e => some (e))) (fun t7 => Option.bind (app s4.2 ([(i8 t7)] : List UInt8)) fun y6 => some (y6))) (fun t6 => some (.inl (((w64 (s4.1 + 8)), t6))))) else (some (.inr (s4.2)))
def seneschalref01_FromBase64_p (x0 : List UInt8) : Option ((List UInt8) × Int) :=
  jn (Option.bind (iter (seneschalref01_FromBase64_b0 x0) ((0, ([] : List Int)))) (fun e => jnO e (fun e1 => some (.inr (e1))) (fun e2 => some (.inl (e2))))) (fun t1 => Option.bind (Option.bind (iter (seneschalref01_FromBase64_b3 t1) ((0, ([] : List UInt8)))) (fun e => some (e))) (fun t5 => Option.bind (seneschalref01_Base64_p t5) fun y7 => bif (y7 != x0) then (some ((([] : List UInt8), 11))) else (some ((t5, 0))))) (fun e => some (e))
theorem seneschalref01_FromBase64_c {S : Mem} {w : World} (hS : Sub S w) {x0 : List UInt8} {r : (List UInt8) × Int} (hF : seneschalref01_FromBase64_p x0 = some r) :
    Calls Tryd.prog 17 #[str (x0)] w fun e w' => e = .returned (.tuple #[str (r.1), .int .i64 (r.2)]) ∧ Ext w w' := by
  refine enter (n := 77) Tryd.func17 rfl rfl rfl ?_
  have H := HS.start hS
  unfold seneschalref01_FromBase64_p at hF
  refine wp_seq_k ?_; intro K1 hK1
  refine wp_region_lit ?_
  refine p_val (r_assign (v := str (([] : List UInt8))) rfl) ?_
  refine p_val (r_assign (v := .int .i64 (0)) rfl) ?_
  refine wpList_nil ?_
  refine x_norm ?_; refine hK1 _ _ ?_; clear hK1
  refine wp_seq_k ?_; intro K2 hK2
  refine wp_region_lit ?_
  have g1 : RL S ([] : List Value) ([] : List Int) := RL.nil
  refine p_of1 (a_bslice (N := 0) (vals := []) (l := ([] : List Value)) tn53 H rfl rfl rfl g1.len) ?_; clear H; intro w1 v1 H
  replace H : HS ⟨S, [], w⟩ S w1 [.osl (v1) (([] : List Int)).length 1 ([] : List Value) [] 3] := H
  refine p_val (r_assign (v := v1) rfl) ?_
  refine wpList_nil ?_
  refine x_norm ?_; refine hK2 _ _ ?_; clear hK2
  refine wp_seq_k ?_; intro K3 hK3
  refine nameF fun m1 k1 => ?_
  obtain ⟨o1, hE1, hF1⟩ := jn_some hF
  have J7 : ∀ (t1 : (List Int)) (v7 : Value) (cs7 rs5 : List Value) (m14 : FM) (w11 : World), o1 = .inl t1 → (∀ t, has [2, 3, 4, 5, 6, 7, 8, 14, 15, 16, 17, 18, 19, 20, 21, 22, 23, 24, 25, 26, 27, 28, 29, 30, 31, 32, 33, 34, 35, 36, 37, 38, 39, 40, 41, 42, 43] t = false → look m14 t = look m1 t) → look m14 4 = v7 → HS ⟨S, [], w⟩ S w11 [.osl (v7) (t1).length 1 cs7 rs5 3] → RL S cs7 t1 → K3 (fr 77 m14) w11 := by
    clear H; intro t1 v7 cs7 rs5 m14 w11 ho k17 q26 H g7
    replace hF1 := jnO_l hF1 ho
    have q27 : look m14 0 = str (x0) := (k17 0 rfl).trans (k1 0)
    refine hK3 _ _ ?_
    refine wp_seq_k ?_; intro K22 hK22
    refine wp_region_lit ?_
    have g8 : RL S ([] : List Value) ([] : List UInt8) := RL.nil
    refine p_of1 (a_bslice (N := 0) (vals := []) (l := ([] : List Value)) tn40 H rfl rfl rfl g8.len) ?_; clear H; intro w12 v8 H
    replace H : HS ⟨S, [], w⟩ S w12 [.osl (v8) (([] : List UInt8)).length 1 ([] : List Value) [] 5, .osl (v7) (t1).length 1 cs7 rs5 3] := H
    refine p_val (r_assign (v := v8) rfl) ?_
    refine wpList_nil ?_
    refine x_norm ?_; refine hK22 _ _ ?_; clear hK22
    refine wp_seq_k ?_; intro K23 hK23
    refine nameF fun m15 k18 => ?_
    obtain ⟨t5, hE8, hF5⟩ := bnd hF1
    have J6 : ∀ (v13 : Value) (cs14 rs9 : List Value) (m24 : FM) (w19 : World), (∀ t, has [9, 10, 11, 12, 45, 46, 47, 48, 49, 50, 51, 52, 53, 54, 55, 56, 57, 58, 59, 60, 61, 62, 63, 64, 65, 66, 67, 68, 69] t = false → look m24 t = look m15 t) → look m24 9 = v13 → HS ⟨S, [], w⟩ S w19 [.osl (v13) (t5).length 1 cs14 rs9 5, .osl (v7) (t1).length 1 cs7 rs5 3] → RL S cs14 t5 → K23 (fr 77 m24) w19 := by
      clear H; intro v13 cs14 rs9 m24 w19 k29 q47 H g13
      have q48 : look m24 0 = str (x0) := (k29 0 rfl).trans ((k18 0).trans q27)
      refine hK23 _ _ ?_
      refine wp_seq_k ?_; intro K34 hK34
      refine wp_seq_k ?_; intro K35 hK35
      refine wp_region_lit ?_
      refine p_val (r_move (v := v13) q47) ?_
      refine p_val (r_strO u40 u5 u9 rfl H (k := 0) rfl g13) ?_
      obtain ⟨y7, e7, hF5⟩ := bnd hF5
      refine p_call (l := [str (t5)]) is19 rfl ?_
      refine (seneschalref01_Base64_c H.sub e7).mono ?_; rintro _ w20 ⟨rfl, hx⟩; replace H := H.ext hx; clear hx
      refine p_val (r_move (v := str (x0)) q48) ?_
      refine p_val (r_neT (t := (y7 != x0)) rfl rfl rfl) ?_
      refine wpList_nil ?_
      refine x_norm ?_; refine hK35 _ _ ?_; clear hK35
      refine c_split (t := (y7 != x0)) rfl (fun hc8 => ?_) (fun hc8 => ?_)
      · replace hF5 := cnd_t hF5 hc8
        refine wp_seq_k ?_; intro K36 hK36
        refine wp_region_lit ?_
        refine p_val (r_assign (v := str (([] : List UInt8))) rfl) ?_
        refine p_val (r_assign (v := .int .i64 (11)) rfl) ?_
        refine wpList_nil ?_
        refine x_norm ?_; refine hK36 _ _ ?_; clear hK36
        refine wp_ret ?_
        refine x_ret ?_
        obtain rfl := Option.some.inj hF5
        refine e_2 rfl (q_tmp (v := str (([] : List UInt8))) rfl) (q_tmp (v := .int .i64 (11)) rfl) ?_
        exact ⟨rfl, H.toExt⟩
      · replace hF5 := cnd_f hF5 hc8
        refine wp_skip ?_
        refine x_norm ?_; refine hK34 _ _ ?_; clear hK34
        refine wp_seq_k ?_; intro K37 hK37
        refine wp_region_lit ?_
        refine p_val (r_move (v := v13) q47) ?_
        refine p_val (r_strO u40 u5 u9 rfl H (k := 0) rfl g13) ?_
        refine p_val (r_assign (v := str (t5)) rfl) ?_
        refine p_val (r_assign (v := .int .i64 (0)) rfl) ?_
        refine wpList_nil ?_
        refine x_norm ?_; refine hK37 _ _ ?_; clear hK37
        refine wp_ret ?_
        obtain rfl := Option.some.inj hF5
        refine e_2 rfl (q_tmp (v := str (t5)) rfl) (q_tmp (v := .int .i64 (0)) rfl) ?_
        exact ⟨rfl, H.toExt⟩
    refine wp_seq_k ?_; intro K24 hK24
    refine wp_region_lit ?_
    refine p_val (r_assign (v := .int .i64 (0)) rfl) ?_
    refine wpList_nil ?_
    refine x_norm ?_; refine hK24 _ _ ?_; clear hK24
    refine wp_block ?_
    refine nameF fun m16 k19 => ?_
    obtain ⟨out4, hL4, hE9⟩ := bnd hE8
    replace H : HS ⟨S, [], w⟩ S w12 [.osl (v8) (([] : List UInt8)).length 1 ([] : List Value) [] 5, .osl (v7) (t1).length 1 cs7 rs5 3] := H
    refine loopI [9, 10, 11, 12, 45, 46, 47, 48, 49, 50, 51, 52, 53, 54, 55, 56, 57, 58, 59, 60, 61, 62, 63, 64, 65, 66, 67, 68, 69] (fun (s4 : Int × (List UInt8)) (m17 : FM) (w13 : World) => ∃ (v9 : Value) (cs9 rs6 : List Value), look m17 9 = v9 ∧ look m17 10 = .int .i64 (s4.1) ∧ HS ⟨S, [], w⟩ S w13 [.osl (v9) (s4.2).length 1 cs9 rs6 5, .osl (v7) (t1).length 1 cs7 rs5 3] ∧ RL S cs9 s4.2) hL4 ⟨_, _, _, (show _ = (v8 : Value) from ((k19 9).trans (k18 9))), (k19 10), H, g8⟩ ?_
    clear H; intro k21 s4 m17 w13 k20 hI4 o9 hb4 hh4; obtain ⟨v9, cs9, rs6, q28, q29, H, g9⟩ := hI4
    have q30 : look m17 0 = str (x0) := (k20 0 rfl).trans ((k19 0).trans ((k18 0).trans q27))
    have q31 : look m17 4 = v7 := (k20 4 rfl).trans ((k19 4).trans ((k18 4).trans q26))
    unfold seneschalref01_FromBase64_b3 at hb4
    refine wp_seq_k ?_; intro K25 hK25
    refine wp_seq_k ?_; intro K26 hK26
    refine wp_region_lit ?_
    refine p_val (r_move (v := .int .i64 (s4.1)) q29) ?_
    refine p_val (r_add (r := w64 (s4.1 + 8)) rfl rfl rfl) ?_
    refine p_val (r_move (v := v7) q31) ?_
    refine p_val (r_lenO u53 rfl H (k := 1) rfl rfl) ?_
    refine p_val (r_leq (t := decide ((w64 (s4.1 + 8)) ≤ ((t1).length : Int))) rfl rfl rfl) ?_
    refine wpList_nil ?_
    refine x_norm ?_; refine hK26 _ _ ?_; clear hK26
    refine c_split (t := decide ((w64 (s4.1 + 8)) ≤ ((t1).length : Int))) rfl (fun hc6 => ?_) (fun hc6 => ?_)
    · replace hb4 := cnd_t hb4 hc6
      refine wp_skip ?_
      refine x_norm ?_; refine hK25 _ _ ?_; clear hK25
      refine wp_seq_k ?_; intro K27 hK27
      refine nameF fun m18 k22 => ?_
      obtain ⟨t6, hE10, hF6⟩ := bnd hb4
      have J5 : ∀ (v12 : Value) (cs13 rs8 : List Value) (m23 : FM) (w18 : World), (∀ t, has [9, 11, 12, 52, 53, 54, 55, 56, 57, 58, 59, 60, 61, 62, 63, 64, 65, 66, 67, 68, 69] t = false → look m23 t = look m18 t) → look m23 9 = v12 → HS ⟨S, [], w⟩ S w18 [.osl (v12) (t6).length 1 cs13 rs8 5, .osl (v7) (t1).length 1 cs7 rs5 3] → RL S cs13 t6 → K27 (fr 77 m23) w18 := by
        clear H; intro v12 cs13 rs8 m23 w18 k28 q43 H g12
        have q44 : look m23 0 = str (x0) := (k28 0 rfl).trans ((k22 0).trans q30)
        have q45 : look m23 4 = v7 := (k28 4 rfl).trans ((k22 4).trans q31)
        have q46 : look m23 10 = .int .i64 (s4.1) := (k28 10 rfl).trans ((k22 10).trans q29)
        refine hK27 _ _ ?_
        refine wp_region_lit ?_
        refine p_val (r_move (v := .int .i64 (s4.1)) q46) ?_
        refine p_val (r_add (r := w64 (s4.1 + 8)) rfl rfl rfl) ?_
        refine p_val (r_assign (v := .int .i64 ((w64 (s4.1 + 8)))) rfl) ?_
        refine wpList_nil ?_
        refine x_norm ?_
        replace H : HS ⟨S, [], w⟩ S w18 [.osl (v12) (t6).length 1 cs13 rs8 5, .osl (v7) (t1).length 1 cs7 rs5 3] := H
        obtain rfl := Option.some.inj hF6
        exact ⟨((w64 (s4.1 + 8)), t6), _, rfl, (by (repeat (refine keep_cons rfl ?_)); refine keep_sub k28 rfl ?_; (repeat (refine keep_cons rfl ?_)); refine keep_name k22 ?_; (repeat (refine keep_cons rfl ?_)); refine keep_sub k20 rfl ?_; (repeat (refine keep_cons rfl ?_)); exact fun _ _ => rfl), ⟨_, _, _, (show _ = (v12 : Value) from q43), rfl, H, g12⟩, hh4⟩
      refine wp_block ?_
      refine wp_seq_k ?_; intro K28 hK28
      refine wp_region_lit ?_
      refine p_val (r_assign (v := .int .i64 (0)) rfl) ?_
      refine wpList_nil ?_
      refine x_norm ?_; refine hK28 _ _ ?_; clear hK28
      refine wp_seq_k ?_; intro K29 hK29
      refine nameF fun m19 k23 => ?_
      obtain ⟨t7, hE11, hF7⟩ := bnd hE10
      have J4 : ∀ (m22 : FM) (w15 : World), (∀ t, has [11, 12, 52, 53, 54, 55, 56, 57, 58, 59, 60, 61, 62, 63, 64] t = false → look m22 t = look m19 t) → look m22 11 = .int .i64 (t7) → HS ⟨S, [], w⟩ S w15 [.osl (v9) (s4.2).length 1 cs9 rs6 5, .osl (v7) (t1).length 1 cs7 rs5 3] → K29 (fr 77 m22) w15 := by
        clear H; intro m22 w15 k27 q38 H
        have q39 : look m22 0 = str (x0) := (k27 0 rfl).trans ((k23 0).trans ((k22 0).trans q30))
        have q40 : look m22 4 = v7 := (k27 4 rfl).trans ((k23 4).trans ((k22 4).trans q31))
        have q41 : look m22 9 = v9 := (k27 9 rfl).trans ((k23 9).trans ((k22 9).trans q28))
        have q42 : look m22 10 = .int .i64 (s4.1) := (k27 10 rfl).trans ((k23 10).trans ((k22 10).trans q29))
        refine hK29 _ _ ?_
        refine wp_region_lit ?_
        refine p_val (r_move (v := v9) q41) ?_
        refine p_val (r_move (v := .int .i64 (t7)) q38) ?_
        refine p_val (r_conv (r := (((i8 t7)).toNat : Int)) u3 u5 rfl (i8_wrap _)) ?_
        have g10 : RL S ([Value.int .u8 ((((i8 t7)).toNat : Int))] ++ ([] : List Value)) ([(i8 t7)] : List UInt8) := (RL.cons rpU8 RL.nil)
        refine p_of1 (a_bslice (N := 1) (vals := [(0, .int .u8 ((((i8 t7)).toNat : Int)))]) (l := ([Value.int .u8 ((((i8 t7)).toNat : Int))] ++ ([] : List Value))) tn40 H rfl rfl rfl g10.len) ?_; clear H; intro w16 v10 H
        generalize ([Value.int .u8 ((((i8 t7)).toNat : Int))] ++ ([] : List Value)) = cs11 at H g10
        replace H : HS ⟨S, [], w⟩ S w16 [.osl (v10) (([(i8 t7)] : List UInt8)).length 1 cs11 [] 5, .osl (v9) (s4.2).length 1 cs9 rs6 5, .osl (v7) (t1).length 1 cs7 rs5 3] := H
        obtain ⟨y6, e6, hF7⟩ := bnd hF7
        refine p_of1 (a_appendX (k := 1) (v2 := v10) tn40 rfl H rfl rfl g9 rfl (H.slW (k := 0) rfl) g10 e6) ?_; clear H; rintro w17 v11 ⟨cs12, rs7, H, g11⟩
        replace H : HS ⟨S, [], w⟩ S w17 [.osl (v10) (([(i8 t7)] : List UInt8)).length 1 cs11 [] 5, .osl (v11) (y6).length 1 cs12 rs7 5, .osl (v7) (t1).length 1 cs7 rs5 3] := H
        replace H := H.sel [1, 2] rfl
        replace H : HS ⟨S, [], w⟩ S w17 [.osl (v11) (y6).length 1 cs12 rs7 5, .osl (v7) (t1).length 1 cs7 rs5 3] := H
        refine p_val (r_assign (v := v11) rfl) ?_
        refine wpList_nil ?_
        refine b_norm ?_
        refine x_norm ?_
        replace H : HS ⟨S, [], w⟩ S w17 [.osl (v11) (y6).length 1 cs12 rs7 5, .osl (v7) (t1).length 1 cs7 rs5 3] := H
        obtain rfl := Option.some.inj hF7
        exact J5 _ _ _ _ _ (by (repeat (refine keep_cons rfl ?_)); refine keep_sub k27 rfl ?_; (repeat (refine keep_cons rfl ?_)); refine keep_name k23 ?_; (repeat (refine keep_cons rfl ?_)); exact fun _ _ => rfl) rfl H g11
      refine wp_seq_k ?_; intro K30 hK30
      refine wp_region_lit ?_
      refine p_val (r_assign (v := .int .i64 (0)) rfl) ?_
      refine wpList_nil ?_
      refine x_norm ?_; refine hK30 _ _ ?_; clear hK30
      refine wp_block ?_
      refine nameF fun m20 k24 => ?_
      obtain ⟨out5, hL5, hE12⟩ := bnd hE11
      replace H : HS ⟨S, [], w⟩ S w13 [.osl (v9) (s4.2).length 1 cs9 rs6 5, .osl (v7) (t1).length 1 cs7 rs5 3] := H
      refine loopI [11, 12, 52, 53, 54, 55, 56, 57, 58, 59, 60, 61, 62, 63, 64] (fun (s5 : Int × Int) (m21 : FM) (w14 : World) => look m21 11 = .int .i64 (s5.1) ∧ look m21 12 = .int .i64 (s5.2) ∧ HS ⟨S, [], w⟩ S w14 [.osl (v9) (s4.2).length 1 cs9 rs6 5, .osl (v7) (t1).length 1 cs7 rs5 3]) hL5 ⟨((k24 11).trans (k23 11)), (k24 12), H⟩ ?_
      clear H; intro k26 s5 m21 w14 k25 hI5 o12 hb5 hh5; obtain ⟨q32, q33, H⟩ := hI5
      have q34 : look m21 0 = str (x0) := (k25 0 rfl).trans ((k24 0).trans ((k23 0).trans ((k22 0).trans q30)))
      have q35 : look m21 4 = v7 := (k25 4 rfl).trans ((k24 4).trans ((k23 4).trans ((k22 4).trans q31)))
      have q36 : look m21 9 = v9 := (k25 9 rfl).trans ((k24 9).trans ((k23 9).trans ((k22 9).trans q28)))
      have q37 : look m21 10 = .int .i64 (s4.1) := (k25 10 rfl).trans ((k24 10).trans ((k23 10).trans ((k22 10).trans q29)))
      unfold seneschalref01_FromBase64_b4 at hb5
      refine wp_seq_k ?_; intro K31 hK31
      refine wp_seq_k ?_; intro K32 hK32
      refine wp_region_lit ?_
      refine p_val (r_move (v := .int .i64 (s5.2)) q33) ?_
      refine p_val (r_lss (t := decide (s5.2 < 8)) rfl rfl rfl) ?_
      refine wpList_nil ?_
      refine x_norm ?_; refine hK32 _ _ ?_; clear hK32
      refine c_split (t := decide (s5.2 < 8)) rfl (fun hc7 => ?_) (fun hc7 => ?_)
      · replace hb5 := cnd_t hb5 hc7
        refine wp_skip ?_
        refine x_norm ?_; refine hK31 _ _ ?_; clear hK31
        refine wp_seq_k ?_; intro K33 hK33
        refine wp_block ?_
        refine wp_region_lit ?_
        refine p_val (r_move (v := .int .i64 (s5.1)) q32) ?_
        refine p_val (r_mul (r := w64 ((2 : Int) * s5.1)) rfl rfl rfl) ?_
        refine p_val (r_move (v := v7) q35) ?_
        refine p_val (r_move (v := .int .i64 (s4.1)) q37) ?_
        refine p_val (r_move (v := .int .i64 (s5.2)) q33) ?_
        refine p_val (r_add (r := w64 (s4.1 + s5.2)) rfl rfl rfl) ?_
        obtain ⟨y5, e5, hb5⟩ := bnd hb5
        obtain ⟨b1, c1, hv1⟩ := H.ownAt (k := 1) rfl (idx_lt e5)
        refine p_val (r_addrV (i := ((w64 (s4.1 + s5.2)) : Int).toNat) u53 tsz3 rfl hv1 rfl (idx_some e5).1 (idx_lt e5)) ?_
        subst hv1
        have hr1 := RL.get g7 (idx_some e5).2; generalize hghr1 : piece cs7 _ _ = cs10 at hr1
        obtain rfl := elI hr1
        refine p_val (o_load1 (v := .int .i64 (y5)) to3 H (k := 1) rfl rfl (idx_lt e5) hghr1) ?_
        refine p_val (r_add (r := w64 ((w64 ((2 : Int) * s5.1)) + y5)) rfl rfl rfl) ?_
        refine p_val (r_assign (v := .int .i64 ((w64 ((w64 ((2 : Int) * s5.1)) + y5)))) rfl) ?_
        refine wpList_nil ?_
        refine b_norm ?_
        refine x_norm ?_; refine hK33 _ _ ?_; clear hK33
        refine wp_region_lit ?_
        refine p_val (r_move (v := .int .i64 (s5.2)) q33) ?_
        refine p_val (r_add (r := w64 (s5.2 + 1)) rfl rfl rfl) ?_
        refine p_val (r_assign (v := .int .i64 ((w64 (s5.2 + 1)))) rfl) ?_
        refine wpList_nil ?_
        refine x_norm ?_
        replace H : HS ⟨S, [], w⟩ S w14 [.osl (v9) (s4.2).length 1 cs9 rs6 5, .osl (sl b1 0 (t1).length c1) (t1).length 1 cs7 rs5 3] := H
        obtain rfl := Option.some.inj hb5
        exact ⟨((w64 ((w64 ((2 : Int) * s5.1)) + y5)), (w64 (s5.2 + 1))), _, rfl, (by (repeat (refine keep_cons rfl ?_)); refine keep_sub k25 rfl ?_; (repeat (refine keep_cons rfl ?_)); exact fun _ _ => rfl), ⟨rfl, rfl, H⟩, hh5⟩
      · replace hb5 := cnd_f hb5 hc7
        refine wp_exit ?_
        refine x_exit ?_
        refine x_exit ?_
        refine b_hit ?_
        refine x_norm ?_
        replace H : HS ⟨S, [], w⟩ S w14 [.osl (v9) (s4.2).length 1 cs9 rs6 5, .osl (v7) (t1).length 1 cs7 rs5 3] := H
        obtain rfl := Option.some.inj hb5
        obtain rfl := Option.some.inj hh5
        obtain rfl := Option.some.inj hE12
        exact J4 _ _ (by (repeat (refine keep_cons rfl ?_)); refine keep_sub k25 rfl ?_; (repeat (refine keep_cons rfl ?_)); refine keep_name k24 ?_; (repeat (refine keep_cons rfl ?_)); exact fun _ _ => rfl) q32 H
    · replace hb4 := cnd_f hb4 hc6
      refine wp_exit ?_
      refine x_exit ?_
      refine x_exit ?_
      refine b_hit ?_
      refine x_norm ?_
      replace H : HS ⟨S, [], w⟩ S w13 [.osl (v9) (s4.2).length 1 cs9 rs6 5, .osl (v7) (t1).length 1 cs7 rs5 3] := H
      obtain rfl := Option.some.inj hb4
      obtain rfl := Option.some.inj hh4
      obtain rfl := Option.some.inj hE9
      exact J6 _ _ _ _ _ (by (repeat (refine keep_cons rfl ?_)); refine keep_sub k20 rfl ?_; (repeat (refine keep_cons rfl ?_)); refine keep_name k19 ?_; (repeat (refine keep_cons rfl ?_)); exact fun _ _ => rfl) (show _ = (v9 : Value) from q28) H g9
  refine wp_seq_k ?_; intro K4 hK4
  refine wp_region_lit ?_
  refine p_val (r_assign (v := .int .i64 (0)) rfl) ?_
  refine wpList_nil ?_
  refine x_norm ?_; refine hK4 _ _ ?_; clear hK4
  refine wp_block ?_
  refine nameF fun m2 k2 => ?_
  obtain ⟨out1, hL1, hE2⟩ := bnd hE1
  replace H : HS ⟨S, [], w⟩ S w1 [.osl (v1) (([] : List Int)).length 1 ([] : List Value) [] 3] := H
  refine loopI [2, 3, 4, 5, 6, 7, 8, 14, 15, 16, 17, 18, 19, 20, 21, 22, 23, 24, 25, 26, 27, 28, 29, 30, 31, 32, 33, 34, 35, 36, 37, 38, 39, 40, 41, 42, 43] (fun (s1 : Int × (List Int)) (m3 : FM) (w2 : World) => ∃ (v2 : Value) (cs2 rs1 : List Value), look m3 4 = v2 ∧ look m3 5 = .int .i64 (s1.1) ∧ HS ⟨S, [], w⟩ S w2 [.osl (v2) (s1.2).length 1 cs2 rs1 3] ∧ RL S cs2 s1.2) hL1 ⟨_, _, _, (show _ = (v1 : Value) from ((k2 4).trans (k1 4))), (k2 5), H, g1⟩ ?_
  clear H; intro k4 s1 m3 w2 k3 hI1 o2 hb1 hh1; obtain ⟨v2, cs2, rs1, q1, q2, H, g2⟩ := hI1
  have q3 : look m3 0 = str (x0) := (k3 0 rfl).trans ((k2 0).trans (k1 0))
  unfold seneschalref01_FromBase64_b0 at hb1
  refine wp_seq_k ?_; intro K5 hK5
  refine wp_seq_k ?_; intro K6 hK6
  refine wp_region_lit ?_
  refine p_val (r_move (v := .int .i64 (s1.1)) q2) ?_
  refine p_val (r_move (v := str (x0)) q3) ?_
  refine p_val (r_lenT (N := (x0).length) u9 rfl rfl) ?_
  refine p_val (r_lss (t := decide (s1.1 < ((x0).length : Int))) rfl rfl rfl) ?_
  refine wpList_nil ?_
  refine x_norm ?_; refine hK6 _ _ ?_; clear hK6
  refine c_split (t := decide (s1.1 < ((x0).length : Int))) rfl (fun hc1 => ?_) (fun hc1 => ?_)
  · replace hb1 := cnd_t hb1 hc1
    refine wp_skip ?_
    refine x_norm ?_; refine hK5 _ _ ?_; clear hK5
    refine wp_seq_k ?_; intro K7 hK7
    refine nameF fun m4 k5 => ?_
    obtain ⟨o3, hE3, hF2⟩ := jn_some hb1
    have J3 : ∀ (t2 : (List Int)) (v6 : Value) (cs6 rs4 : List Value) (m13 : FM) (w10 : World), o3 = .inl t2 → (∀ t, has [2, 3, 4, 6, 7, 8, 20, 21, 22, 23, 24, 25, 26, 27, 28, 29, 30, 31, 32, 33, 34, 35, 36, 37, 38, 39, 40, 41, 42, 43] t = false → look m13 t = look m4 t) → look m13 4 = v6 → HS ⟨S, [], w⟩ S w10 [.osl (v6) (t2).length 1 cs6 rs4 3] → RL S cs6 t2 → K7 (fr 77 m13) w10 := by
      clear H; intro t2 v6 cs6 rs4 m13 w10 ho k16 q23 H g6
      replace hF2 := jnO_l hF2 ho
      have q24 : look m13 0 = str (x0) := (k16 0 rfl).trans ((k5 0).trans q3)
      have q25 : look m13 5 = .int .i64 (s1.1) := (k16 5 rfl).trans ((k5 5).trans q2)
      refine hK7 _ _ ?_
      refine wp_region_lit ?_
      refine p_val (r_move (v := .int .i64 (s1.1)) q25) ?_
      refine p_val (r_add (r := w64 (s1.1 + 1)) rfl rfl rfl) ?_
      refine p_val (r_assign (v := .int .i64 ((w64 (s1.1 + 1)))) rfl) ?_
      refine wpList_nil ?_
      refine x_norm ?_
      replace H : HS ⟨S, [], w⟩ S w10 [.osl (v6) (t2).length 1 cs6 rs4 3] := H
      obtain rfl := Option.some.inj hF2
      exact ⟨((w64 (s1.1 + 1)), t2), _, rfl, (by (repeat (refine keep_cons rfl ?_)); refine keep_sub k16 rfl ?_; (repeat (refine keep_cons rfl ?_)); refine keep_name k5 ?_; (repeat (refine keep_cons rfl ?_)); refine keep_sub k3 rfl ?_; (repeat (refine keep_cons rfl ?_)); exact fun _ _ => rfl), ⟨_, _, _, (show _ = (v6 : Value) from q23), rfl, H, g6⟩, hh1⟩
    refine wp_block ?_
    refine wp_seq_k ?_; intro K8 hK8
    refine wp_region_lit ?_
    refine p_val (r_assign (v := .int .i64 ((-1))) rfl) ?_
    refine wpList_nil ?_
    refine x_norm ?_; refine hK8 _ _ ?_; clear hK8
    refine wp_seq_k ?_; intro K9 hK9
    refine nameF fun m5 k6 => ?_
    obtain ⟨t3, hE4, hF3⟩ := bnd hE3
    have J2 : ∀ (m10 : FM) (w6 : World), (∀ t, has [6, 7, 20, 21, 22, 23, 24, 25, 26, 27, 28, 29, 30] t = false → look m10 t = look m5 t) → look m10 6 = .int .i64 (t3) → HS ⟨S, [], w⟩ S w6 [.osl (v2) (s1.2).length 1 cs2 rs1 3] → K9 (fr 77 m10) w6 := by
      clear H; intro m10 w6 k12 q14 H
      have q15 : look m10 0 = str (x0) := (k12 0 rfl).trans ((k6 0).trans ((k5 0).trans q3))
      have q16 : look m10 4 = v2 := (k12 4 rfl).trans ((k6 4).trans ((k5 4).trans q1))
      have q17 : look m10 5 = .int .i64 (s1.1) := (k12 5 rfl).trans ((k6 5).trans ((k5 5).trans q2))
      refine hK9 _ _ ?_
      refine wp_seq_k ?_; intro K15 hK15
      refine wp_seq_k ?_; intro K16 hK16
      refine wp_region_lit ?_
      refine p_val (r_move (v := .int .i64 (t3)) q14) ?_
      refine p_val (r_lss (t := decide (t3 < 0)) rfl rfl rfl) ?_
      refine wpList_nil ?_
      refine x_norm ?_; refine hK16 _ _ ?_; clear hK16
      refine c_split (t := decide (t3 < 0)) rfl (fun hc4 => ?_) (fun hc4 => ?_)
      · replace hF3 := cnd_t hF3 hc4
        refine wp_seq_k ?_; intro K17 hK17
        refine wp_region_lit ?_
        refine p_val (r_assign (v := str (([] : List UInt8))) rfl) ?_
        refine p_val (r_assign (v := .int .i64 (11)) rfl) ?_
        refine wpList_nil ?_
        refine x_norm ?_; refine hK17 _ _ ?_; clear hK17
        refine wp_ret ?_
        refine x_ret ?_
        refine b_ret ?_
        refine x_ret ?_
        refine x_ret ?_
        refine b_ret ?_
        refine x_ret ?_
        obtain rfl := Option.some.inj hF3
        obtain rfl := Option.some.inj hF2
        obtain rfl := Option.some.inj hh1
        obtain rfl := Option.some.inj hE2
        obtain rfl := Option.some.inj hF1
        refine e_2 rfl (q_tmp (v := str (([] : List UInt8))) rfl) (q_tmp (v := .int .i64 (11)) rfl) ?_
        exact ⟨rfl, H.toExt⟩
      · replace hF3 := cnd_f hF3 hc4
        refine wp_skip ?_
        refine x_norm ?_; refine hK15 _ _ ?_; clear hK15
        refine wp_seq_k ?_; intro K18 hK18
        refine wp_region_lit ?_
        refine p_val (r_assign (v := .int .i64 (5)) rfl) ?_
        refine wpList_nil ?_
        refine x_norm ?_; refine hK18 _ _ ?_; clear hK18
        refine wp_block ?_
        refine nameF fun m11 k13 => ?_
        obtain ⟨out3, hL3, hE7⟩ := bnd hF3
        replace H : HS ⟨S, [], w⟩ S w6 [.osl (v2) (s1.2).length 1 cs2 rs1 3] := H
        refine loopI [4, 8, 33, 34, 35, 36, 37, 38, 39, 40, 41, 42, 43] (fun (s3 : Int × (List Int)) (m12 : FM) (w7 : World) => ∃ (v3 : Value) (cs3 rs2 : List Value), look m12 4 = v3 ∧ look m12 8 = .int .i64 (s3.1) ∧ HS ⟨S, [], w⟩ S w7 [.osl (v3) (s3.2).length 1 cs3 rs2 3] ∧ RL S cs3 s3.2) hL3 ⟨_, _, _, (show _ = (v2 : Value) from ((k13 4).trans q16)), (k13 8), H, g2⟩ ?_
        clear H; intro k15 s3 m12 w7 k14 hI3 o7 hb3 hh3; obtain ⟨v3, cs3, rs2, q18, q19, H, g3⟩ := hI3
        have q20 : look m12 0 = str (x0) := (k14 0 rfl).trans ((k13 0).trans q15)
        have q21 : look m12 5 = .int .i64 (s1.1) := (k14 5 rfl).trans ((k13 5).trans q17)
        have q22 : look m12 6 = .int .i64 (t3) := (k14 6 rfl).trans ((k13 6).trans q14)
        unfold seneschalref01_FromBase64_b2 at hb3
        refine wp_seq_k ?_; intro K19 hK19
        refine wp_seq_k ?_; intro K20 hK20
        refine wp_region_lit ?_
        refine p_val (r_move (v := .int .i64 (s3.1)) q19) ?_
        refine p_val (r_geq (t := decide ((0 : Int) ≤ s3.1)) rfl rfl rfl) ?_
        refine wpList_nil ?_
        refine x_norm ?_; refine hK20 _ _ ?_; clear hK20
        refine c_split (t := decide ((0 : Int) ≤ s3.1)) rfl (fun hc5 => ?_) (fun hc5 => ?_)
        · replace hb3 := cnd_t hb3 hc5
          refine wp_skip ?_
          refine x_norm ?_; refine hK19 _ _ ?_; clear hK19
          refine wp_seq_k ?_; intro K21 hK21
          refine wp_block ?_
          refine wp_region_lit ?_
          refine p_val (r_move (v := v3) q18) ?_
          refine p_val (r_move (v := .int .i64 (t3)) q22) ?_
          refine p_val (r_move (v := .int .i64 (s3.1)) q19) ?_
          obtain ⟨y3, e3, hb3⟩ := bnd hb3
          refine p_val (r_shr (r := shrI .i64 t3 s3.1) rfl rfl (Int.not_lt.2 (of_decide_eq_true (chk_some e3))) rfl) ?_
          refine p_val (r_bits (bo := .and) (by simp) (r := (bits .and .i64 (shrI .i64 t3 s3.1) 1)) rfl rfl rfl) ?_
          have g4 : RL S ([Value.int .i64 ((bits .and .i64 (shrI .i64 t3 s3.1) 1))] ++ ([] : List Value)) ([(bits .and .i64 (shrI .i64 t3 s3.1) 1)] : List Int) := (RL.cons rpI RL.nil)
          refine p_of1 (a_bslice (N := 1) (vals := [(0, .int .i64 ((bits .and .i64 (shrI .i64 t3 s3.1) 1)))]) (l := ([Value.int .i64 ((bits .and .i64 (shrI .i64 t3 s3.1) 1))] ++ ([] : List Value))) tn53 H rfl rfl rfl g4.len) ?_; clear H; intro w8 v4 H
          generalize ([Value.int .i64 ((bits .and .i64 (shrI .i64 t3 s3.1) 1))] ++ ([] : List Value)) = cs4 at H g4
          replace H : HS ⟨S, [], w⟩ S w8 [.osl (v4) (([(bits .and .i64 (shrI .i64 t3 s3.1) 1)] : List Int)).length 1 cs4 [] 3, .osl (v3) (s3.2).length 1 cs3 rs2 3] := H
          obtain ⟨y4, e4, hb3⟩ := bnd hb3
          refine p_of1 (a_appendX (k := 1) (v2 := v4) tn53 rfl H rfl rfl g3 rfl (H.slW (k := 0) rfl) g4 e4) ?_; clear H; rintro w9 v5 ⟨cs5, rs3, H, g5⟩
          replace H : HS ⟨S, [], w⟩ S w9 [.osl (v4) (([(bits .and .i64 (shrI .i64 t3 s3.1) 1)] : List Int)).length 1 cs4 [] 3, .osl (v5) (y4).length 1 cs5 rs3 3] := H
          replace H := H.sel [1] rfl
          replace H : HS ⟨S, [], w⟩ S w9 [.osl (v5) (y4).length 1 cs5 rs3 3] := H
          refine p_val (r_assign (v := v5) rfl) ?_
          refine wpList_nil ?_
          refine b_norm ?_
          refine x_norm ?_; refine hK21 _ _ ?_; clear hK21
          refine wp_region_lit ?_
          refine p_val (r_move (v := .int .i64 (s3.1)) q19) ?_
          refine p_val (r_sub (r := w64 (s3.1 - 1)) rfl rfl rfl) ?_
          refine p_val (r_assign (v := .int .i64 ((w64 (s3.1 - 1)))) rfl) ?_
          refine wpList_nil ?_
          refine x_norm ?_
          replace H : HS ⟨S, [], w⟩ S w9 [.osl (v5) (y4).length 1 cs5 rs3 3] := H
          obtain rfl := Option.some.inj hb3
          exact ⟨((w64 (s3.1 - 1)), y4), _, rfl, (by (repeat (refine keep_cons rfl ?_)); refine keep_sub k14 rfl ?_; (repeat (refine keep_cons rfl ?_)); exact fun _ _ => rfl), ⟨_, _, _, rfl, rfl, H, g5⟩, hh3⟩
        · replace hb3 := cnd_f hb3 hc5
          refine wp_exit ?_
          refine x_exit ?_
          refine x_exit ?_
          refine b_hit ?_
          refine b_norm ?_
          refine x_norm ?_
          replace H : HS ⟨S, [], w⟩ S w7 [.osl (v3) (s3.2).length 1 cs3 rs2 3] := H
          obtain rfl := Option.some.inj hb3
          obtain rfl := Option.some.inj hh3
          obtain rfl := Option.some.inj hE7
          exact J3 _ _ _ _ _ _ rfl (by (repeat (refine keep_cons rfl ?_)); refine keep_sub k14 rfl ?_; (repeat (refine keep_cons rfl ?_)); refine keep_name k13 ?_; (repeat (refine keep_cons rfl ?_)); refine keep_sub k12 rfl ?_; (repeat (refine keep_cons rfl ?_)); refine keep_name k6 ?_; (repeat (refine keep_cons rfl ?_)); exact fun _ _ => rfl) (show _ = (v3 : Value) from q18) H g3
    refine wp_seq_k ?_; intro K10 hK10
    refine wp_region_lit ?_
    refine p_val (r_assign (v := .int .i64 (0)) rfl) ?_
    refine wpList_nil ?_
    refine x_norm ?_; refine hK10 _ _ ?_; clear hK10
    refine wp_block ?_
    refine nameF fun m6 k7 => ?_
    obtain ⟨out2, hL2, hE5⟩ := bnd hE4
    replace H : HS ⟨S, [], w⟩ S w2 [.osl (v2) (s1.2).length 1 cs2 rs1 3] := H
    refine loopI [6, 7, 20, 21, 22, 23, 24, 25, 26, 27, 28, 29, 30] (fun (s2 : Int × Int) (m7 : FM) (w3 : World) => look m7 6 = .int .i64 (s2.1) ∧ look m7 7 = .int .i64 (s2.2) ∧ HS ⟨S, [], w⟩ S w3 [.osl (v2) (s1.2).length 1 cs2 rs1 3]) hL2 ⟨((k7 6).trans (k6 6)), (k7 7), H⟩ ?_
    clear H; intro k9 s2 m7 w3 k8 hI2 o5 hb2 hh2; obtain ⟨q4, q5, H⟩ := hI2
    have q6 : look m7 0 = str (x0) := (k8 0 rfl).trans ((k7 0).trans ((k6 0).trans ((k5 0).trans q3)))
    have q7 : look m7 4 = v2 := (k8 4 rfl).trans ((k7 4).trans ((k6 4).trans ((k5 4).trans q1)))
    have q8 : look m7 5 = .int .i64 (s1.1) := (k8 5 rfl).trans ((k7 5).trans ((k6 5).trans ((k5 5).trans q2)))
    unfold seneschalref01_FromBase64_b1 at hb2
    refine wp_seq_k ?_; intro K11 hK11
    refine wp_seq_k ?_; intro K12 hK12
    refine wp_region_lit ?_
    refine p_val (r_move (v := .int .i64 (s2.2)) q5) ?_
    refine p_val (r_lss (t := decide (s2.2 < 64)) rfl rfl rfl) ?_
    refine wpList_nil ?_
    refine x_norm ?_; refine hK12 _ _ ?_; clear hK12
    refine c_split (t := decide (s2.2 < 64)) rfl (fun hc2 => ?_) (fun hc2 => ?_)
    · replace hb2 := cnd_t hb2 hc2
      refine wp_skip ?_
      refine x_norm ?_; refine hK11 _ _ ?_; clear hK11
      refine wp_seq_k ?_; intro K13 hK13
      refine nameF fun m8 k10 => ?_
      obtain ⟨t4, hE6, hF4⟩ := bnd hb2
      have J1 : ∀ (m9 : FM) (w5 : World), (∀ t, has [6, 24, 25, 26, 27, 28, 29, 30] t = false → look m9 t = look m8 t) → look m9 6 = .int .i64 (t4) → HS ⟨S, [], w⟩ S w5 [.osl (v2) (s1.2).length 1 cs2 rs1 3] → K13 (fr 77 m9) w5 := by
        clear H; intro m9 w5 k11 q9 H
        have q10 : look m9 0 = str (x0) := (k11 0 rfl).trans ((k10 0).trans q6)
        have q11 : look m9 4 = v2 := (k11 4 rfl).trans ((k10 4).trans q7)
        have q12 : look m9 5 = .int .i64 (s1.1) := (k11 5 rfl).trans ((k10 5).trans q8)
        have q13 : look m9 7 = .int .i64 (s2.2) := (k11 7 rfl).trans ((k10 7).trans q5)
        refine hK13 _ _ ?_
        refine wp_region_lit ?_
        refine p_val (r_move (v := .int .i64 (s2.2)) q13) ?_
        refine p_val (r_add (r := w64 (s2.2 + 1)) rfl rfl rfl) ?_
        refine p_val (r_assign (v := .int .i64 ((w64 (s2.2 + 1)))) rfl) ?_
        refine wpList_nil ?_
        refine x_norm ?_
        replace H : HS ⟨S, [], w⟩ S w5 [.osl (v2) (s1.2).length 1 cs2 rs1 3] := H
        obtain rfl := Option.some.inj hF4
        exact ⟨(t4, (w64 (s2.2 + 1))), _, rfl, (by (repeat (refine keep_cons rfl ?_)); refine keep_sub k11 rfl ?_; (repeat (refine keep_cons rfl ?_)); refine keep_name k10 ?_; (repeat (refine keep_cons rfl ?_)); refine keep_sub k8 rfl ?_; (repeat (refine keep_cons rfl ?_)); exact fun _ _ => rfl), ⟨q9, rfl, H⟩, hh2⟩
      refine wp_block ?_
      refine wp_seq_k ?_; intro K14 hK14
      obtain ⟨y1, e1, hE6⟩ := bnd hE6
      obtain ⟨y2, e2, hE6⟩ := bnd hE6
      apply wp_region_ext 6 (kinds []) rfl rfl (by kernel_rfl); intro vs1
      simp only [List.take_succ_cons, List.take_zero, List.drop_succ_cons, List.drop_zero]
      replace H := H.drew
      refine t_val (fun w hx => r_move (v := .int .i64 (s2.2)) ((k10 7).trans q5)) rfl rfl ?_
      refine t_val (fun w hx => r_idxT (i := (s2.2 : Int).toNat) (u := y1) u9 rfl rfl (idx_some e1).1 (idx_some e1).2) rfl rfl ?_
      refine t_val (fun w hx => r_move (v := str (x0)) ((k10 0).trans q6)) rfl rfl ?_
      refine t_val (fun w hx => r_move (v := .int .i64 (s1.1)) ((k10 5).trans q8)) rfl rfl ?_
      refine t_val (fun w hx => r_idxT (i := (s1.1 : Int).toNat) (u := y2) u9 rfl rfl (idx_some e2).1 (idx_some e2).2) rfl rfl ?_
      refine t_val (fun w hx => r_eql (t := (((y1).toNat : Int) == ((y2).toNat : Int))) rfl rfl rfl) rfl rfl ?_
      refine t_nil (fun w4 hx hF hA => ?_)
      replace H := H.ext hx; clear hx hF hA
      refine wpList_nil ?_; refine on_norm ?_
      refine x_norm ?_; refine hK14 _ _ ?_; clear hK14
      refine c_split (t := (((y1).toNat : Int) == ((y2).toNat : Int))) rfl (fun hc3 => ?_) (fun hc3 => ?_)
      · replace hE6 := cnd_t hE6 hc3
        refine wp_region_lit ?_
        refine p_val (r_move (v := .int .i64 (s2.2)) ((k10 7).trans q5)) ?_
        refine p_val (r_assign (v := .int .i64 (s2.2)) rfl) ?_
        refine wpList_nil ?_
        refine b_norm ?_
        refine x_norm ?_
        replace H : HS ⟨S, [], w⟩ S w4 [.osl (v2) (s1.2).length 1 cs2 rs1 3] := H
        obtain rfl := Option.some.inj hE6
        exact J1 _ _ (by (repeat (refine keep_cons rfl ?_)); exact fun _ _ => rfl) rfl H
      · replace hE6 := cnd_f hE6 hc3
        refine wp_skip ?_
        refine b_norm ?_
        refine x_norm ?_
        replace H : HS ⟨S, [], w⟩ S w4 [.osl (v2) (s1.2).length 1 cs2 rs1 3] := H
        obtain rfl := Option.some.inj hE6
        exact J1 _ _ (by (repeat (refine keep_cons rfl ?_)); exact fun _ _ => rfl) ((k10 6).trans q4) H
    · replace hb2 := cnd_f hb2 hc2
      refine wp_exit ?_
      refine x_exit ?_
      refine x_exit ?_
      refine b_hit ?_
      refine x_norm ?_
      replace H : HS ⟨S, [], w⟩ S w3 [.osl (v2) (s1.2).length 1 cs2 rs1 3] := H
      obtain rfl := Option.some.inj hb2
      obtain rfl := Option.some.inj hh2
      obtain rfl := Option.some.inj hE5
      exact J2 _ _ (by (repeat (refine keep_cons rfl ?_)); refine keep_sub k8 rfl ?_; (repeat (refine keep_cons rfl ?_)); refine keep_name k7 ?_; (repeat (refine keep_cons rfl ?_)); exact fun _ _ => rfl) q4 H
  · replace hb1 := cnd_f hb1 hc1
    refine wp_exit ?_
    refine x_exit ?_
    refine x_exit ?_
    refine b_hit ?_
    refine x_norm ?_
    replace H : HS ⟨S, [], w⟩ S w2 [.osl (v2) (s1.2).length 1 cs2 rs1 3] := H
    obtain rfl := Option.some.inj hb1
    obtain rfl := Option.some.inj hh1
    obtain rfl := Option.some.inj hE2
    exact J7 _ _ _ _ _ _ rfl (by (repeat (refine keep_cons rfl ?_)); refine keep_sub k3 rfl ?_; (repeat (refine keep_cons rfl ?_)); refine keep_name k2 ?_; (repeat (refine keep_cons rfl ?_)); exact fun _ _ => rfl) (show _ = (v2 : Value) from q1) H g2
def seneschalref01_Percent_b0 (x0 : List UInt8) (s1 : Int × (List UInt8)) : Option ((Int × (List UInt8)) ⊕ ((List UInt8))) :=
  bif decide (s1.1 < ((x0).length : Int)) then (Option.bind (Option.bind (idx x0 s1.1) fun y1 => Option.bind (seneschalref01_plain_p y1) fun y2 => bif y2 then (Option.bind (idx x0 s1.1) fun y3 => Option.bind (app s1.2 ([y3] : List UInt8)) fun y4 => some (y4)) else (Option.bind (idx x0 s1.1) fun y5 => Option.bind (idx ([48, 49, 50, 51, 52, 53, 54, 55, 56, 57, 65, 66, 67, 68, 69, 70] : List UInt8) (((i8 (Int.tdiv ((y5).toNat : Int) 16))).toNat : Int)) fun y6 => Option.bind (idx x0 s1.1) fun y7 => Option.bind (idx ([48, 49, 50, 51, 52, 53, 54, 55, 56, 57, 65, 66, 67, 68, 69, 70] : List UInt8) (((i8 (Int.tmod ((y7).toNat : Int) 16))).toNat : Int)) fun y8 => Option.bind (app s1.2 ([(37 : UInt8), y6, y8] : List UInt8)) fun y9 => some (y9))) (fun t2 => some (.inl (((w64 (s1.1 + 1)), t2))))) else (some (.inr (s1.2)))
def seneschalref01_Percent_p (x0 : List UInt8) : Option ((List UInt8)) :=
  Option.bind (Option.bind (iter (seneschalref01_Percent_b0 x0) ((0, ([] : List UInt8)))) (fun e => some (e))) (fun t1 => some (t1))
theorem seneschalref01_Percent_c {S : Mem} {w : World} (hS : Sub S w) {x0 : List UInt8} {r : (List UInt8)} (hF : seneschalref01_Percent_p x0 = some r) :
    Calls Tryd.prog 23 #[str (x0)] w fun e w' => e = .returned (str (r)) ∧ Ext w w' := by
  refine enter (n := 37) Tryd.func23 rfl rfl rfl ?_
  have H := HS.start hS
  unfold seneschalref01_Percent_p at hF
  refine wp_seq_k ?_; intro K1 hK1
  refine wp_region_lit ?_
  refine p_val (r_assign (v := str (([] : List UInt8))) rfl) ?_
  refine wpList_nil ?_
  refine x_norm ?_; refine hK1 _ _ ?_; clear hK1
  refine wp_seq_k ?_; intro K2 hK2
  refine wp_region_lit ?_
  have g1 : RL S ([] : List Value) ([] : List UInt8) := RL.nil
  refine p_of1 (a_bslice (N := 0) (vals := []) (l := ([] : List Value)) tn40 H rfl rfl rfl g1.len) ?_; clear H; intro w1 v1 H
  replace H : HS ⟨S, [], w⟩ S w1 [.osl (v1) (([] : List UInt8)).length 1 ([] : List Value) [] 5] := H
  refine p_val (r_assign (v := v1) rfl) ?_
  refine wpList_nil ?_
  refine x_norm ?_; refine hK2 _ _ ?_; clear hK2
  refine wp_seq_k ?_; intro K3 hK3
  refine nameF fun m1 k1 => ?_
  obtain ⟨t1, hE1, hF1⟩ := bnd hF
  have J2 : ∀ (v8 : Value) (cs8 rs5 : List Value) (m6 : FM) (w10 : World), (∀ t, has [3, 4, 6, 7, 8, 9, 10, 11, 12, 13, 14, 15, 16, 17, 18, 19, 20, 21, 22, 23, 24, 25, 26, 27, 28, 29, 30, 31, 32, 33, 34] t = false → look m6 t = look m1 t) → look m6 3 = v8 → HS ⟨S, [], w⟩ S w10 [.osl (v8) (t1).length 1 cs8 rs5 5] → RL S cs8 t1 → K3 (fr 37 m6) w10 := by
    clear H; intro v8 cs8 rs5 m6 w10 k7 q7 H g8
    refine hK3 _ _ ?_
    refine wp_seq_k ?_; intro K9 hK9
    refine wp_region_lit ?_
    refine p_val (r_move (v := v8) q7) ?_
    refine p_val (r_strO u40 u5 u9 rfl H (k := 0) rfl g8) ?_
    refine p_val (r_assign (v := str (t1)) rfl) ?_
    refine wpList_nil ?_
    refine x_norm ?_; refine hK9 _ _ ?_; clear hK9
    refine wp_ret ?_
    obtain rfl := Option.some.inj hF1
    refine e_1 rfl (q_tmp (v := str (t1)) rfl) ?_
    exact ⟨rfl, H.toExt⟩
  refine wp_seq_k ?_; intro K4 hK4
  refine wp_region_lit ?_
  refine p_val (r_assign (v := .int .i64 (0)) rfl) ?_
  refine wpList_nil ?_
  refine x_norm ?_; refine hK4 _ _ ?_; clear hK4
  refine wp_block ?_
  refine nameF fun m2 k2 => ?_
  obtain ⟨out1, hL1, hE2⟩ := bnd hE1
  replace H : HS ⟨S, [], w⟩ S w1 [.osl (v1) (([] : List UInt8)).length 1 ([] : List Value) [] 5] := H
  refine loopI [3, 4, 6, 7, 8, 9, 10, 11, 12, 13, 14, 15, 16, 17, 18, 19, 20, 21, 22, 23, 24, 25, 26, 27, 28, 29, 30, 31, 32, 33, 34] (fun (s1 : Int × (List UInt8)) (m3 : FM) (w2 : World) => ∃ (v2 : Value) (cs2 rs1 : List Value), look m3 3 = v2 ∧ look m3 4 = .int .i64 (s1.1) ∧ HS ⟨S, [], w⟩ S w2 [.osl (v2) (s1.2).length 1 cs2 rs1 5] ∧ RL S cs2 s1.2) hL1 ⟨_, _, _, (show _ = (v1 : Value) from ((k2 3).trans (k1 3))), (k2 4), H, g1⟩ ?_
  clear H; intro k4 s1 m3 w2 k3 hI1 o2 hb1 hh1; obtain ⟨v2, cs2, rs1, q1, q2, H, g2⟩ := hI1
  have q3 : look m3 0 = str (x0) := (k3 0 rfl).trans ((k2 0).trans (k1 0))
  unfold seneschalref01_Percent_b0 at hb1
  refine wp_seq_k ?_; intro K5 hK5
  refine wp_seq_k ?_; intro K6 hK6
  refine wp_region_lit ?_
  refine p_val (r_move (v := .int .i64 (s1.1)) q2) ?_
  refine p_val (r_move (v := str (x0)) q3) ?_
  refine p_val (r_lenT (N := (x0).length) u9 rfl rfl) ?_
  refine p_val (r_lss (t := decide (s1.1 < ((x0).length : Int))) rfl rfl rfl) ?_
  refine wpList_nil ?_
  refine x_norm ?_; refine hK6 _ _ ?_; clear hK6
  refine c_split (t := decide (s1.1 < ((x0).length : Int))) rfl (fun hc1 => ?_) (fun hc1 => ?_)
  · replace hb1 := cnd_t hb1 hc1
    refine wp_skip ?_
    refine x_norm ?_; refine hK5 _ _ ?_; clear hK5
    refine wp_seq_k ?_; intro K7 hK7
    refine nameF fun m4 k5 => ?_
    obtain ⟨t2, hE3, hF2⟩ := bnd hb1
    have J1 : ∀ (v7 : Value) (cs7 rs4 : List Value) (m5 : FM) (w9 : World), (∀ t, has [3, 12, 13, 14, 15, 16, 17, 18, 19, 20, 21, 22, 23, 24, 25, 26, 27, 28, 29, 30, 31, 32, 33, 34] t = false → look m5 t = look m4 t) → look m5 3 = v7 → HS ⟨S, [], w⟩ S w9 [.osl (v7) (t2).length 1 cs7 rs4 5] → RL S cs7 t2 → K7 (fr 37 m5) w9 := by
      clear H; intro v7 cs7 rs4 m5 w9 k6 q4 H g7
      have q5 : look m5 0 = str (x0) := (k6 0 rfl).trans ((k5 0).trans q3)
      have q6 : look m5 4 = .int .i64 (s1.1) := (k6 4 rfl).trans ((k5 4).trans q2)
      refine hK7 _ _ ?_
      refine wp_region_lit ?_
      refine p_val (r_move (v := .int .i64 (s1.1)) q6) ?_
      refine p_val (r_add (r := w64 (s1.1 + 1)) rfl rfl rfl) ?_
      refine p_val (r_assign (v := .int .i64 ((w64 (s1.1 + 1)))) rfl) ?_
      refine wpList_nil ?_
      refine x_norm ?_
      replace H : HS ⟨S, [], w⟩ S w9 [.osl (v7) (t2).length 1 cs7 rs4 5] := H
      obtain rfl := Option.some.inj hF2
      exact ⟨((w64 (s1.1 + 1)), t2), _, rfl, (by (repeat (refine keep_cons rfl ?_)); refine keep_sub k6 rfl ?_; (repeat (refine keep_cons rfl ?_)); refine keep_name k5 ?_; (repeat (refine keep_cons rfl ?_)); refine keep_sub k3 rfl ?_; (repeat (refine keep_cons rfl ?_)); exact fun _ _ => rfl), ⟨_, _, _, (show _ = (v7 : Value) from q4), rfl, H, g7⟩, hh1⟩
    refine wp_block ?_
    refine wp_seq_k ?_; intro K8 hK8
    refine wp_region_lit ?_
    refine p_val (r_move (v := str (x0)) ((k5 0).trans q3)) ?_
    refine p_val (r_move (v := .int .i64 (s1.1)) ((k5 4).trans q2)) ?_
    obtain ⟨y1, e1, hE3⟩ := bnd hE3
    refine p_val (r_idxT (i := (s1.1 : Int).toNat) (u := y1) u9 rfl rfl (idx_some e1).1 (idx_some e1).2) ?_
    obtain ⟨y2, e2, hE3⟩ := bnd hE3
    refine p_call (l := [.int .u8 (((y1).toNat : Int))]) is41 rfl ?_
    refine (seneschalref01_plain_c H.sub e2).mono ?_; rintro _ w3 ⟨rfl, hx⟩; replace H := H.ext hx; clear hx
    refine wpList_nil ?_
    refine x_norm ?_; refine hK8 _ _ ?_; clear hK8
    refine c_split (t := y2) rfl (fun hc2 => ?_) (fun hc2 => ?_)
    · replace hE3 := cnd_t hE3 hc2
      refine wp_region_lit ?_
      refine p_val (r_move (v := v2) ((k5 3).trans q1)) ?_
      refine p_val (r_move (v := str (x0)) ((k5 0).trans q3)) ?_
      refine p_val (r_move (v := .int .i64 (s1.1)) ((k5 4).trans q2)) ?_
      obtain ⟨y3, e3, hE3⟩ := bnd hE3
      refine p_val (r_idxT (i := (s1.1 : Int).toNat) (u := y3) u9 rfl rfl (idx_some e3).1 (idx_some e3).2) ?_
      have g3 : RL S ([Value.int .u8 (((y3).toNat : Int))] ++ ([] : List Value)) ([y3] : List UInt8) := (RL.cons rpU8 RL.nil)
      refine p_of1 (a_bslice (N := 1) (vals := [(0, .int .u8 (((y3).toNat : Int)))]) (l := ([Value.int .u8 (((y3).toNat : Int))] ++ ([] : List Value))) tn40 H rfl rfl rfl g3.len) ?_; clear H; intro w4 v3 H
      generalize ([Value.int .u8 (((y3).toNat : Int))] ++ ([] : List Value)) = cs3 at H g3
      replace H : HS ⟨S, [], w⟩ S w4 [.osl (v3) (([y3] : List UInt8)).length 1 cs3 [] 5, .osl (v2) (s1.2).length 1 cs2 rs1 5] := H
      obtain ⟨y4, e4, hE3⟩ := bnd hE3
      refine p_of1 (a_appendX (k := 1) (v2 := v3) tn40 rfl H rfl rfl g2 rfl (H.slW (k := 0) rfl) g3 e4) ?_; clear H; rintro w5 v4 ⟨cs4, rs2, H, g4⟩
      replace H : HS ⟨S, [], w⟩ S w5 [.osl (v3) (([y3] : List UInt8)).length 1 cs3 [] 5, .osl (v4) (y4).length 1 cs4 rs2 5] := H
      replace H := H.sel [1] rfl
      replace H : HS ⟨S, [], w⟩ S w5 [.osl (v4) (y4).length 1 cs4 rs2 5] := H
      refine p_val (r_assign (v := v4) rfl) ?_
      refine wpList_nil ?_
      refine b_norm ?_
      refine x_norm ?_
      replace H : HS ⟨S, [], w⟩ S w5 [.osl (v4) (y4).length 1 cs4 rs2 5] := H
      obtain rfl := Option.some.inj hE3
      exact J1 _ _ _ _ _ (by (repeat (refine keep_cons rfl ?_)); exact fun _ _ => rfl) rfl H g4
    · replace hE3 := cnd_f hE3 hc2
      obtain ⟨y5, e5, hE3⟩ := bnd hE3
      obtain ⟨y6, e6, hE3⟩ := bnd hE3
      obtain ⟨y7, e7, hE3⟩ := bnd hE3
      obtain ⟨y8, e8, hE3⟩ := bnd hE3
      apply wp_region_ext 11 (kinds []) rfl rfl (by kernel_rfl); intro vs1
      simp only [List.take_succ_cons, List.take_zero, List.drop_succ_cons, List.drop_zero]
      replace H := H.drew
      refine t_float (fun w => r_move (v := v2) ((k5 3).trans q1)) rfl rfl ?_
      refine t_val (fun w hx => r_move (v := str (x0)) ((k5 0).trans q3)) rfl rfl ?_
      refine t_val (fun w hx => r_move (v := .int .i64 (s1.1)) ((k5 4).trans q2)) rfl rfl ?_
      refine t_val (fun w hx => r_idxT (i := (s1.1 : Int).toNat) (u := y5) u9 rfl rfl (idx_some e5).1 (idx_some e5).2) rfl rfl ?_
      refine t_val (fun w hx => r_quo (r := (((i8 (Int.tdiv ((y5).toNat : Int) 16))).toNat : Int)) rfl rfl (by decide) (i8_wrap _)) rfl rfl ?_
      refine t_val (fun w hx => r_idxT (i := ((((i8 (Int.tdiv ((y5).toNat : Int) 16))).toNat : Int) : Int).toNat) (u := y6) u9 rfl rfl (idx_some e6).1 (idx_some e6).2) rfl rfl ?_
      refine t_val (fun w hx => r_move (v := str (x0)) ((k5 0).trans q3)) rfl rfl ?_
      refine t_val (fun w hx => r_move (v := .int .i64 (s1.1)) ((k5 4).trans q2)) rfl rfl ?_
      refine t_val (fun w hx => r_idxT (i := (s1.1 : Int).toNat) (u := y7) u9 rfl rfl (idx_some e7).1 (idx_some e7).2) rfl rfl ?_
      refine t_val (fun w hx => r_rem (r := (((i8 (Int.tmod ((y7).toNat : Int) 16))).toNat : Int)) rfl rfl (by decide) (i8_rem _ _ (by omega))) rfl rfl ?_
      refine t_val (fun w hx => r_idxT (i := ((((i8 (Int.tmod ((y7).toNat : Int) 16))).toNat : Int) : Int).toNat) (u := y8) u9 rfl rfl (idx_some e8).1 (idx_some e8).2) rfl rfl ?_
      refine t_nil (fun w6 hx hF hA => ?_)
      replace H := H.ext hx; clear hx hF hA
      have g5 : RL S ([Value.int .u8 (37)] ++ ([Value.int .u8 (((y6).toNat : Int))] ++ ([Value.int .u8 (((y8).toNat : Int))] ++ ([] : List Value)))) ([(37 : UInt8), y6, y8] : List UInt8) := (RL.cons (rpU8c (x := (37 : UInt8)) rfl) (RL.cons rpU8 (RL.cons rpU8 RL.nil)))
      refine p_of1 (a_bslice (N := 3) (vals := [(0, .int .u8 (37)), (1, .int .u8 (((y6).toNat : Int))), (2, .int .u8 (((y8).toNat : Int)))]) (l := ([Value.int .u8 (37)] ++ ([Value.int .u8 (((y6).toNat : Int))] ++ ([Value.int .u8 (((y8).toNat : Int))] ++ ([] : List Value))))) tn40 H rfl rfl rfl g5.len) ?_; clear H; intro w7 v5 H
      generalize ([Value.int .u8 (37)] ++ ([Value.int .u8 (((y6).toNat : Int))] ++ ([Value.int .u8 (((y8).toNat : Int))] ++ ([] : List Value)))) = cs5 at H g5
      replace H : HS ⟨S, [], w⟩ S w7 [.osl (v5) (([(37 : UInt8), y6, y8] : List UInt8)).length 1 cs5 [] 5, .osl (v2) (s1.2).length 1 cs2 rs1 5] := H
      obtain ⟨y9, e9, hE3⟩ := bnd hE3
      refine p_of1 (a_appendX (k := 1) (v2 := v5) tn40 rfl H rfl rfl g2 rfl (H.slW (k := 0) rfl) g5 e9) ?_; clear H; rintro w8 v6 ⟨cs6, rs3, H, g6⟩
      replace H : HS ⟨S, [], w⟩ S w8 [.osl (v5) (([(37 : UInt8), y6, y8] : List UInt8)).length 1 cs5 [] 5, .osl (v6) (y9).length 1 cs6 rs3 5] := H
      replace H := H.sel [1] rfl
      replace H : HS ⟨S, [], w⟩ S w8 [.osl (v6) (y9).length 1 cs6 rs3 5] := H
      refine p_val (r_assign (v := v6) rfl) ?_
      refine wpList_nil ?_; refine on_norm ?_
      refine b_norm ?_
      refine x_norm ?_
      replace H : HS ⟨S, [], w⟩ S w8 [.osl (v6) (y9).length 1 cs6 rs3 5] := H
      obtain rfl := Option.some.inj hE3
      exact J1 _ _ _ _ _ (by (repeat (refine keep_cons rfl ?_)); exact fun _ _ => rfl) rfl H g6
  · replace hb1 := cnd_f hb1 hc1
    refine wp_exit ?_
    refine x_exit ?_
    refine x_exit ?_
    refine b_hit ?_
    refine x_norm ?_
    replace H : HS ⟨S, [], w⟩ S w2 [.osl (v2) (s1.2).length 1 cs2 rs1 5] := H
    obtain rfl := Option.some.inj hb1
    obtain rfl := Option.some.inj hh1
    obtain rfl := Option.some.inj hE2
    exact J2 _ _ _ _ _ (by (repeat (refine keep_cons rfl ?_)); refine keep_sub k3 rfl ?_; (repeat (refine keep_cons rfl ?_)); refine keep_name k2 ?_; (repeat (refine keep_cons rfl ?_)); exact fun _ _ => rfl) (show _ = (v2 : Value) from q1) H g2
def seneschalref01_FromPercent_b0 (x0 : List UInt8) (s1 : Int × (List UInt8)) : Option ((Int × (List UInt8)) ⊕ (((List UInt8) × Int) ⊕ ((List UInt8)))) :=
  bif decide (s1.1 < ((x0).length : Int)) then (jn (Option.bind (idx x0 s1.1) fun y1 => bif (((y1).toNat : Int) != 37) then (Option.bind (idx x0 s1.1) fun y2 => Option.bind (app s1.2 ([y2] : List UInt8)) fun y3 => some (.inl ((s1.1, y3)))) else (bif decide (((x0).length : Int) ≤ (w64 (s1.1 + 2))) then (some (.inr ((([] : List UInt8), 12)))) else (Option.bind (idx x0 (w64 (s1.1 + 1))) fun y4 => Option.bind (seneschalref01_digit_p y4 true) fun y5 => Option.bind (idx x0 (w64 (s1.1 + 2))) fun y6 => Option.bind (seneschalref01_digit_p y6 true) fun y7 => bif (bif decide (y5 < 0) then true else decide (y7 < 0)) then (some (.inr ((([] : List UInt8), 12)))) else (Option.bind (app s1.2 ([(i8 (w64 ((w64 ((16 : Int) * y5)) + y7)))] : List UInt8)) fun y8 => some (.inl (((w64 (s1.1 + 2)), y8))))))) (fun t2 => some (.inl (((w64 (t2.1 + 1)), t2.2)))) (fun e => some (.inr (.inl (e))))) else (some (.inr (.inr (s1.2))))
def seneschalref01_FromPercent_p (x0 : List UInt8) : Option ((List UInt8) × Int) :=
  jn (Option.bind (iter (seneschalref01_FromPercent_b0 x0) ((0, ([] : List UInt8)))) (fun e => jnO e (fun e1 => some (.inr (e1))) (fun e2 => some (.inl (e2))))) (fun t1 => some ((t1, 0))) (fun e => some (e))
theorem seneschalref01_FromPercent_c {S : Mem} {w : World} (hS : Sub S w) {x0 : List UInt8} {r : (List UInt8) × Int} (hF : seneschalref01_FromPercent_p x0 = some r) :
    Calls Tryd.prog 21 #[str (x0)] w fun e w' => e = .returned (.tuple #[str (r.1), .int .i64 (r.2)]) ∧ Ext w w' := by
  refine enter (n := 58) Tryd.func21 rfl rfl rfl ?_
  have H := HS.start hS
  unfold seneschalref01_FromPercent_p at hF
  refine wp_seq_k ?_; intro K1 hK1
  refine wp_region_lit ?_
  refine p_val (r_assign (v := str (([] : List UInt8))) rfl) ?_
  refine p_val (r_assign (v := .int .i64 (0)) rfl) ?_
  refine wpList_nil ?_
  refine x_norm ?_; refine hK1 _ _ ?_; clear hK1
  refine wp_seq_k ?_; intro K2 hK2
  refine wp_region_lit ?_
  have g1 : RL S ([] : List Value) ([] : List UInt8) := RL.nil
  refine p_of1 (a_bslice (N := 0) (vals := []) (l := ([] : List Value)) tn40 H rfl rfl rfl g1.len) ?_; clear H; intro w1 v1 H
  replace H : HS ⟨S, [], w⟩ S w1 [.osl (v1) (([] : List UInt8)).length 1 ([] : List Value) [] 5] := H
  refine p_val (r_assign (v := v1) rfl) ?_
  refine wpList_nil ?_
  refine x_norm ?_; refine hK2 _ _ ?_; clear hK2
  refine wp_seq_k ?_; intro K3 hK3
  refine nameF fun m1 k1 => ?_
  obtain ⟨o1, hE1, hF1⟩ := jn_some hF
  have J3 : ∀ (t1 : (List UInt8)) (v8 : Value) (cs8 rs5 : List Value) (m8 : FM) (w9 : World), o1 = .inl t1 → (∀ t, has [2, 3, 4, 5, 6, 7, 9, 10, 11, 12, 13, 14, 15, 16, 17, 18, 19, 20, 21, 22, 23, 24, 25, 26, 27, 28, 29, 30, 31, 32, 33, 34, 35, 36, 37, 38, 39, 40, 41, 42, 43, 44, 45, 46, 47, 48, 49, 50, 51, 52, 53, 54, 55] t = false → look m8 t = look m1 t) → look m8 4 = v8 → HS ⟨S, [], w⟩ S w9 [.osl (v8) (t1).length 1 cs8 rs5 5] → RL S cs8 t1 → K3 (fr 58 m8) w9 := by
    clear H; intro t1 v8 cs8 rs5 m8 w9 ho k9 q13 H g8
    replace hF1 := jnO_l hF1 ho
    refine hK3 _ _ ?_
    refine wp_seq_k ?_; intro K20 hK20
    refine wp_region_lit ?_
    refine p_val (r_move (v := v8) q13) ?_
    refine p_val (r_strO u40 u5 u9 rfl H (k := 0) rfl g8) ?_
    refine p_val (r_assign (v := str (t1)) rfl) ?_
    refine p_val (r_assign (v := .int .i64 (0)) rfl) ?_
    refine wpList_nil ?_
    refine x_norm ?_; refine hK20 _ _ ?_; clear hK20
    refine wp_ret ?_
    obtain rfl := Option.some.inj hF1
    refine e_2 rfl (q_tmp (v := str (t1)) rfl) (q_tmp (v := .int .i64 (0)) rfl) ?_
    exact ⟨rfl, H.toExt⟩
  refine wp_seq_k ?_; intro K4 hK4
  refine wp_region_lit ?_
  refine p_val (r_assign (v := .int .i64 (0)) rfl) ?_
  refine wpList_nil ?_
  refine x_norm ?_; refine hK4 _ _ ?_; clear hK4
  refine wp_block ?_
  refine nameF fun m2 k2 => ?_
  obtain ⟨out1, hL1, hE2⟩ := bnd hE1
  replace H : HS ⟨S, [], w⟩ S w1 [.osl (v1) (([] : List UInt8)).length 1 ([] : List Value) [] 5] := H
  refine loopI [2, 3, 4, 5, 6, 7, 9, 10, 11, 12, 13, 14, 15, 16, 17, 18, 19, 20, 21, 22, 23, 24, 25, 26, 27, 28, 29, 30, 31, 32, 33, 34, 35, 36, 37, 38, 39, 40, 41, 42, 43, 44, 45, 46, 47, 48, 49, 50, 51, 52, 53, 54, 55] (fun (s1 : Int × (List UInt8)) (m3 : FM) (w2 : World) => ∃ (v2 : Value) (cs2 rs1 : List Value), look m3 4 = v2 ∧ look m3 5 = .int .i64 (s1.1) ∧ HS ⟨S, [], w⟩ S w2 [.osl (v2) (s1.2).length 1 cs2 rs1 5] ∧ RL S cs2 s1.2) hL1 ⟨_, _, _, (show _ = (v1 : Value) from ((k2 4).trans (k1 4))), (k2 5), H, g1⟩ ?_
  clear H; intro k4 s1 m3 w2 k3 hI1 o2 hb1 hh1; obtain ⟨v2, cs2, rs1, q1, q2, H, g2⟩ := hI1
  have q3 : look m3 0 = str (x0) := (k3 0 rfl).trans ((k2 0).trans (k1 0))
  unfold seneschalref01_FromPercent_b0 at hb1
  refine wp_seq_k ?_; intro K5 hK5
  refine wp_seq_k ?_; intro K6 hK6
  refine wp_region_lit ?_
  refine p_val (r_move (v := .int .i64 (s1.1)) q2) ?_
  refine p_val (r_move (v := str (x0)) q3) ?_
  refine p_val (r_lenT (N := (x0).length) u9 rfl rfl) ?_
  refine p_val (r_lss (t := decide (s1.1 < ((x0).length : Int))) rfl rfl rfl) ?_
  refine wpList_nil ?_
  refine x_norm ?_; refine hK6 _ _ ?_; clear hK6
  refine c_split (t := decide (s1.1 < ((x0).length : Int))) rfl (fun hc1 => ?_) (fun hc1 => ?_)
  · replace hb1 := cnd_t hb1 hc1
    refine wp_skip ?_
    refine x_norm ?_; refine hK5 _ _ ?_; clear hK5
    refine wp_seq_k ?_; intro K7 hK7
    refine nameF fun m4 k5 => ?_
    obtain ⟨o3, hE3, hF2⟩ := jn_some hb1
    have J2 : ∀ (t2 : Int × (List UInt8)) (v7 : Value) (cs7 rs4 : List Value) (m7 : FM) (w8 : World), o3 = .inl t2 → (∀ t, has [2, 3, 4, 5, 6, 7, 15, 16, 17, 18, 19, 20, 21, 22, 23, 24, 25, 26, 27, 28, 29, 30, 31, 32, 33, 34, 35, 36, 37, 38, 39, 40, 41, 42, 43, 44, 45, 46, 47, 48, 49, 50, 51, 52, 53, 54, 55] t = false → look m7 t = look m4 t) → look m7 4 = v7 → look m7 5 = .int .i64 (t2.1) → HS ⟨S, [], w⟩ S w8 [.osl (v7) (t2.2).length 1 cs7 rs4 5] → RL S cs7 t2.2 → K7 (fr 58 m7) w8 := by
      clear H; intro t2 v7 cs7 rs4 m7 w8 ho k8 q10 q11 H g7
      replace hF2 := jnO_l hF2 ho
      have q12 : look m7 0 = str (x0) := (k8 0 rfl).trans ((k5 0).trans q3)
      refine hK7 _ _ ?_
      refine wp_region_lit ?_
      refine p_val (r_move (v := .int .i64 (t2.1)) q11) ?_
      refine p_val (r_add (r := w64 (t2.1 + 1)) rfl rfl rfl) ?_
      refine p_val (r_assign (v := .int .i64 ((w64 (t2.1 + 1)))) rfl) ?_
      refine wpList_nil ?_
      refine x_norm ?_
      replace H : HS ⟨S, [], w⟩ S w8 [.osl (v7) (t2.2).length 1 cs7 rs4 5] := H
      obtain rfl := Option.some.inj hF2
      exact ⟨((w64 (t2.1 + 1)), t2.2), _, rfl, (by (repeat (refine keep_cons rfl ?_)); refine keep_sub k8 rfl ?_; (repeat (refine keep_cons rfl ?_)); refine keep_name k5 ?_; (repeat (refine keep_cons rfl ?_)); refine keep_sub k3 rfl ?_; (repeat (refine keep_cons rfl ?_)); exact fun _ _ => rfl), ⟨_, _, _, (show _ = (v7 : Value) from q10), rfl, H, g7⟩, hh1⟩
    refine wp_block ?_
    refine wp_seq_k ?_; intro K8 hK8
    refine wp_seq_k ?_; intro K9 hK9
    refine wp_region_lit ?_
    refine p_val (r_move (v := str (x0)) ((k5 0).trans q3)) ?_
    refine p_val (r_move (v := .int .i64 (s1.1)) ((k5 5).trans q2)) ?_
    obtain ⟨y1, e1, hE3⟩ := bnd hE3
    refine p_val (r_idxT (i := (s1.1 : Int).toNat) (u := y1) u9 rfl rfl (idx_some e1).1 (idx_some e1).2) ?_
    refine p_val (r_neq (t := (((y1).toNat : Int) != 37)) rfl rfl rfl) ?_
    refine wpList_nil ?_
    refine x_norm ?_; refine hK9 _ _ ?_; clear hK9
    refine c_split (t := (((y1).toNat : Int) != 37)) rfl (fun hc2 => ?_) (fun hc2 => ?_)
    · replace hE3 := cnd_t hE3 hc2
      refine wp_seq_k ?_; intro K10 hK10
      refine wp_region_lit ?_
      refine p_val (r_move (v := v2) ((k5 4).trans q1)) ?_
      refine p_val (r_move (v := str (x0)) ((k5 0).trans q3)) ?_
      refine p_val (r_move (v := .int .i64 (s1.1)) ((k5 5).trans q2)) ?_
      obtain ⟨y2, e2, hE3⟩ := bnd hE3
      refine p_val (r_idxT (i := (s1.1 : Int).toNat) (u := y2) u9 rfl rfl (idx_some e2).1 (idx_some e2).2) ?_
      have g3 : RL S ([Value.int .u8 (((y2).toNat : Int))] ++ ([] : List Value)) ([y2] : List UInt8) := (RL.cons rpU8 RL.nil)
      refine p_of1 (a_bslice (N := 1) (vals := [(0, .int .u8 (((y2).toNat : Int)))]) (l := ([Value.int .u8 (((y2).toNat : Int))] ++ ([] : List Value))) tn40 H rfl rfl rfl g3.len) ?_; clear H; intro w3 v3 H
      generalize ([Value.int .u8 (((y2).toNat : Int))] ++ ([] : List Value)) = cs3 at H g3
      replace H : HS ⟨S, [], w⟩ S w3 [.osl (v3) (([y2] : List UInt8)).length 1 cs3 [] 5, .osl (v2) (s1.2).length 1 cs2 rs1 5] := H
      obtain ⟨y3, e3, hE3⟩ := bnd hE3
      refine p_of1 (a_appendX (k := 1) (v2 := v3) tn40 rfl H rfl rfl g2 rfl (H.slW (k := 0) rfl) g3 e3) ?_; clear H; rintro w4 v4 ⟨cs4, rs2, H, g4⟩
      replace H : HS ⟨S, [], w⟩ S w4 [.osl (v3) (([y2] : List UInt8)).length 1 cs3 [] 5, .osl (v4) (y3).length 1 cs4 rs2 5] := H
      replace H := H.sel [1] rfl
      replace H : HS ⟨S, [], w⟩ S w4 [.osl (v4) (y3).length 1 cs4 rs2 5] := H
      refine p_val (r_assign (v := v4) rfl) ?_
      refine wpList_nil ?_
      refine x_norm ?_; refine hK10 _ _ ?_; clear hK10
      refine wp_exit ?_
      refine x_exit ?_
      refine b_hit ?_
      refine x_norm ?_
      replace H : HS ⟨S, [], w⟩ S w4 [.osl (v4) (y3).length 1 cs4 rs2 5] := H
      obtain rfl := Option.some.inj hE3
      exact J2 _ _ _ _ _ _ rfl (by (repeat (refine keep_cons rfl ?_)); exact fun _ _ => rfl) rfl ((k5 5).trans q2) H g4
    · replace hE3 := cnd_f hE3 hc2
      refine wp_skip ?_
      refine x_norm ?_; refine hK8 _ _ ?_; clear hK8
      refine wp_seq_k ?_; intro K11 hK11
      refine wp_seq_k ?_; intro K12 hK12
      refine wp_region_lit ?_
      refine p_val (r_move (v := .int .i64 (s1.1)) ((k5 5).trans q2)) ?_
      refine p_val (r_add (r := w64 (s1.1 + 2)) rfl rfl rfl) ?_
      refine p_val (r_move (v := str (x0)) ((k5 0).trans q3)) ?_
      refine p_val (r_lenT (N := (x0).length) u9 rfl rfl) ?_
      refine p_val (r_geq (t := decide (((x0).length : Int) ≤ (w64 (s1.1 + 2)))) rfl rfl rfl) ?_
      refine wpList_nil ?_
      refine x_norm ?_; refine hK12 _ _ ?_; clear hK12
      refine c_split (t := decide (((x0).length : Int) ≤ (w64 (s1.1 + 2)))) rfl (fun hc3 => ?_) (fun hc3 => ?_)
      · replace hE3 := cnd_t hE3 hc3
        refine wp_seq_k ?_; intro K13 hK13
        refine wp_region_lit ?_
        refine p_val (r_assign (v := str (([] : List UInt8))) rfl) ?_
        refine p_val (r_assign (v := .int .i64 (12)) rfl) ?_
        refine wpList_nil ?_
        refine x_norm ?_; refine hK13 _ _ ?_; clear hK13
        refine wp_ret ?_
        refine x_ret ?_
        refine b_ret ?_
        refine x_ret ?_
        refine x_ret ?_
        refine b_ret ?_
        refine x_ret ?_
        obtain rfl := Option.some.inj hE3
        obtain rfl := Option.some.inj hF2
        obtain rfl := Option.some.inj hh1
        obtain rfl := Option.some.inj hE2
        obtain rfl := Option.some.inj hF1
        refine e_2 rfl (q_tmp (v := str (([] : List UInt8))) rfl) (q_tmp (v := .int .i64 (12)) rfl) ?_
        exact ⟨rfl, H.toExt⟩
      · replace hE3 := cnd_f hE3 hc3
        refine wp_skip ?_
        refine x_norm ?_; refine hK11 _ _ ?_; clear hK11
        refine wp_seq_k ?_; intro K14 hK14
        obtain ⟨y4, e4, hE3⟩ := bnd hE3
        obtain ⟨y5, e5, hE3⟩ := bnd hE3
        obtain ⟨y6, e6, hE3⟩ := bnd hE3
        obtain ⟨y7, e7, hE3⟩ := bnd hE3
        apply wp_region_ext 10 (kinds [(4, .inl (.int .i64 (y5))), (9, .inl (.int .i64 (y7)))]) rfl rfl (by kernel_rfl); intro vs1
        simp only [List.take_succ_cons, List.take_zero, List.drop_succ_cons, List.drop_zero]
        replace H := H.drew
        refine t_val (fun w hx => r_move (v := str (x0)) ((k5 0).trans q3)) rfl rfl ?_
        refine t_val (fun w hx => r_move (v := .int .i64 (s1.1)) ((k5 5).trans q2)) rfl rfl ?_
        refine t_val (fun w hx => r_add (r := w64 (s1.1 + 1)) rfl rfl rfl) rfl rfl ?_
        refine t_val (fun w hx => r_idxT (i := ((w64 (s1.1 + 1)) : Int).toNat) (u := y4) u9 rfl rfl (idx_some e4).1 (idx_some e4).2) rfl rfl ?_
        refine t_call (l := [.int .u8 (((y4).toNat : Int)), .bool (true)]) rfl rfl is32 rfl (fun w hx hF => (seneschalref01_digit_c (H.ext hx).sub e5).mono (fun _ _ ⟨he, hx⟩ => ⟨he, hx⟩)) ?_
        refine t_val (fun w hx => r_move (v := str (x0)) ((k5 0).trans q3)) rfl rfl ?_
        refine t_val (fun w hx => r_move (v := .int .i64 (s1.1)) ((k5 5).trans q2)) rfl rfl ?_
        refine t_val (fun w hx => r_add (r := w64 (s1.1 + 2)) rfl rfl rfl) rfl rfl ?_
        refine t_val (fun w hx => r_idxT (i := ((w64 (s1.1 + 2)) : Int).toNat) (u := y6) u9 rfl rfl (idx_some e6).1 (idx_some e6).2) rfl rfl ?_
        refine t_call (l := [.int .u8 (((y6).toNat : Int)), .bool (true)]) rfl rfl is32 rfl (fun w hx hF => (seneschalref01_digit_c (H.ext hx).sub e7).mono (fun _ _ ⟨he, hx⟩ => ⟨he, hx⟩)) ?_
        refine t_nil (fun w5 hx hF hA => ?_)
        replace H := H.ext hx; clear hx hF hA
        refine p_val (r_assign (v := .int .i64 (y5)) rfl) ?_
        refine p_val (r_assign (v := .int .i64 (y7)) rfl) ?_
        refine wpList_nil ?_; refine on_norm ?_
        refine x_norm ?_; refine hK14 _ _ ?_; clear hK14
        refine wp_seq_k ?_; intro K15 hK15
        refine wp_seq_k ?_; intro K16 hK16
        refine wp_region_lit ?_
        refine p_val (r_move (v := .int .i64 (y5)) rfl) ?_
        refine p_val (r_lss (t := decide (y5 < 0)) rfl rfl rfl) ?_
        refine p_val (r_move (v := .bool (decide (y5 < 0))) rfl) ?_
        refine nameL fun m5 k6 => ?_
        refine gs_at 3 fun K17 hK17 R3 hR3 => ?_
        have J1 : ∀ (m6 : FM), (∀ t, has [43, 44, 45] t = false → look m6 t = look m5 t) → look m6 45 = .bool ((bif decide (y5 < 0) then true else decide (y7 < 0))) → K17 m6 w5 := by
          intro m6 k7 q4
          have q5 : look m6 0 = str (x0) := (k7 0 rfl).trans ((k6 0).trans ((k5 0).trans q3))
          have q6 : look m6 4 = v2 := (k7 4 rfl).trans ((k6 4).trans ((k5 4).trans q1))
          have q7 : look m6 5 = .int .i64 (s1.1) := (k7 5 rfl).trans ((k6 5).trans ((k5 5).trans q2))
          have q8 : look m6 6 = .int .i64 (y5) := (k7 6 rfl).trans (k6 6)
          have q9 : look m6 7 = .int .i64 (y7) := (k7 7 rfl).trans (k6 7)
          refine hK17 _ _ ?_; clear hK17 hR3
          refine wpList_nil ?_
          refine x_norm ?_; refine hK16 _ _ ?_; clear hK16
          refine c_split (t := (bif decide (y5 < 0) then true else decide (y7 < 0))) q4 (fun hc4 => ?_) (fun hc4 => ?_)
          · replace hE3 := cnd_t hE3 hc4
            refine wp_seq_k ?_; intro K18 hK18
            refine wp_region_lit ?_
            refine p_val (r_assign (v := str (([] : List UInt8))) rfl) ?_
            refine p_val (r_assign (v := .int .i64 (12)) rfl) ?_
            refine wpList_nil ?_
            refine x_norm ?_; refine hK18 _ _ ?_; clear hK18
            refine wp_ret ?_
            refine x_ret ?_
            refine b_ret ?_
            refine x_ret ?_
            refine x_ret ?_
            refine b_ret ?_
            refine x_ret ?_
            obtain rfl := Option.some.inj hE3
            obtain rfl := Option.some.inj hF2
            obtain rfl := Option.some.inj hh1
            obtain rfl := Option.some.inj hE2
            obtain rfl := Option.some.inj hF1
            refine e_2 rfl (q_tmp (v := str (([] : List UInt8))) rfl) (q_tmp (v := .int .i64 (12)) rfl) ?_
            exact ⟨rfl, H.toExt⟩
          · replace hE3 := cnd_f hE3 hc4
            refine wp_skip ?_
            refine x_norm ?_; refine hK15 _ _ ?_; clear hK15
            refine wp_seq_k ?_; intro K19 hK19
            refine wp_region_lit ?_
            refine p_val (r_move (v := v2) q6) ?_
            refine p_val (r_move (v := .int .i64 (y5)) q8) ?_
            refine p_val (r_mul (r := w64 ((16 : Int) * y5)) rfl rfl rfl) ?_
            refine p_val (r_move (v := .int .i64 (y7)) q9) ?_
            refine p_val (r_add (r := w64 ((w64 ((16 : Int) * y5)) + y7)) rfl rfl rfl) ?_
            refine p_val (r_conv (r := (((i8 (w64 ((w64 ((16 : Int) * y5)) + y7)))).toNat : Int)) u3 u5 rfl (i8_wrap _)) ?_
            have g5 : RL S ([Value.int .u8 ((((i8 (w64 ((w64 ((16 : Int) * y5)) + y7)))).toNat : Int))] ++ ([] : List Value)) ([(i8 (w64 ((w64 ((16 : Int) * y5)) + y7)))] : List UInt8) := (RL.cons rpU8 RL.nil)
            refine p_of1 (a_bslice (N := 1) (vals := [(0, .int .u8 ((((i8 (w64 ((w64 ((16 : Int) * y5)) + y7)))).toNat : Int)))]) (l := ([Value.int .u8 ((((i8 (w64 ((w64 ((16 : Int) * y5)) + y7)))).toNat : Int))] ++ ([] : List Value))) tn40 H rfl rfl rfl g5.len) ?_; clear H; intro w6 v5 H
            generalize ([Value.int .u8 ((((i8 (w64 ((w64 ((16 : Int) * y5)) + y7)))).toNat : Int))] ++ ([] : List Value)) = cs5 at H g5
            replace H : HS ⟨S, [], w⟩ S w6 [.osl (v5) (([(i8 (w64 ((w64 ((16 : Int) * y5)) + y7)))] : List UInt8)).length 1 cs5 [] 5, .osl (v2) (s1.2).length 1 cs2 rs1 5] := H
            obtain ⟨y8, e8, hE3⟩ := bnd hE3
            refine p_of1 (a_appendX (k := 1) (v2 := v5) tn40 rfl H rfl rfl g2 rfl (H.slW (k := 0) rfl) g5 e8) ?_; clear H; rintro w7 v6 ⟨cs6, rs3, H, g6⟩
            replace H : HS ⟨S, [], w⟩ S w7 [.osl (v5) (([(i8 (w64 ((w64 ((16 : Int) * y5)) + y7)))] : List UInt8)).length 1 cs5 [] 5, .osl (v6) (y8).length 1 cs6 rs3 5] := H
            replace H := H.sel [1] rfl
            replace H : HS ⟨S, [], w⟩ S w7 [.osl (v6) (y8).length 1 cs6 rs3 5] := H
            refine p_val (r_assign (v := v6) rfl) ?_
            refine wpList_nil ?_
            refine x_norm ?_; refine hK19 _ _ ?_; clear hK19
            refine wp_region_lit ?_
            refine p_val (r_move (v := .int .i64 (s1.1)) q7) ?_
            refine p_val (r_add (r := w64 (s1.1 + 2)) rfl rfl rfl) ?_
            refine p_val (r_assign (v := .int .i64 ((w64 (s1.1 + 2)))) rfl) ?_
            refine wpList_nil ?_
            refine b_norm ?_
            refine x_norm ?_
            replace H : HS ⟨S, [], w⟩ S w7 [.osl (v6) (y8).length 1 cs6 rs3 5] := H
            obtain rfl := Option.some.inj hE3
            exact J2 _ _ _ _ _ _ rfl (by (repeat (refine keep_cons rfl ?_)); refine keep_sub k7 rfl ?_; (repeat (refine keep_cons rfl ?_)); refine keep_name k6 ?_; (repeat (refine keep_cons rfl ?_)); exact fun _ _ => rfl) rfl rfl H g6
        refine p_gs (j := 2) (gvl_at rfl rfl (k6 42)) (fun hb2 => ?_) (fun hb2 => ?_)
        · skip
          refine p_skip (gvl_at rfl rfl (k6 42)) hb2 ?_
          rw [put_fr]
          refine p_skip (gvl_at rfl rfl (k6 42)) hb2 ?_
          rw [put_fr]
          refine p_val (r_pickt (v := .bool (true)) (k6 42) hb2 rfl) ?_
          refine hR3 _ _ ?_
          exact J1 _ (by (repeat (refine keep_cons rfl ?_)); exact fun _ _ => rfl) (show (.bool (true) : Value) = .bool ((bif decide (y5 < 0) then true else decide (y7 < 0))) from congrArg Value.bool (by simp only [hb2, cond_true, cond_false]))
        · skip
          refine p_want (gvl_at rfl rfl (k6 42)) hb2 ?_
          refine p_val (r_move (v := .int .i64 (y7)) (k6 7)) ?_
          refine p_want (gvl_at rfl rfl (k6 42)) hb2 ?_
          refine p_val (r_lss (t := decide (y7 < 0)) rfl rfl rfl) ?_
          refine p_val (r_pickf (v := .bool (decide (y7 < 0))) (k6 42) hb2 rfl) ?_
          refine hR3 _ _ ?_
          exact J1 _ (by (repeat (refine keep_cons rfl ?_)); exact fun _ _ => rfl) (show (.bool (decide (y7 < 0)) : Value) = .bool ((bif decide (y5 < 0) then true else decide (y7 < 0))) from congrArg Value.bool (by simp only [hb2, cond_true, cond_false]))
  · replace hb1 := cnd_f hb1 hc1
    refine wp_exit ?_
    refine x_exit ?_
    refine x_exit ?_
    refine b_hit ?_
    refine x_norm ?_
    replace H : HS ⟨S, [], w⟩ S w2 [.osl (v2) (s1.2).length 1 cs2 rs1 5] := H
    obtain rfl := Option.some.inj hb1
    obtain rfl := Option.some.inj hh1
    obtain rfl := Option.some.inj hE2
    exact J3 _ _ _ _ _ _ rfl (by (repeat (refine keep_cons rfl ?_)); refine keep_sub k3 rfl ?_; (repeat (refine keep_cons rfl ?_)); refine keep_name k2 ?_; (repeat (refine keep_cons rfl ?_)); exact fun _ _ => rfl) (show _ = (v2 : Value) from q1) H g2
def seneschalref01_word_b0 (x0 : List UInt8) (s1 : Int × (List UInt8)) : Option ((Int × (List UInt8)) ⊕ ((List UInt8))) :=
  bif decide (s1.1 < ((x0).length : Int)) then (Option.bind (Option.bind (idx x0 s1.1) fun y1 => bif (((y1).toNat : Int) == 32) then (Option.bind (app s1.2 ([(43 : UInt8)] : List UInt8)) fun y2 => some (y2)) else (Option.bind (sub3 x0 s1.1 (w64 (s1.1 + 1))) fun y3 => Option.bind (seneschalref01_Percent_p y3) fun y4 => Option.bind (app s1.2 y4) fun y5 => some (y5))) (fun t2 => some (.inl (((w64 (s1.1 + 1)), t2))))) else (some (.inr (s1.2)))
def seneschalref01_word_p (x0 : List UInt8) : Option ((List UInt8)) :=
  Option.bind (Option.bind (iter (seneschalref01_word_b0 x0) ((0, ([] : List UInt8)))) (fun e => some (e))) (fun t1 => some (t1))
theorem seneschalref01_word_c {S : Mem} {w : World} (hS : Sub S w) {x0 : List UInt8} {r : (List UInt8)} (hF : seneschalref01_word_p x0 = some r) :
    Calls Tryd.prog 43 #[str (x0)] w fun e w' => e = .returned (str (r)) ∧ Ext w w' := by
  refine enter (n := 29) Tryd.func43 rfl rfl rfl ?_
  have H := HS.start hS
  unfold seneschalref01_word_p at hF
  refine wp_seq_k ?_; intro K1 hK1
  refine wp_region_lit ?_
  refine p_val (r_assign (v := str (([] : List UInt8))) rfl) ?_
  refine wpList_nil ?_
  refine x_norm ?_; refine hK1 _ _ ?_; clear hK1
  refine wp_seq_k ?_; intro K2 hK2
  refine wp_region_lit ?_
  have g1 : RL S ([] : List Value) ([] : List UInt8) := RL.nil
  refine p_of1 (a_bslice (N := 0) (vals := []) (l := ([] : List Value)) tn40 H rfl rfl rfl g1.len) ?_; clear H; intro w1 v1 H
  replace H : HS ⟨S, [], w⟩ S w1 [.osl (v1) (([] : List UInt8)).length 1 ([] : List Value) [] 5] := H
  refine p_val (r_assign (v := v1) rfl) ?_
  refine wpList_nil ?_
  refine x_norm ?_; refine hK2 _ _ ?_; clear hK2
  refine wp_seq_k ?_; intro K3 hK3
  refine nameF fun m1 k1 => ?_
  obtain ⟨t1, hE1, hF1⟩ := bnd hF
  have J2 : ∀ (v7 : Value) (cs7 rs5 : List Value) (m6 : FM) (w8 : World), (∀ t, has [3, 4, 6, 7, 8, 9, 10, 11, 12, 13, 14, 15, 16, 17, 18, 19, 20, 21, 22, 23, 24, 25, 26] t = false → look m6 t = look m1 t) → look m6 3 = v7 → HS ⟨S, [], w⟩ S w8 [.osl (v7) (t1).length 1 cs7 rs5 5] → RL S cs7 t1 → K3 (fr 29 m6) w8 := by
    clear H; intro v7 cs7 rs5 m6 w8 k7 q7 H g7
    refine hK3 _ _ ?_
    refine wp_seq_k ?_; intro K9 hK9
    refine wp_region_lit ?_
    refine p_val (r_move (v := v7) q7) ?_
    refine p_val (r_strO u40 u5 u9 rfl H (k := 0) rfl g7) ?_
    refine p_val (r_assign (v := str (t1)) rfl) ?_
    refine wpList_nil ?_
    refine x_norm ?_; refine hK9 _ _ ?_; clear hK9
    refine wp_ret ?_
    obtain rfl := Option.some.inj hF1
    refine e_1 rfl (q_tmp (v := str (t1)) rfl) ?_
    exact ⟨rfl, H.toExt⟩
  refine wp_seq_k ?_; intro K4 hK4
  refine wp_region_lit ?_
  refine p_val (r_assign (v := .int .i64 (0)) rfl) ?_
  refine wpList_nil ?_
  refine x_norm ?_; refine hK4 _ _ ?_; clear hK4
  refine wp_block ?_
  refine nameF fun m2 k2 => ?_
  obtain ⟨out1, hL1, hE2⟩ := bnd hE1
  replace H : HS ⟨S, [], w⟩ S w1 [.osl (v1) (([] : List UInt8)).length 1 ([] : List Value) [] 5] := H
  refine loopI [3, 4, 6, 7, 8, 9, 10, 11, 12, 13, 14, 15, 16, 17, 18, 19, 20, 21, 22, 23, 24, 25, 26] (fun (s1 : Int × (List UInt8)) (m3 : FM) (w2 : World) => ∃ (v2 : Value) (cs2 rs1 : List Value), look m3 3 = v2 ∧ look m3 4 = .int .i64 (s1.1) ∧ HS ⟨S, [], w⟩ S w2 [.osl (v2) (s1.2).length 1 cs2 rs1 5] ∧ RL S cs2 s1.2) hL1 ⟨_, _, _, (show _ = (v1 : Value) from ((k2 3).trans (k1 3))), (k2 4), H, g1⟩ ?_
  clear H; intro k4 s1 m3 w2 k3 hI1 o2 hb1 hh1; obtain ⟨v2, cs2, rs1, q1, q2, H, g2⟩ := hI1
  have q3 : look m3 0 = str (x0) := (k3 0 rfl).trans ((k2 0).trans (k1 0))
  unfold seneschalref01_word_b0 at hb1
  refine wp_seq_k ?_; intro K5 hK5
  refine wp_seq_k ?_; intro K6 hK6
  refine wp_region_lit ?_
  refine p_val (r_move (v := .int .i64 (s1.1)) q2) ?_
  refine p_val (r_move (v := str (x0)) q3) ?_
  refine p_val (r_lenT (N := (x0).length) u9 rfl rfl) ?_
  refine p_val (r_lss (t := decide (s1.1 < ((x0).length : Int))) rfl rfl rfl) ?_
  refine wpList_nil ?_
  refine x_norm ?_; refine hK6 _ _ ?_; clear hK6
  refine c_split (t := decide (s1.1 < ((x0).length : Int))) rfl (fun hc1 => ?_) (fun hc1 => ?_)
  · replace hb1 := cnd_t hb1 hc1
    refine wp_skip ?_
    refine x_norm ?_; refine hK5 _ _ ?_; clear hK5
    refine wp_seq_k ?_; intro K7 hK7
    refine nameF fun m4 k5 => ?_
    obtain ⟨t2, hE3, hF2⟩ := bnd hb1
    have J1 : ∀ (v6 : Value) (cs6 rs4 : List Value) (m5 : FM) (w7 : World), (∀ t, has [3, 12, 13, 14, 15, 16, 17, 18, 19, 20, 21, 22, 23, 24, 25, 26] t = false → look m5 t = look m4 t) → look m5 3 = v6 → HS ⟨S, [], w⟩ S w7 [.osl (v6) (t2).length 1 cs6 rs4 5] → RL S cs6 t2 → K7 (fr 29 m5) w7 := by
      clear H; intro v6 cs6 rs4 m5 w7 k6 q4 H g6
      have q5 : look m5 0 = str (x0) := (k6 0 rfl).trans ((k5 0).trans q3)
      have q6 : look m5 4 = .int .i64 (s1.1) := (k6 4 rfl).trans ((k5 4).trans q2)
      refine hK7 _ _ ?_
      refine wp_region_lit ?_
      refine p_val (r_move (v := .int .i64 (s1.1)) q6) ?_
      refine p_val (r_add (r := w64 (s1.1 + 1)) rfl rfl rfl) ?_
      refine p_val (r_assign (v := .int .i64 ((w64 (s1.1 + 1)))) rfl) ?_
      refine wpList_nil ?_
      refine x_norm ?_
      replace H : HS ⟨S, [], w⟩ S w7 [.osl (v6) (t2).length 1 cs6 rs4 5] := H
      obtain rfl := Option.some.inj hF2
      exact ⟨((w64 (s1.1 + 1)), t2), _, rfl, (by (repeat (refine keep_cons rfl ?_)); refine keep_sub k6 rfl ?_; (repeat (refine keep_cons rfl ?_)); refine keep_name k5 ?_; (repeat (refine keep_cons rfl ?_)); refine keep_sub k3 rfl ?_; (repeat (refine keep_cons rfl ?_)); exact fun _ _ => rfl), ⟨_, _, _, (show _ = (v6 : Value) from q4), rfl, H, g6⟩, hh1⟩
    refine wp_block ?_
    refine wp_seq_k ?_; intro K8 hK8
    refine wp_region_lit ?_
    refine p_val (r_move (v := str (x0)) ((k5 0).trans q3)) ?_
    refine p_val (r_move (v := .int .i64 (s1.1)) ((k5 4).trans q2)) ?_
    obtain ⟨y1, e1, hE3⟩ := bnd hE3
    refine p_val (r_idxT (i := (s1.1 : Int).toNat) (u := y1) u9 rfl rfl (idx_some e1).1 (idx_some e1).2) ?_
    refine p_val (r_eql (t := (((y1).toNat : Int) == 32)) rfl rfl rfl) ?_
    refine wpList_nil ?_
    refine x_norm ?_; refine hK8 _ _ ?_; clear hK8
    refine c_split (t := (((y1).toNat : Int) == 32)) rfl (fun hc2 => ?_) (fun hc2 => ?_)
    · replace hE3 := cnd_t hE3 hc2
      refine wp_region_lit ?_
      refine p_val (r_move (v := v2) ((k5 3).trans q1)) ?_
      have g3 : RL S ([Value.int .u8 (43)] ++ ([] : List Value)) ([(43 : UInt8)] : List UInt8) := (RL.cons (rpU8c (x := (43 : UInt8)) rfl) RL.nil)
      refine p_of1 (a_bslice (N := 1) (vals := [(0, .int .u8 (43))]) (l := ([Value.int .u8 (43)] ++ ([] : List Value))) tn40 H rfl rfl rfl g3.len) ?_; clear H; intro w3 v3 H
      generalize ([Value.int .u8 (43)] ++ ([] : List Value)) = cs3 at H g3
      replace H : HS ⟨S, [], w⟩ S w3 [.osl (v3) (([(43 : UInt8)] : List UInt8)).length 1 cs3 [] 5, .osl (v2) (s1.2).length 1 cs2 rs1 5] := H
      obtain ⟨y2, e2, hE3⟩ := bnd hE3
      refine p_of1 (a_appendX (k := 1) (v2 := v3) tn40 rfl H rfl rfl g2 rfl (H.slW (k := 0) rfl) g3 e2) ?_; clear H; rintro w4 v4 ⟨cs4, rs2, H, g4⟩
      replace H : HS ⟨S, [], w⟩ S w4 [.osl (v3) (([(43 : UInt8)] : List UInt8)).length 1 cs3 [] 5, .osl (v4) (y2).length 1 cs4 rs2 5] := H
      replace H := H.sel [1] rfl
      replace H : HS ⟨S, [], w⟩ S w4 [.osl (v4) (y2).length 1 cs4 rs2 5] := H
      refine p_val (r_assign (v := v4) rfl) ?_
      refine wpList_nil ?_
      refine b_norm ?_
      refine x_norm ?_
      replace H : HS ⟨S, [], w⟩ S w4 [.osl (v4) (y2).length 1 cs4 rs2 5] := H
      obtain rfl := Option.some.inj hE3
      exact J1 _ _ _ _ _ (by (repeat (refine keep_cons rfl ?_)); exact fun _ _ => rfl) rfl H g4
    · replace hE3 := cnd_f hE3 hc2
      refine wp_region_lit ?_
      refine p_val (r_move (v := v2) ((k5 3).trans q1)) ?_
      refine p_val (r_move (v := str (x0)) ((k5 0).trans q3)) ?_
      refine p_val (r_move (v := .int .i64 (s1.1)) ((k5 4).trans q2)) ?_
      refine p_val (r_move (v := .int .i64 (s1.1)) ((k5 4).trans q2)) ?_
      refine p_val (r_add (r := w64 (s1.1 + 1)) rfl rfl rfl) ?_
      obtain ⟨y3, e3, hE3⟩ := bnd hE3
      refine p_val (r_sliceT (p := (s1.1 : Int).toNat) (h := ((w64 (s1.1 + 1)) : Int).toNat) (r := y3) u9 rfl rfl rfl (sub3_some e3).1 (sub3_some e3).2.1 (sub3_some e3).2.2.1 (sub3_some e3).2.2.2.1 (sub3_some e3).2.2.2.2) ?_
      obtain ⟨y4, e4, hE3⟩ := bnd hE3
      refine p_call (l := [str (y3)]) is23 rfl ?_
      refine (seneschalref01_Percent_c H.sub e4).mono ?_; rintro _ w5 ⟨rfl, hx⟩; replace H := H.ext hx; clear hx
      obtain ⟨y5, e5, hE3⟩ := bnd hE3
      refine p_of1 (a_appendT (k := 0) (l := y4) tn40 u9 H rfl rfl g2 rfl e5) ?_; clear H; rintro w6 v5 ⟨cs5, rs3, H, g5⟩
      replace H : HS ⟨S, [], w⟩ S w6 [.osl (v5) (y5).length 1 cs5 rs3 5] := H
      refine p_val (r_assign (v := v5) rfl) ?_
      refine wpList_nil ?_
      refine b_norm ?_
      refine x_norm ?_
      replace H : HS ⟨S, [], w⟩ S w6 [.osl (v5) (y5).length 1 cs5 rs3 5] := H
      obtain rfl := Option.some.inj hE3
      exact J1 _ _ _ _ _ (by (repeat (refine keep_cons rfl ?_)); exact fun _ _ => rfl) rfl H g5
  · replace hb1 := cnd_f hb1 hc1
    refine wp_exit ?_
    refine x_exit ?_
    refine x_exit ?_
    refine b_hit ?_
    refine x_norm ?_
    replace H : HS ⟨S, [], w⟩ S w2 [.osl (v2) (s1.2).length 1 cs2 rs1 5] := H
    obtain rfl := Option.some.inj hb1
    obtain rfl := Option.some.inj hh1
    obtain rfl := Option.some.inj hE2
    exact J2 _ _ _ _ _ (by (repeat (refine keep_cons rfl ?_)); refine keep_sub k3 rfl ?_; (repeat (refine keep_cons rfl ?_)); refine keep_name k2 ?_; (repeat (refine keep_cons rfl ?_)); exact fun _ _ => rfl) (show _ = (v2 : Value) from q1) H g2
def seneschalref01_Get_b0 (x0 : List ((List UInt8) × (List UInt8))) (x1 : List UInt8) (s1 : (List UInt8) × Int × Int) : Option (((List UInt8) × Int × Int) ⊕ ((List UInt8) × Int)) :=
  bif decide (s1.2.2 < ((x0).length : Int)) then (Option.bind (Option.bind (idx x0 s1.2.2) fun y1 => bif (y1.1 == x1) then (Option.bind (bif (s1.2.1 == 0) then (Option.bind (idx x0 s1.2.2) fun y2 => some (y2.2)) else (some (s1.1))) (fun t3 => some ((t3, (w64 (s1.2.1 + 1)))))) else (some ((s1.1, s1.2.1)))) (fun t2 => some (.inl ((t2.1, t2.2, (w64 (s1.2.2 + 1))))))) else (some (.inr ((s1.1, s1.2.1))))
def seneschalref01_Get_p (x0 : List ((List UInt8) × (List UInt8))) (x1 : List UInt8) : Option ((List UInt8) × Int) :=
  Option.bind (Option.bind (iter (seneschalref01_Get_b0 x0 x1) ((([] : List UInt8), 0, 0))) (fun e => some (e))) (fun t1 => some ((t1.1, t1.2)))
theorem seneschalref01_Get_c {S : Mem} {w : World} (hS : Sub S w) {v0_ : Value} {x0 : List ((List UInt8) × (List UInt8))} (h0_ : RdS S v0_ x0) {x1 : List UInt8} {r : (List UInt8) × Int} (hF : seneschalref01_Get_p x0 x1 = some r) :
    Calls Tryd.prog 30 #[v0_, str (x1)] w fun e w' => e = .returned (.tuple #[str (r.1), .int .i64 (r.2)]) ∧ Ext w w' := by
  refine enter (n := 33) Tryd.func30 rfl rfl rfl ?_
  have H := HS.start hS
  unfold seneschalref01_Get_p at hF
  refine wp_seq_k ?_; intro K1 hK1
  refine wp_region_lit ?_
  refine p_val (r_assign (v := str (([] : List UInt8))) rfl) ?_
  refine p_val (r_assign (v := .int .i64 (0)) rfl) ?_
  refine wpList_nil ?_
  refine x_norm ?_; refine hK1 _ _ ?_; clear hK1
  refine wp_seq_k ?_; intro K2 hK2
  refine wp_region_lit ?_
  refine p_val (r_assign (v := str (([] : List UInt8))) rfl) ?_
  refine p_val (r_assign (v := .int .i64 (0)) rfl) ?_
  refine wpList_nil ?_
  refine x_norm ?_; refine hK2 _ _ ?_; clear hK2
  refine wp_seq_k ?_; intro K3 hK3
  refine nameF fun m1 k1 => ?_
  obtain ⟨t1, hE1, hF1⟩ := bnd hF
  have J3 : ∀ (m8 : FM) (w4 : World), (∀ t, has [6, 7, 8, 9, 10, 11, 12, 13, 14, 15, 16, 17, 18, 19, 20, 21, 22, 23, 24, 25, 26, 27, 28, 29, 30] t = false → look m8 t = look m1 t) → look m8 6 = str (t1.1) → look m8 7 = .int .i64 (t1.2) → HS ⟨S, [], w⟩ S w4 [] → K3 (fr 33 m8) w4 := by
    clear H; intro m8 w4 k9 q16 q17 H
    refine hK3 _ _ ?_
    refine wp_seq_k ?_; intro K11 hK11
    refine wp_region_lit ?_
    refine p_val (r_move (v := str (t1.1)) q16) ?_
    refine p_val (r_move (v := .int .i64 (t1.2)) q17) ?_
    refine p_val (r_assign (v := str (t1.1)) rfl) ?_
    refine p_val (r_assign (v := .int .i64 (t1.2)) rfl) ?_
    refine wpList_nil ?_
    refine x_norm ?_; refine hK11 _ _ ?_; clear hK11
    refine wp_ret ?_
    obtain rfl := Option.some.inj hF1
    refine e_2 rfl (q_tmp (v := str (t1.1)) rfl) (q_tmp (v := .int .i64 (t1.2)) rfl) ?_
    exact ⟨rfl, H.toExt⟩
  refine wp_seq_k ?_; intro K4 hK4
  refine wp_region_lit ?_
  refine p_val (r_assign (v := .int .i64 (0)) rfl) ?_
  refine wpList_nil ?_
  refine x_norm ?_; refine hK4 _ _ ?_; clear hK4
  refine wp_block ?_
  refine nameF fun m2 k2 => ?_
  obtain ⟨out1, hL1, hE2⟩ := bnd hE1
  replace H : HS ⟨S, [], w⟩ S w [] := H
  refine loopI [6, 7, 8, 9, 10, 11, 12, 13, 14, 15, 16, 17, 18, 19, 20, 21, 22, 23, 24, 25, 26, 27, 28, 29, 30] (fun (s1 : (List UInt8) × Int × Int) (m3 : FM) (w1 : World) => look m3 6 = str (s1.1) ∧ look m3 7 = .int .i64 (s1.2.1) ∧ look m3 8 = .int .i64 (s1.2.2) ∧ HS ⟨S, [], w⟩ S w1 []) hL1 ⟨((k2 6).trans (k1 6)), ((k2 7).trans (k1 7)), (k2 8), H⟩ ?_
  clear H; intro k4 s1 m3 w1 k3 hI1 o2 hb1 hh1; obtain ⟨q1, q2, q3, H⟩ := hI1
  have q4 : look m3 0 = v0_ := (k3 0 rfl).trans ((k2 0).trans (k1 0))
  have q5 : look m3 1 = str (x1) := (k3 1 rfl).trans ((k2 1).trans (k1 1))
  unfold seneschalref01_Get_b0 at hb1
  refine wp_seq_k ?_; intro K5 hK5
  refine wp_seq_k ?_; intro K6 hK6
  refine wp_region_lit ?_
  refine p_val (r_move (v := .int .i64 (s1.2.2)) q3) ?_
  refine p_val (r_move (v := v0_) q4) ?_
  refine p_val (r_lenR' u28 rfl h0_ H.sub) ?_
  refine p_val (r_lss (t := decide (s1.2.2 < ((x0).length : Int))) rfl rfl rfl) ?_
  refine wpList_nil ?_
  refine x_norm ?_; refine hK6 _ _ ?_; clear hK6
  refine c_split (t := decide (s1.2.2 < ((x0).length : Int))) rfl (fun hc1 => ?_) (fun hc1 => ?_)
  · replace hb1 := cnd_t hb1 hc1
    refine wp_skip ?_
    refine x_norm ?_; refine hK5 _ _ ?_; clear hK5
    refine wp_seq_k ?_; intro K7 hK7
    refine nameF fun m4 k5 => ?_
    obtain ⟨t2, hE3, hF2⟩ := bnd hb1
    have J2 : ∀ (m7 : FM) (w3 : World), (∀ t, has [6, 7, 15, 16, 17, 18, 19, 20, 21, 22, 23, 24, 25, 26, 27, 28, 29, 30] t = false → look m7 t = look m4 t) → look m7 6 = str (t2.1) → look m7 7 = .int .i64 (t2.2) → HS ⟨S, [], w⟩ S w3 [] → K7 (fr 33 m7) w3 := by
      clear H; intro m7 w3 k8 q11 q12 H
      have q13 : look m7 0 = v0_ := (k8 0 rfl).trans ((k5 0).trans q4)
      have q14 : look m7 1 = str (x1) := (k8 1 rfl).trans ((k5 1).trans q5)
      have q15 : look m7 8 = .int .i64 (s1.2.2) := (k8 8 rfl).trans ((k5 8).trans q3)
      refine hK7 _ _ ?_
      refine wp_region_lit ?_
      refine p_val (r_move (v := .int .i64 (s1.2.2)) q15) ?_
      refine p_val (r_add (r := w64 (s1.2.2 + 1)) rfl rfl rfl) ?_
      refine p_val (r_assign (v := .int .i64 ((w64 (s1.2.2 + 1)))) rfl) ?_
      refine wpList_nil ?_
      refine x_norm ?_
      replace H : HS ⟨S, [], w⟩ S w3 [] := H
      obtain rfl := Option.some.inj hF2
      exact ⟨(t2.1, t2.2, (w64 (s1.2.2 + 1))), _, rfl, (by (repeat (refine keep_cons rfl ?_)); refine keep_sub k8 rfl ?_; (repeat (refine keep_cons rfl ?_)); refine keep_name k5 ?_; (repeat (refine keep_cons rfl ?_)); refine keep_sub k3 rfl ?_; (repeat (refine keep_cons rfl ?_)); exact fun _ _ => rfl), ⟨q11, q12, rfl, H⟩, hh1⟩
    refine wp_block ?_
    refine wp_seq_k ?_; intro K8 hK8
    refine wp_region_lit ?_
    refine p_val (r_move (v := v0_) ((k5 0).trans q4)) ?_
    refine p_val (r_move (v := .int .i64 (s1.2.2)) ((k5 8).trans q3)) ?_
    obtain ⟨y1, e1, hE3⟩ := bnd hE3
    obtain ⟨b1, o4, N1, c1, cs1, hv1, hi1, hc2, hr1⟩ := h0_.get (idx_some e1).2
    refine p_val (r_addrV (i := (s1.2.2 : Int).toNat) u28 tsz34 rfl hv1 rfl (idx_some e1).1 hi1) ?_
    obtain ⟨c2, c3, rfl, g1, g2⟩ := elP hr1
    obtain rfl := elT g1
    obtain rfl := elT g2
    refine p_val (r_field fa34_0 rfl) ?_
    refine p_val (s_load1 (p := (o4 + (s1.2.2 : Int).toNat * 2)) (o := 0) (v := str (y1.1)) to9 H.sub rfl hc2 rfl) ?_
    refine p_val (r_move (v := str (x1)) ((k5 1).trans q5)) ?_
    refine p_val (r_eqT (t := (y1.1 == x1)) rfl rfl rfl) ?_
    refine wpList_nil ?_
    refine x_norm ?_; refine hK8 _ _ ?_; clear hK8
    refine c_split (t := (y1.1 == x1)) rfl (fun hc3 => ?_) (fun hc3 => ?_)
    · replace hE3 := cnd_t hE3 hc3
      refine wp_seq_k ?_; intro K9 hK9
      refine nameF fun m5 k6 => ?_
      obtain ⟨t3, hE4, hF3⟩ := bnd hE3
      have J1 : ∀ (m6 : FM) (w2 : World), (∀ t, has [6, 22, 23, 24, 25, 26, 27, 28] t = false → look m6 t = look m5 t) → look m6 6 = str (t3) → HS ⟨S, [], w⟩ S w2 [] → K9 (fr 33 m6) w2 := by
        clear H; intro m6 w2 k7 q6 H
        have q7 : look m6 0 = v0_ := (k7 0 rfl).trans ((k6 0).trans ((k5 0).trans q4))
        have q8 : look m6 1 = str (x1) := (k7 1 rfl).trans ((k6 1).trans ((k5 1).trans q5))
        have q9 : look m6 7 = .int .i64 (s1.2.1) := (k7 7 rfl).trans ((k6 7).trans ((k5 7).trans q2))
        have q10 : look m6 8 = .int .i64 (s1.2.2) := (k7 8 rfl).trans ((k6 8).trans ((k5 8).trans q3))
        refine hK9 _ _ ?_
        refine wp_region_lit ?_
        refine p_val (r_move (v := .int .i64 (s1.2.1)) q9) ?_
        refine p_val (r_add (r := w64 (s1.2.1 + 1)) rfl rfl rfl) ?_
        refine p_val (r_assign (v := .int .i64 ((w64 (s1.2.1 + 1)))) rfl) ?_
        refine wpList_nil ?_
        refine b_norm ?_
        refine x_norm ?_
        replace H : HS ⟨S, [], w⟩ S w2 [] := H
        obtain rfl := Option.some.inj hF3
        exact J2 _ _ (by (repeat (refine keep_cons rfl ?_)); refine keep_sub k7 rfl ?_; (repeat (refine keep_cons rfl ?_)); refine keep_name k6 ?_; (repeat (refine keep_cons rfl ?_)); exact fun _ _ => rfl) q6 rfl H
      refine wp_seq_k ?_; intro K10 hK10
      refine wp_region_lit ?_
      refine p_val (r_move (v := .int .i64 (s1.2.1)) ((k6 7).trans ((k5 7).trans q2))) ?_
      refine p_val (r_eql (t := (s1.2.1 == 0)) rfl rfl rfl) ?_
      refine wpList_nil ?_
      refine x_norm ?_; refine hK10 _ _ ?_; clear hK10
      refine c_split (t := (s1.2.1 == 0)) rfl (fun hc4 => ?_) (fun hc4 => ?_)
      · replace hE4 := cnd_t hE4 hc4
        refine wp_region_lit ?_
        refine p_val (r_move (v := v0_) ((k6 0).trans ((k5 0).trans q4))) ?_
        refine p_val (r_move (v := .int .i64 (s1.2.2)) ((k6 8).trans ((k5 8).trans q3))) ?_
        obtain ⟨y2, e2, hE4⟩ := bnd hE4
        obtain ⟨b2, o6, N2, c4, cs2, hv2, hi2, hc5, hr2⟩ := h0_.get (idx_some e2).2
        refine p_val (r_addrV (i := (s1.2.2 : Int).toNat) u28 tsz34 rfl hv2 rfl (idx_some e2).1 hi2) ?_
        obtain ⟨c5, c6, rfl, g3, g4⟩ := elP hr2
        obtain rfl := elT g3
        obtain rfl := elT g4
        refine p_val (r_field fa34_1 rfl) ?_
        refine p_val (s_load1 (p := (o6 + (s1.2.2 : Int).toNat * 2)) (o := 1) (v := str (y2.2)) to9 H.sub rfl hc5 rfl) ?_
        refine p_val (r_assign (v := str (y2.2)) rfl) ?_
        refine wpList_nil ?_
        refine x_norm ?_
        replace H : HS ⟨S, [], w⟩ S w1 [] := H
        obtain rfl := Option.some.inj hE4
        exact J1 _ _ (by (repeat (refine keep_cons rfl ?_)); exact fun _ _ => rfl) rfl H
      · replace hE4 := cnd_f hE4 hc4
        refine wp_skip ?_
        refine x_norm ?_
        replace H : HS ⟨S, [], w⟩ S w1 [] := H
        obtain rfl := Option.some.inj hE4
        exact J1 _ _ (by (repeat (refine keep_cons rfl ?_)); exact fun _ _ => rfl) ((k6 6).trans ((k5 6).trans q1)) H
    · replace hE3 := cnd_f hE3 hc3
      refine wp_skip ?_
      refine b_norm ?_
      refine x_norm ?_
      replace H : HS ⟨S, [], w⟩ S w1 [] := H
      obtain rfl := Option.some.inj hE3
      exact J2 _ _ (by (repeat (refine keep_cons rfl ?_)); exact fun _ _ => rfl) ((k5 6).trans q1) ((k5 7).trans q2) H
  · replace hb1 := cnd_f hb1 hc1
    refine wp_exit ?_
    refine x_exit ?_
    refine x_exit ?_
    refine b_hit ?_
    refine x_norm ?_
    replace H : HS ⟨S, [], w⟩ S w1 [] := H
    obtain rfl := Option.some.inj hb1
    obtain rfl := Option.some.inj hh1
    obtain rfl := Option.some.inj hE2
    exact J3 _ _ (by (repeat (refine keep_cons rfl ?_)); refine keep_sub k3 rfl ?_; (repeat (refine keep_cons rfl ?_)); refine keep_name k2 ?_; (repeat (refine keep_cons rfl ?_)); exact fun _ _ => rfl) q1 q2 H
def seneschalref01_Form_b0 (x0 : List ((List UInt8) × (List UInt8))) (s1 : (List UInt8) × Int) : Option (((List UInt8) × Int) ⊕ ((List UInt8))) :=
  bif decide (s1.2 < ((x0).length : Int)) then (Option.bind (bif decide ((0 : Int) < s1.2) then (Option.bind (app s1.1 ([38] : List UInt8)) fun y1 => some (y1)) else (some (s1.1))) (fun t2 => Option.bind (idx x0 s1.2) fun y2 => Option.bind (seneschalref01_word_p y2.1) fun y3 => Option.bind (app y3 ([61] : List UInt8)) fun y4 => Option.bind (idx x0 s1.2) fun y5 => Option.bind (seneschalref01_word_p y5.2) fun y6 => Option.bind (app y4 y6) fun y7 => Option.bind (app t2 y7) fun y8 => some (.inl ((y8, (w64 (s1.2 + 1))))))) else (some (.inr (s1.1)))
def seneschalref01_Form_p (x0 : List ((List UInt8) × (List UInt8))) : Option ((List UInt8) × Int) :=
  bif decide ((64 : Int) < ((x0).length : Int)) then (some ((([] : List UInt8), 14))) else (Option.bind (Option.bind (iter (seneschalref01_Form_b0 x0) ((([] : List UInt8), 0))) (fun e => some (e))) (fun t1 => bif decide ((8192 : Int) < ((t1).length : Int)) then (some ((([] : List UInt8), 14))) else (some ((t1, 0)))))
theorem seneschalref01_Form_c {S : Mem} {w : World} (hS : Sub S w) {v0_ : Value} {x0 : List ((List UInt8) × (List UInt8))} (h0_ : RdS S v0_ x0) {r : (List UInt8) × Int} (hF : seneschalref01_Form_p x0 = some r) :
    Calls Tryd.prog 25 #[v0_] w fun e w' => e = .returned (.tuple #[str (r.1), .int .i64 (r.2)]) ∧ Ext w w' := by
  refine enter (n := 39) Tryd.func25 rfl rfl rfl ?_
  have H := HS.start hS
  unfold seneschalref01_Form_p at hF
  refine wp_seq_k ?_; intro K1 hK1
  refine wp_region_lit ?_
  refine p_val (r_assign (v := str (([] : List UInt8))) rfl) ?_
  refine p_val (r_assign (v := .int .i64 (0)) rfl) ?_
  refine wpList_nil ?_
  refine x_norm ?_; refine hK1 _ _ ?_; clear hK1
  refine wp_seq_k ?_; intro K2 hK2
  refine wp_seq_k ?_; intro K3 hK3
  refine wp_region_lit ?_
  refine p_val (r_move (v := v0_) rfl) ?_
  refine p_val (r_lenR' u28 rfl h0_ H.sub) ?_
  refine p_val (r_gtr (t := decide ((64 : Int) < ((x0).length : Int))) rfl rfl rfl) ?_
  refine wpList_nil ?_
  refine x_norm ?_; refine hK3 _ _ ?_; clear hK3
  refine c_split (t := decide ((64 : Int) < ((x0).length : Int))) rfl (fun hc1 => ?_) (fun hc1 => ?_)
  · replace hF := cnd_t hF hc1
    refine wp_seq_k ?_; intro K4 hK4
    refine wp_region_lit ?_
    refine p_val (r_assign (v := str (([] : List UInt8))) rfl) ?_
    refine p_val (r_assign (v := .int .i64 (14)) rfl) ?_
    refine wpList_nil ?_
    refine x_norm ?_; refine hK4 _ _ ?_; clear hK4
    refine wp_ret ?_
    refine x_ret ?_
    obtain rfl := Option.some.inj hF
    refine e_2 rfl (q_tmp (v := str (([] : List UInt8))) rfl) (q_tmp (v := .int .i64 (14)) rfl) ?_
    exact ⟨rfl, H.toExt⟩
  · replace hF := cnd_f hF hc1
    refine wp_skip ?_
    refine x_norm ?_; refine hK2 _ _ ?_; clear hK2
    refine wp_seq_k ?_; intro K5 hK5
    refine wp_region_lit ?_
    refine p_val (r_assign (v := str (([] : List UInt8))) rfl) ?_
    refine wpList_nil ?_
    refine x_norm ?_; refine hK5 _ _ ?_; clear hK5
    refine wp_seq_k ?_; intro K6 hK6
    refine nameF fun m1 k1 => ?_
    obtain ⟨t1, hE1, hF1⟩ := bnd hF
    have J2 : ∀ (m6 : FM) (w4 : World), (∀ t, has [4, 5, 9, 10, 11, 12, 13, 14, 15, 16, 17, 18, 19, 20, 21, 22, 23, 24, 25, 26, 27, 28, 29, 30, 31, 32, 33, 34] t = false → look m6 t = look m1 t) → look m6 4 = str (t1) → HS ⟨S, [], w⟩ S w4 [] → K6 (fr 39 m6) w4 := by
      clear H; intro m6 w4 k7 q7 H
      refine hK6 _ _ ?_
      refine wp_seq_k ?_; intro K13 hK13
      refine wp_seq_k ?_; intro K14 hK14
      refine wp_region_lit ?_
      refine p_val (r_move (v := str (t1)) q7) ?_
      refine p_val (r_lenT (N := (t1).length) u9 rfl rfl) ?_
      refine p_val (r_gtr (t := decide ((8192 : Int) < ((t1).length : Int))) rfl rfl rfl) ?_
      refine wpList_nil ?_
      refine x_norm ?_; refine hK14 _ _ ?_; clear hK14
      refine c_split (t := decide ((8192 : Int) < ((t1).length : Int))) rfl (fun hc6 => ?_) (fun hc6 => ?_)
      · replace hF1 := cnd_t hF1 hc6
        refine wp_seq_k ?_; intro K15 hK15
        refine wp_region_lit ?_
        refine p_val (r_assign (v := str (([] : List UInt8))) rfl) ?_
        refine p_val (r_assign (v := .int .i64 (14)) rfl) ?_
        refine wpList_nil ?_
        refine x_norm ?_; refine hK15 _ _ ?_; clear hK15
        refine wp_ret ?_
        refine x_ret ?_
        obtain rfl := Option.some.inj hF1
        refine e_2 rfl (q_tmp (v := str (([] : List UInt8))) rfl) (q_tmp (v := .int .i64 (14)) rfl) ?_
        exact ⟨rfl, H.toExt⟩
      · replace hF1 := cnd_f hF1 hc6
        refine wp_skip ?_
        refine x_norm ?_; refine hK13 _ _ ?_; clear hK13
        refine wp_seq_k ?_; intro K16 hK16
        refine wp_region_lit ?_
        refine p_val (r_move (v := str (t1)) q7) ?_
        refine p_val (r_assign (v := str (t1)) rfl) ?_
        refine p_val (r_assign (v := .int .i64 (0)) rfl) ?_
        refine wpList_nil ?_
        refine x_norm ?_; refine hK16 _ _ ?_; clear hK16
        refine wp_ret ?_
        obtain rfl := Option.some.inj hF1
        refine e_2 rfl (q_tmp (v := str (t1)) rfl) (q_tmp (v := .int .i64 (0)) rfl) ?_
        exact ⟨rfl, H.toExt⟩
    refine wp_seq_k ?_; intro K7 hK7
    refine wp_region_lit ?_
    refine p_val (r_assign (v := .int .i64 (0)) rfl) ?_
    refine wpList_nil ?_
    refine x_norm ?_; refine hK7 _ _ ?_; clear hK7
    refine wp_block ?_
    refine nameF fun m2 k2 => ?_
    obtain ⟨out1, hL1, hE2⟩ := bnd hE1
    replace H : HS ⟨S, [], w⟩ S w [] := H
    refine loopI [4, 5, 9, 10, 11, 12, 13, 14, 15, 16, 17, 18, 19, 20, 21, 22, 23, 24, 25, 26, 27, 28, 29, 30, 31, 32, 33, 34] (fun (s1 : (List UInt8) × Int) (m3 : FM) (w1 : World) => look m3 4 = str (s1.1) ∧ look m3 5 = .int .i64 (s1.2) ∧ HS ⟨S, [], w⟩ S w1 []) hL1 ⟨((k2 4).trans (k1 4)), (k2 5), H⟩ ?_
    clear H; intro k4 s1 m3 w1 k3 hI1 o2 hb1 hh1; obtain ⟨q1, q2, H⟩ := hI1
    have q3 : look m3 0 = v0_ := (k3 0 rfl).trans ((k2 0).trans (k1 0))
    unfold seneschalref01_Form_b0 at hb1
    refine wp_seq_k ?_; intro K8 hK8
    refine wp_seq_k ?_; intro K9 hK9
    refine wp_region_lit ?_
    refine p_val (r_move (v := .int .i64 (s1.2)) q2) ?_
    refine p_val (r_move (v := v0_) q3) ?_
    refine p_val (r_lenR' u28 rfl h0_ H.sub) ?_
    refine p_val (r_lss (t := decide (s1.2 < ((x0).length : Int))) rfl rfl rfl) ?_
    refine wpList_nil ?_
    refine x_norm ?_; refine hK9 _ _ ?_; clear hK9
    refine c_split (t := decide (s1.2 < ((x0).length : Int))) rfl (fun hc2 => ?_) (fun hc2 => ?_)
    · replace hb1 := cnd_t hb1 hc2
      refine wp_skip ?_
      refine x_norm ?_; refine hK8 _ _ ?_; clear hK8
      refine wp_seq_k ?_; intro K10 hK10
      refine wp_block ?_
      refine wp_seq_k ?_; intro K11 hK11
      refine nameF fun m4 k5 => ?_
      obtain ⟨t2, hE3, hF2⟩ := bnd hb1
      have J1 : ∀ (m5 : FM) (w2 : World), (∀ t, has [4, 15, 16, 17, 18] t = false → look m5 t = look m4 t) → look m5 4 = str (t2) → HS ⟨S, [], w⟩ S w2 [] → K11 (fr 39 m5) w2 := by
        clear H; intro m5 w2 k6 q4 H
        have q5 : look m5 0 = v0_ := (k6 0 rfl).trans ((k5 0).trans q3)
        have q6 : look m5 5 = .int .i64 (s1.2) := (k6 5 rfl).trans ((k5 5).trans q2)
        refine hK11 _ _ ?_
        obtain ⟨y2, e2, hF2⟩ := bnd hF2
        obtain ⟨b1, o4, N1, c1, cs1, hv1, hi1, hc4, hr1⟩ := h0_.get (idx_some e2).2
        obtain ⟨c2, c3, rfl, g1, g2⟩ := elP hr1
        obtain rfl := elT g1
        obtain rfl := elT g2
        obtain ⟨y3, e3, hF2⟩ := bnd hF2
        obtain ⟨y4, e4, hF2⟩ := bnd hF2
        obtain ⟨y5, e5, hF2⟩ := bnd hF2
        obtain ⟨b2, o5, N2, c4, cs2, hv2, hi2, hc5, hr2⟩ := h0_.get (idx_some e5).2
        obtain ⟨c5, c6, rfl, g3, g4⟩ := elP hr2
        obtain rfl := elT g3
        obtain rfl := elT g4
        obtain ⟨y6, e6, hF2⟩ := bnd hF2
        obtain ⟨y7, e7, hF2⟩ := bnd hF2
        obtain ⟨y8, e8, hF2⟩ := bnd hF2
        apply wp_region_ext 16 (kinds [(6, .inl (str (y3))), (13, .inl (str (y6)))]) rfl rfl (by kernel_rfl); intro vs1
        simp only [List.take_succ_cons, List.take_zero, List.drop_succ_cons, List.drop_zero]
        replace H := H.drew
        refine t_val (fun w hx => r_move (v := str (t2)) q4) rfl rfl ?_
        refine t_val (fun w hx => r_move (v := v0_) q5) rfl rfl ?_
        refine t_val (fun w hx => r_move (v := .int .i64 (s1.2)) q6) rfl rfl ?_
        refine t_val (fun w hx => r_addrV (i := (s1.2 : Int).toNat) u28 tsz34 rfl hv1 rfl (idx_some e2).1 hi1) rfl rfl ?_
        refine t_val (fun w hx => r_field fa34_0 rfl) rfl rfl ?_
        refine t_val (fun w hx => s_load1 (p := (o4 + (s1.2 : Int).toNat * 2)) (o := 0) (v := str (y2.1)) to9 (H.ext hx).sub rfl hc4 rfl) rfl rfl ?_
        refine t_call (l := [str (y2.1)]) rfl rfl is43 rfl (fun w hx hF => (seneschalref01_word_c (H.ext hx).sub e3).mono (fun _ _ ⟨he, hx⟩ => ⟨he, hx⟩)) ?_
        refine t_val (fun w hx => r_cat (r := y4) rfl rfl (by have := (app_some e4).1; omega) (app_some e4).2) rfl rfl ?_
        refine t_val (fun w hx => r_move (v := v0_) q5) rfl rfl ?_
        refine t_val (fun w hx => r_move (v := .int .i64 (s1.2)) q6) rfl rfl ?_
        refine t_val (fun w hx => r_addrV (i := (s1.2 : Int).toNat) u28 tsz34 rfl hv2 rfl (idx_some e5).1 hi2) rfl rfl ?_
        refine t_val (fun w hx => r_field fa34_1 rfl) rfl rfl ?_
        refine t_val (fun w hx => s_load1 (p := (o5 + (s1.2 : Int).toNat * 2)) (o := 1) (v := str (y5.2)) to9 (H.ext hx).sub rfl hc5 rfl) rfl rfl ?_
        refine t_call (l := [str (y5.2)]) rfl rfl is43 rfl (fun w hx hF => (seneschalref01_word_c (H.ext hx).sub e6).mono (fun _ _ ⟨he, hx⟩ => ⟨he, hx⟩)) ?_
        refine t_val (fun w hx => r_cat (r := y7) rfl rfl (by have := (app_some e7).1; omega) (app_some e7).2) rfl rfl ?_
        refine t_val (fun w hx => r_cat (r := y8) rfl rfl (by have := (app_some e8).1; omega) (app_some e8).2) rfl rfl ?_
        refine t_nil (fun w3 hx hF hA => ?_)
        replace H := H.ext hx; clear hx hF hA
        refine p_val (r_assign (v := str (y8)) rfl) ?_
        refine wpList_nil ?_; refine on_norm ?_
        refine b_norm ?_
        refine x_norm ?_; refine hK10 _ _ ?_; clear hK10
        refine wp_region_lit ?_
        refine p_val (r_move (v := .int .i64 (s1.2)) q6) ?_
        refine p_val (r_add (r := w64 (s1.2 + 1)) rfl rfl rfl) ?_
        refine p_val (r_assign (v := .int .i64 ((w64 (s1.2 + 1)))) rfl) ?_
        refine wpList_nil ?_
        refine x_norm ?_
        replace H : HS ⟨S, [], w⟩ S w3 [] := H
        obtain rfl := Option.some.inj hF2
        exact ⟨(y8, (w64 (s1.2 + 1))), _, rfl, (by (repeat (refine keep_cons rfl ?_)); refine keep_sub k6 rfl ?_; (repeat (refine keep_cons rfl ?_)); refine keep_name k5 ?_; (repeat (refine keep_cons rfl ?_)); refine keep_sub k3 rfl ?_; (repeat (refine keep_cons rfl ?_)); exact fun _ _ => rfl), ⟨rfl, rfl, H⟩, hh1⟩
      refine wp_seq_k ?_; intro K12 hK12
      refine wp_region_lit ?_
      refine p_val (r_move (v := .int .i64 (s1.2)) ((k5 5).trans q2)) ?_
      refine p_val (r_gtr (t := decide ((0 : Int) < s1.2)) rfl rfl rfl) ?_
      refine wpList_nil ?_
      refine x_norm ?_; refine hK12 _ _ ?_; clear hK12
      refine c_split (t := decide ((0 : Int) < s1.2)) rfl (fun hc3 => ?_) (fun hc3 => ?_)
      · replace hE3 := cnd_t hE3 hc3
        refine wp_region_lit ?_
        refine p_val (r_move (v := str (s1.1)) ((k5 4).trans q1)) ?_
        obtain ⟨y1, e1, hE3⟩ := bnd hE3
        refine p_val (r_cat (r := y1) rfl rfl (by have := (app_some e1).1; omega) (app_some e1).2) ?_
        refine p_val (r_assign (v := str (y1)) rfl) ?_
        refine wpList_nil ?_
        refine x_norm ?_
        replace H : HS ⟨S, [], w⟩ S w1 [] := H
        obtain rfl := Option.some.inj hE3
        exact J1 _ _ (by (repeat (refine keep_cons rfl ?_)); exact fun _ _ => rfl) rfl H
      · replace hE3 := cnd_f hE3 hc3
        refine wp_skip ?_
        refine x_norm ?_
        replace H : HS ⟨S, [], w⟩ S w1 [] := H
        obtain rfl := Option.some.inj hE3
        exact J1 _ _ (by (repeat (refine keep_cons rfl ?_)); exact fun _ _ => rfl) ((k5 4).trans q1) H
    · replace hb1 := cnd_f hb1 hc2
      refine wp_exit ?_
      refine x_exit ?_
      refine x_exit ?_
      refine b_hit ?_
      refine x_norm ?_
      replace H : HS ⟨S, [], w⟩ S w1 [] := H
      obtain rfl := Option.some.inj hb1
      obtain rfl := Option.some.inj hh1
      obtain rfl := Option.some.inj hE2
      exact J2 _ _ (by (repeat (refine keep_cons rfl ?_)); refine keep_sub k3 rfl ?_; (repeat (refine keep_cons rfl ?_)); refine keep_name k2 ?_; (repeat (refine keep_cons rfl ?_)); exact fun _ _ => rfl) q1 H
def seneschalref01_FromForm_b0 (x0 : List UInt8) (s1 : Int × Int × (List (List UInt8))) : Option ((Int × Int × (List (List UInt8))) ⊕ ((List (List UInt8)))) :=
  bif decide (s1.2.1 ≤ ((x0).length : Int)) then (Option.bind (Option.bind (bif (s1.2.1 == ((x0).length : Int)) then (some (true)) else (Option.bind (idx x0 s1.2.1) fun y1 => some ((((y1).toNat : Int) == 38)))) (fun t3 => bif t3 then (Option.bind (sub3 x0 s1.1 s1.2.1) fun y2 => Option.bind (app s1.2.2 ([y2] : List (List UInt8))) fun y3 => some (((w64 (s1.2.1 + 1)), y3))) else (some ((s1.1, s1.2.2))))) (fun t2 => some (.inl ((t2.1, (w64 (s1.2.1 + 1)), t2.2))))) else (some (.inr (s1.2.2)))
def seneschalref01_FromForm_b2 (y4 : List UInt8) (s3 : Int) : Option ((Int) ⊕ (Int)) :=
  Option.bind (bif decide (s3 < ((y4).length : Int)) then (Option.bind (idx y4 s3) fun y5 => some ((((y5).toNat : Int) != 61))) else (some (false))) (fun t7 => bif t7 then (some (.inl ((w64 (s3 + 1))))) else (some (.inr (s3))))
def seneschalref01_FromForm_b1 (t1 : (List (List UInt8))) (s2 : Int × (List ((List UInt8) × (List UInt8)))) : Option ((Int × (List ((List UInt8) × (List UInt8)))) ⊕ (((List ((List UInt8) × (List UInt8))) × Int) ⊕ ((List ((List UInt8) × (List UInt8)))))) :=
  bif decide (s2.1 < ((t1).length : Int)) then (jn (Option.bind (idx t1 s2.1) fun y4 => bif (y4 == ([] : List UInt8)) then (some (.inr ((([] : List ((List UInt8) × (List UInt8))), 13)))) else (Option.bind (Option.bind (iter (seneschalref01_FromForm_b2 y4) (0)) (fun e => some (e))) (fun t6 => Option.bind (bif decide (t6 < ((y4).length : Int)) then (Option.bind (subL y4 (w64 (t6 + 1))) fun y6 => some (y6)) else (some (([] : List UInt8)))) (fun t8 => Option.bind (subH y4 t6) fun y7 => Option.bind (seneschalref01_swap_p y7 (43 : UInt8) (32 : UInt8)) fun y8 => Option.bind (seneschalref01_FromPercent_p y8) fun y9 => Option.bind (seneschalref01_swap_p t8 (43 : UInt8) (32 : UInt8)) fun y10 => Option.bind (seneschalref01_FromPercent_p y10) fun y11 => bif (bif (y9.2 != 0) then true else (y11.2 != 0)) then (some (.inr ((([] : List ((List UInt8) × (List UInt8))), 12)))) else (Option.bind (app s2.2 ([(y9.1, y11.1)] : List ((List UInt8) × (List UInt8)))) fun y12 => some (.inl (y12))))))) (fun t5 => some (.inl (((w64 (s2.1 + 1)), t5)))) (fun e => some (.inr (.inl (e))))) else (some (.inr (.inr (s2.2))))
def seneschalref01_FromForm_p (x0 : List UInt8) : Option ((List ((List UInt8) × (List UInt8))) × Int) :=
  bif decide ((8192 : Int) < ((x0).length : Int)) then (some ((([] : List ((List UInt8) × (List UInt8))), 14))) else (bif (x0 == ([] : List UInt8)) then (some ((([] : List ((List UInt8) × (List UInt8))), 0))) else (Option.bind (Option.bind (iter (seneschalref01_FromForm_b0 x0) ((0, 0, ([] : List (List UInt8))))) (fun e => some (e))) (fun t1 => bif decide ((64 : Int) < ((t1).length : Int)) then (some ((([] : List ((List UInt8) × (List UInt8))), 14))) else (jn (Option.bind (iter (seneschalref01_FromForm_b1 t1) ((0, ([] : List ((List UInt8) × (List UInt8)))))) (fun e => jnO e (fun e1 => some (.inr (e1))) (fun e2 => some (.inl (e2))))) (fun t4 => some ((t4, 0))) (fun e => some (e))))))
theorem seneschalref01_FromForm_c {S : Mem} {w : World} (hS : Sub S w) {x0 : List UInt8} {r : (List ((List UInt8) × (List UInt8))) × Int} (hF : seneschalref01_FromForm_p x0 = some r) :
    Calls Tryd.prog 27 #[str (x0)] w fun e w' => Ext w w' ∧ ∃ (v0' : Value), e = .returned (.tuple #[v0', .int .i64 (r.2)]) ∧ RdS (gr S w w') v0' r.1 := by
  refine enter (n := 110) Tryd.func27 rfl rfl rfl ?_
  have H := HS.start hS
  unfold seneschalref01_FromForm_p at hF
  refine wp_seq_k ?_; intro K1 hK1
  refine wp_region_lit ?_
  refine p_val (r_assign (v := .slice none 0 0) rfl) ?_
  refine p_val (r_assign (v := .int .i64 (0)) rfl) ?_
  refine wpList_nil ?_
  refine x_norm ?_; refine hK1 _ _ ?_; clear hK1
  refine wp_seq_k ?_; intro K2 hK2
  refine wp_seq_k ?_; intro K3 hK3
  refine wp_region_lit ?_
  refine p_val (r_move (v := str (x0)) rfl) ?_
  refine p_val (r_lenT (N := (x0).length) u9 rfl rfl) ?_
  refine p_val (r_gtr (t := decide ((8192 : Int) < ((x0).length : Int))) rfl rfl rfl) ?_
  refine wpList_nil ?_
  refine x_norm ?_; refine hK3 _ _ ?_; clear hK3
  refine c_split (t := decide ((8192 : Int) < ((x0).length : Int))) rfl (fun hc1 => ?_) (fun hc1 => ?_)
  · replace hF := cnd_t hF hc1
    refine wp_seq_k ?_; intro K4 hK4
    refine wp_region_lit ?_
    refine p_val (r_assign (v := .slice none 0 0) rfl) ?_
    refine p_val (r_assign (v := .int .i64 (14)) rfl) ?_
    refine wpList_nil ?_
    refine x_norm ?_; refine hK4 _ _ ?_; clear hK4
    refine wp_ret ?_
    refine x_ret ?_
    obtain rfl := Option.some.inj hF
    refine e_2 rfl (q_tmp (v := .slice none 0 0) rfl) (q_tmp (v := .int .i64 (14)) rfl) ?_
    exact ⟨H.toExt, _, rfl, RdS.mono RdS.nil H.gr⟩
  · replace hF := cnd_f hF hc1
    refine wp_skip ?_
    refine x_norm ?_; refine hK2 _ _ ?_; clear hK2
    refine wp_seq_k ?_; intro K5 hK5
    refine wp_seq_k ?_; intro K6 hK6
    refine wp_region_lit ?_
    refine p_val (r_move (v := str (x0)) rfl) ?_
    refine p_val (r_eqT (t := (x0 == ([] : List UInt8))) rfl rfl rfl) ?_
    refine wpList_nil ?_
    refine x_norm ?_; refine hK6 _ _ ?_; clear hK6
    refine c_split (t := (x0 == ([] : List UInt8))) rfl (fun hc2 => ?_) (fun hc2 => ?_)
    · replace hF := cnd_t hF hc2
      refine wp_seq_k ?_; intro K7 hK7
      refine wp_region_lit ?_
      refine p_val (r_assign (v := .slice none 0 0) rfl) ?_
      refine p_val (r_assign (v := .int .i64 (0)) rfl) ?_
      refine wpList_nil ?_
      refine x_norm ?_; refine hK7 _ _ ?_; clear hK7
      refine wp_ret ?_
      refine x_ret ?_
      obtain rfl := Option.some.inj hF
      refine e_2 rfl (q_tmp (v := .slice none 0 0) rfl) (q_tmp (v := .int .i64 (0)) rfl) ?_
      exact ⟨H.toExt, _, rfl, RdS.mono RdS.nil H.gr⟩
    · replace hF := cnd_f hF hc2
      refine wp_skip ?_
      refine x_norm ?_; refine hK5 _ _ ?_; clear hK5
      refine wp_seq_k ?_; intro K8 hK8
      refine wp_region_lit ?_
      have g1 : RL S ([] : List Value) ([] : List (List UInt8)) := RL.nil
      refine p_of1 (a_bslice (N := 0) (vals := []) (l := ([] : List Value)) tn39 H rfl rfl rfl g1.len) ?_; clear H; intro w1 v1 H
      replace H : HS ⟨S, [], w⟩ S w1 [.osl (v1) (([] : List (List UInt8))).length 1 ([] : List Value) [] 9] := H
      refine p_val (r_assign (v := v1) rfl) ?_
      refine wpList_nil ?_
      refine x_norm ?_; refine hK8 _ _ ?_; clear hK8
      refine wp_seq_k ?_; intro K9 hK9
      refine wp_region_lit ?_
      refine p_val (r_assign (v := .int .i64 (0)) rfl) ?_
      refine wpList_nil ?_
      refine x_norm ?_; refine hK9 _ _ ?_; clear hK9
      refine wp_seq_k ?_; intro K10 hK10
      refine nameF fun m1 k1 => ?_
      obtain ⟨t1, hE1, hF1⟩ := bnd hF
      have J9 : ∀ (v6 : Value) (cs6 rs4 : List Value) (m8 : FM) (w7 : World), (∀ t, has [4, 5, 6, 22, 23, 24, 25, 26, 27, 28, 29, 30, 31, 32, 33, 34, 35, 36, 37, 38, 39, 40, 41, 42, 43, 44, 45, 46] t = false → look m8 t = look m1 t) → look m8 4 = v6 → HS ⟨S, [], w⟩ S w7 [.osl (v6) (t1).length 1 cs6 rs4 9] → RL S cs6 t1 → K10 (fr 110 m8) w7 := by
        clear H; intro v6 cs6 rs4 m8 w7 k9 q14 H g6
        refine hK10 _ _ ?_
        refine wp_seq_k ?_; intro K18 hK18
        refine wp_seq_k ?_; intro K19 hK19
        refine wp_region_lit ?_
        refine p_val (r_move (v := v6) q14) ?_
        refine p_val (r_lenO u39 rfl H (k := 0) rfl rfl) ?_
        refine p_val (r_gtr (t := decide ((64 : Int) < ((t1).length : Int))) rfl rfl rfl) ?_
        refine wpList_nil ?_
        refine x_norm ?_; refine hK19 _ _ ?_; clear hK19
        refine c_split (t := decide ((64 : Int) < ((t1).length : Int))) rfl (fun hc5 => ?_) (fun hc5 => ?_)
        · replace hF1 := cnd_t hF1 hc5
          refine wp_seq_k ?_; intro K20 hK20
          refine wp_region_lit ?_
          refine p_val (r_assign (v := .slice none 0 0) rfl) ?_
          refine p_val (r_assign (v := .int .i64 (14)) rfl) ?_
          refine wpList_nil ?_
          refine x_norm ?_; refine hK20 _ _ ?_; clear hK20
          refine wp_ret ?_
          refine x_ret ?_
          obtain rfl := Option.some.inj hF1
          refine e_2 rfl (q_tmp (v := .slice none 0 0) rfl) (q_tmp (v := .int .i64 (14)) rfl) ?_
          exact ⟨H.toExt, _, rfl, RdS.mono RdS.nil H.gr⟩
        · replace hF1 := cnd_f hF1 hc5
          refine wp_skip ?_
          refine x_norm ?_; refine hK18 _ _ ?_; clear hK18
          refine wp_seq_k ?_; intro K21 hK21
          refine wp_region_lit ?_
          have g7 : RL S ([] : List Value) ([] : List ((List UInt8) × (List UInt8))) := RL.nil
          refine p_of1 (a_bslice (N := 0) (vals := []) (l := ([] : List Value)) tn28 H rfl rfl rfl g7.len) ?_; clear H; intro w8 v7 H
          replace H : HS ⟨S, [], w⟩ S w8 [.osl (v7) (([] : List ((List UInt8) × (List UInt8)))).length 2 ([] : List Value) [] 34, .osl (v6) (t1).length 1 cs6 rs4 9] := H
          refine p_val (r_assign (v := v7) rfl) ?_
          refine wpList_nil ?_
          refine x_norm ?_; refine hK21 _ _ ?_; clear hK21
          refine wp_seq_k ?_; intro K22 hK22
          refine nameF fun m9 k10 => ?_
          obtain ⟨o5, hE5, hF4⟩ := jn_some hF1
          have J8 : ∀ (t4 : (List ((List UInt8) × (List UInt8)))) (v12 : Value) (cs13 rs8 : List Value) (m24 : FM) (w21 : World), o5 = .inl t4 → (∀ t, has [2, 3, 7, 8, 9, 10, 11, 12, 13, 14, 15, 51, 52, 53, 54, 55, 56, 57, 58, 59, 60, 61, 62, 63, 64, 65, 66, 67, 68, 69, 70, 71, 72, 73, 74, 75, 76, 77, 78, 79, 80, 81, 82, 83, 84, 85, 86, 87, 88, 89, 90, 91, 92, 93, 94, 95, 96, 97, 98, 99, 100, 101, 102, 103, 104, 105, 106, 107, 108] t = false → look m24 t = look m9 t) → look m24 7 = v12 → HS ⟨S, [], w⟩ S w21 [.osl (v12) (t4).length 2 cs13 rs8 34, .osl (v6) (t1).length 1 cs6 rs4 9] → RL S cs13 t4 → K22 (fr 110 m24) w21 := by
            clear H; intro t4 v12 cs13 rs8 m24 w21 ho k27 q49 H g12
            replace hF4 := jnO_l hF4 ho
            refine hK22 _ _ ?_
            refine wp_seq_k ?_; intro K45 hK45
            refine wp_region_lit ?_
            refine p_val (r_move (v := v12) q49) ?_
            refine p_val (r_assign (v := v12) rfl) ?_
            refine p_val (r_assign (v := .int .i64 (0)) rfl) ?_
            refine wpList_nil ?_
            refine x_norm ?_; refine hK45 _ _ ?_; clear hK45
            refine wp_ret ?_
            obtain ⟨S1, hle1, g13, H1⟩ := H.fixX (k := 0) rfl g12; clear H; have H := H1; clear H1
            replace g6 := RL.mono g6 hle1
            replace H : HS ⟨S, [], w⟩ S1 w21 [.osl (v6) (t1).length 1 cs6 rs4 9] := H
            obtain rfl := Option.some.inj hF4
            refine e_2 rfl (q_tmp (v := v12) rfl) (q_tmp (v := .int .i64 (0)) rfl) ?_
            exact ⟨H.toExt, _, rfl, RdS.mono g13 H.gr⟩
          refine wp_seq_k ?_; intro K23 hK23
          refine wp_region_lit ?_
          refine p_val (r_assign (v := .int .i64 (0)) rfl) ?_
          refine wpList_nil ?_
          refine x_norm ?_; refine hK23 _ _ ?_; clear hK23
          refine wp_block ?_
          refine nameF fun m10 k11 => ?_
          obtain ⟨out2, hL2, hE6⟩ := bnd hE5
          replace H : HS ⟨S, [], w⟩ S w8 [.osl (v7) (([] : List ((List UInt8) × (List UInt8)))).length 2 ([] : List Value) [] 34, .osl (v6) (t1).length 1 cs6 rs4 9] := H
          refine loopI [2, 3, 7, 8, 9, 10, 11, 12, 13, 14, 15, 51, 52, 53, 54, 55, 56, 57, 58, 59, 60, 61, 62, 63, 64, 65, 66, 67, 68, 69, 70, 71, 72, 73, 74, 75, 76, 77, 78, 79, 80, 81, 82, 83, 84, 85, 86, 87, 88, 89, 90, 91, 92, 93, 94, 95, 96, 97, 98, 99, 100, 101, 102, 103, 104, 105, 106, 107, 108] (fun (s2 : Int × (List ((List UInt8) × (List UInt8)))) (m11 : FM) (w9 : World) => ∃ (v8 : Value) (cs8 rs5 : List Value), look m11 7 = v8 ∧ look m11 8 = .int .i64 (s2.1) ∧ HS ⟨S, [], w⟩ S w9 [.osl (v8) (s2.2).length 2 cs8 rs5 34, .osl (v6) (t1).length 1 cs6 rs4 9] ∧ RL S cs8 s2.2) hL2 ⟨_, _, _, (show _ = (v7 : Value) from ((k11 7).trans (k10 7))), (k11 8), H, g7⟩ ?_
          clear H; intro k13 s2 m11 w9 k12 hI2 o6 hb3 hh2; obtain ⟨v8, cs8, rs5, q15, q16, H, g8⟩ := hI2
          have q17 : look m11 4 = v6 := (k12 4 rfl).trans ((k11 4).trans ((k10 4).trans q14))
          unfold seneschalref01_FromForm_b1 at hb3
          refine wp_seq_k ?_; intro K24 hK24
          refine wp_seq_k ?_; intro K25 hK25
          refine wp_region_lit ?_
          refine p_val (r_move (v := .int .i64 (s2.1)) q16) ?_
          refine p_val (r_move (v := v6) q17) ?_
          refine p_val (r_lenO u39 rfl H (k := 1) rfl rfl) ?_
          refine p_val (r_lss (t := decide (s2.1 < ((t1).length : Int))) rfl rfl rfl) ?_
          refine wpList_nil ?_
          refine x_norm ?_; refine hK25 _ _ ?_; clear hK25
          refine c_split (t := decide (s2.1 < ((t1).length : Int))) rfl (fun hc6 => ?_) (fun hc6 => ?_)
          · replace hb3 := cnd_t hb3 hc6
            refine wp_skip ?_
            refine x_norm ?_; refine hK24 _ _ ?_; clear hK24
            refine wp_seq_k ?_; intro K26 hK26
            refine nameF fun m12 k14 => ?_
            obtain ⟨o7, hE7, hF5⟩ := jn_some hb3
            have J7 : ∀ (t5 : (List ((List UInt8) × (List UInt8)))) (v11 : Value) (cs12 rs7 : List Value) (m23 : FM) (w20 : World), o7 = .inl t5 → (∀ t, has [2, 3, 7, 9, 10, 11, 12, 13, 14, 15, 57, 58, 59, 60, 61, 62, 63, 64, 65, 66, 67, 68, 69, 70, 71, 72, 73, 74, 75, 76, 77, 78, 79, 80, 81, 82, 83, 84, 85, 86, 87, 88, 89, 90, 91, 92, 93, 94, 95, 96, 97, 98, 99, 100, 101, 102, 103, 104, 105, 106, 107, 108] t = false → look m23 t = look m12 t) → look m23 7 = v11 → HS ⟨S, [], w⟩ S w20 [.osl (v11) (t5).length 2 cs12 rs7 34, .osl (v6) (t1).length 1 cs6 rs4 9] → RL S cs12 t5 → K26 (fr 110 m23) w20 := by
              clear H; intro t5 v11 cs12 rs7 m23 w20 ho k26 q46 H g11
              replace hF5 := jnO_l hF5 ho
              have q47 : look m23 4 = v6 := (k26 4 rfl).trans ((k14 4).trans q17)
              have q48 : look m23 8 = .int .i64 (s2.1) := (k26 8 rfl).trans ((k14 8).trans q16)
              refine hK26 _ _ ?_
              refine wp_region_lit ?_
              refine p_val (r_move (v := .int .i64 (s2.1)) q48) ?_
              refine p_val (r_add (r := w64 (s2.1 + 1)) rfl rfl rfl) ?_
              refine p_val (r_assign (v := .int .i64 ((w64 (s2.1 + 1)))) rfl) ?_
              refine wpList_nil ?_
              refine x_norm ?_
              replace H : HS ⟨S, [], w⟩ S w20 [.osl (v11) (t5).length 2 cs12 rs7 34, .osl (v6) (t1).length 1 cs6 rs4 9] := H
              obtain rfl := Option.some.inj hF5
              exact ⟨((w64 (s2.1 + 1)), t5), _, rfl, (by (repeat (refine keep_cons rfl ?_)); refine keep_sub k26 rfl ?_; (repeat (refine keep_cons rfl ?_)); refine keep_name k14 ?_; (repeat (refine keep_cons rfl ?_)); refine keep_sub k12 rfl ?_; (repeat (refine keep_cons rfl ?_)); exact fun _ _ => rfl), ⟨_, _, _, (show _ = (v11 : Value) from q46), rfl, H, g11⟩, hh2⟩
            refine wp_block ?_
            refine wp_seq_k ?_; intro K27 hK27
            refine wp_region_lit ?_
            refine p_val (r_move (v := v6) ((k14 4).trans q17)) ?_
            refine p_val (r_move (v := .int .i64 (s2.1)) ((k14 8).trans q16)) ?_
            obtain ⟨y4, e4, hE7⟩ := bnd hE7
            obtain ⟨b1, c1, hv1⟩ := H.ownAt (k := 1) rfl (idx_lt e4)
            refine p_val (r_addrV (i := (s2.1 : Int).toNat) u39 tsz9 rfl hv1 rfl (idx_some e4).1 (idx_lt e4)) ?_
            subst hv1
            have hr1 := RL.get g6 (idx_some e4).2; generalize hghr1 : piece cs6 _ _ = cs9 at hr1
            obtain rfl := elT hr1
            refine p_val (o_load1 (v := str (y4)) to9 H (k := 1) rfl rfl (idx_lt e4) hghr1) ?_
            refine p_val (r_assign (v := str (y4)) rfl) ?_
            refine wpList_nil ?_
            refine x_norm ?_; refine hK27 _ _ ?_; clear hK27
            refine wp_seq_k ?_; intro K28 hK28
            refine wp_seq_k ?_; intro K29 hK29
            refine wp_region_lit ?_
            refine p_val (r_move (v := str (y4)) rfl) ?_
            refine p_val (r_eqT (t := (y4 == ([] : List UInt8))) rfl rfl rfl) ?_
            refine wpList_nil ?_
            refine x_norm ?_; refine hK29 _ _ ?_; clear hK29
            refine c_split (t := (y4 == ([] : List UInt8))) rfl (fun hc7 => ?_) (fun hc7 => ?_)
            · replace hE7 := cnd_t hE7 hc7
              refine wp_seq_k ?_; intro K30 hK30
              refine wp_region_lit ?_
              refine p_val (r_assign (v := .slice none 0 0) rfl) ?_
              refine p_val (r_assign (v := .int .i64 (13)) rfl) ?_
              refine wpList_nil ?_
              refine x_norm ?_; refine hK30 _ _ ?_; clear hK30
              refine wp_ret ?_
              refine x_ret ?_
              refine b_ret ?_
              refine x_ret ?_
              refine x_ret ?_
              refine b_ret ?_
              refine x_ret ?_
              obtain rfl := Option.some.inj hE7
              obtain rfl := Option.some.inj hF5
              obtain rfl := Option.some.inj hh2
              obtain rfl := Option.some.inj hE6
              obtain rfl := Option.some.inj hF4
              refine e_2 rfl (q_tmp (v := .slice none 0 0) rfl) (q_tmp (v := .int .i64 (13)) rfl) ?_
              exact ⟨H.toExt, _, rfl, RdS.mono RdS.nil H.gr⟩
            · replace hE7 := cnd_f hE7 hc7
              refine wp_skip ?_
              refine x_norm ?_; refine hK28 _ _ ?_; clear hK28
              refine wp_seq_k ?_; intro K31 hK31
              refine wp_region_lit ?_
              refine p_val (r_assign (v := .int .i64 (0)) rfl) ?_
              refine wpList_nil ?_
              refine x_norm ?_; refine hK31 _ _ ?_; clear hK31
              refine wp_seq_k ?_; intro K32 hK32
              refine nameF fun m13 k15 => ?_
              obtain ⟨t6, hE8, hF6⟩ := bnd hE7
              have J6 : ∀ (m18 : FM) (w12 : World), (∀ t, has [10, 63, 64, 65, 66, 67, 68, 69, 70, 71, 72, 73, 74] t = false → look m18 t = look m13 t) → look m18 10 = .int .i64 (t6) → HS ⟨S, [], w⟩ S w12 [.osl (v8) (s2.2).length 2 cs8 rs5 34, .osl (sl b1 0 (t1).length c1) (t1).length 1 cs6 rs4 9] → K32 (fr 110 m18) w12 := by
                clear H; intro m18 w12 k21 q29 H
                have q30 : look m18 4 = sl b1 0 (t1).length c1 := (k21 4 rfl).trans ((k15 4).trans ((k14 4).trans q17))
                have q31 : look m18 7 = v8 := (k21 7 rfl).trans ((k15 7).trans ((k14 7).trans q15))
                have q32 : look m18 8 = .int .i64 (s2.1) := (k21 8 rfl).trans ((k15 8).trans ((k14 8).trans q16))
                have q33 : look m18 9 = str (y4) := (k21 9 rfl).trans (k15 9)
                refine hK32 _ _ ?_
                refine wp_seq_k ?_; intro K36 hK36
                refine wp_region_lit ?_
                refine p_val (r_assign (v := str (([] : List UInt8))) rfl) ?_
                refine wpList_nil ?_
                refine x_norm ?_; refine hK36 _ _ ?_; clear hK36
                refine wp_seq_k ?_; intro K37 hK37
                refine nameF fun m19 k22 => ?_
                obtain ⟨t8, hE11, hF8⟩ := bnd hF6
                have J5 : ∀ (m20 : FM) (w13 : World), (∀ t, has [11, 75, 76, 77, 78, 79, 80, 81, 82] t = false → look m20 t = look m19 t) → look m20 11 = str (t8) → HS ⟨S, [], w⟩ S w13 [.osl (v8) (s2.2).length 2 cs8 rs5 34, .osl (sl b1 0 (t1).length c1) (t1).length 1 cs6 rs4 9] → K37 (fr 110 m20) w13 := by
                  clear H; intro m20 w13 k23 q34 H
                  have q35 : look m20 4 = sl b1 0 (t1).length c1 := (k23 4 rfl).trans ((k22 4).trans q30)
                  have q36 : look m20 7 = v8 := (k23 7 rfl).trans ((k22 7).trans q31)
                  have q37 : look m20 8 = .int .i64 (s2.1) := (k23 8 rfl).trans ((k22 8).trans q32)
                  have q38 : look m20 9 = str (y4) := (k23 9 rfl).trans ((k22 9).trans q33)
                  have q39 : look m20 10 = .int .i64 (t6) := (k23 10 rfl).trans ((k22 10).trans q29)
                  refine hK37 _ _ ?_
                  refine wp_seq_k ?_; intro K39 hK39
                  refine wp_region_lit ?_
                  refine p_val (r_move (v := str (y4)) q38) ?_
                  refine p_val (r_move (v := .int .i64 (t6)) q39) ?_
                  obtain ⟨y7, e7, hF8⟩ := bnd hF8
                  refine p_val (r_sliceTH (h := (t6 : Int).toNat) (r := y7) u9 rfl rfl (subH_some e7).1 (subH_some e7).2.1 (subH_some e7).2.2) ?_
                  obtain ⟨y8, e8, hF8⟩ := bnd hF8
                  refine p_call (l := [str (y7), .int .u8 (43), .int .u8 (32)]) is46 rfl ?_
                  refine (seneschalref01_swap_c H.sub e8).mono ?_; rintro _ w14 ⟨rfl, hx⟩; replace H := H.ext hx; clear hx
                  obtain ⟨y9, e9, hF8⟩ := bnd hF8
                  refine p_call (l := [str (y8)]) is21 rfl ?_
                  refine (seneschalref01_FromPercent_c H.sub e9).mono ?_; rintro _ w15 ⟨rfl, hx⟩; replace H := H.ext hx; clear hx
                  refine p_val (r_move (v := .tuple #[str (y9.1), .int .i64 (y9.2)]) rfl) ?_
                  refine p_val (r_extract (v := str (y9.1)) rfl rfl) ?_
                  refine p_val (r_extract (v := .int .i64 (y9.2)) rfl rfl) ?_
                  refine p_val (r_assign (v := str (y9.1)) rfl) ?_
                  refine p_val (r_assign (v := .int .i64 (y9.2)) rfl) ?_
                  refine wpList_nil ?_
                  refine x_norm ?_; refine hK39 _ _ ?_; clear hK39
                  refine wp_seq_k ?_; intro K40 hK40
                  refine wp_region_lit ?_
                  refine p_val (r_move (v := str (t8)) q34) ?_
                  obtain ⟨y10, e10, hF8⟩ := bnd hF8
                  refine p_call (l := [str (t8), .int .u8 (43), .int .u8 (32)]) is46 rfl ?_
                  refine (seneschalref01_swap_c H.sub e10).mono ?_; rintro _ w16 ⟨rfl, hx⟩; replace H := H.ext hx; clear hx
                  obtain ⟨y11, e11, hF8⟩ := bnd hF8
                  refine p_call (l := [str (y10)]) is21 rfl ?_
                  refine (seneschalref01_FromPercent_c H.sub e11).mono ?_; rintro _ w17 ⟨rfl, hx⟩; replace H := H.ext hx; clear hx
                  refine p_val (r_move (v := .tuple #[str (y11.1), .int .i64 (y11.2)]) rfl) ?_
                  refine p_val (r_extract (v := str (y11.1)) rfl rfl) ?_
                  refine p_val (r_extract (v := .int .i64 (y11.2)) rfl rfl) ?_
                  refine p_val (r_assign (v := str (y11.1)) rfl) ?_
                  refine p_val (r_assign (v := .int .i64 (y11.2)) rfl) ?_
                  refine wpList_nil ?_
                  refine x_norm ?_; refine hK40 _ _ ?_; clear hK40
                  refine wp_seq_k ?_; intro K41 hK41
                  refine wp_seq_k ?_; intro K42 hK42
                  refine wp_region_lit ?_
                  refine p_val (r_move (v := .int .i64 (y9.2)) rfl) ?_
                  refine p_val (r_neq (t := (y9.2 != 0)) rfl rfl rfl) ?_
                  refine p_val (r_move (v := .bool ((y9.2 != 0))) rfl) ?_
                  refine nameL fun m21 k24 => ?_
                  refine gs_at 3 fun K43 hK43 R6 hR6 => ?_
                  have J4 : ∀ (m22 : FM), (∀ t, has [100, 101, 102] t = false → look m22 t = look m21 t) → look m22 102 = .bool ((bif (y9.2 != 0) then true else (y11.2 != 0))) → K43 m22 w17 := by
                    intro m22 k25 q40
                    have q41 : look m22 4 = sl b1 0 (t1).length c1 := (k25 4 rfl).trans ((k24 4).trans q35)
                    have q42 : look m22 7 = v8 := (k25 7 rfl).trans ((k24 7).trans q36)
                    have q43 : look m22 8 = .int .i64 (s2.1) := (k25 8 rfl).trans ((k24 8).trans q37)
                    have q44 : look m22 12 = str (y9.1) := (k25 12 rfl).trans (k24 12)
                    have q45 : look m22 14 = str (y11.1) := (k25 14 rfl).trans (k24 14)
                    refine hK43 _ _ ?_; clear hK43 hR6
                    refine wpList_nil ?_
                    refine x_norm ?_; refine hK42 _ _ ?_; clear hK42
                    refine c_split (t := (bif (y9.2 != 0) then true else (y11.2 != 0))) q40 (fun hc10 => ?_) (fun hc10 => ?_)
                    · replace hF8 := cnd_t hF8 hc10
                      refine wp_seq_k ?_; intro K44 hK44
                      refine wp_region_lit ?_
                      refine p_val (r_assign (v := .slice none 0 0) rfl) ?_
                      refine p_val (r_assign (v := .int .i64 (12)) rfl) ?_
                      refine wpList_nil ?_
                      refine x_norm ?_; refine hK44 _ _ ?_; clear hK44
                      refine wp_ret ?_
                      refine x_ret ?_
                      refine b_ret ?_
                      refine x_ret ?_
                      refine x_ret ?_
                      refine b_ret ?_
                      refine x_ret ?_
                      obtain rfl := Option.some.inj hF8
                      obtain rfl := Option.some.inj hF5
                      obtain rfl := Option.some.inj hh2
                      obtain rfl := Option.some.inj hE6
                      obtain rfl := Option.some.inj hF4
                      refine e_2 rfl (q_tmp (v := .slice none 0 0) rfl) (q_tmp (v := .int .i64 (12)) rfl) ?_
                      exact ⟨H.toExt, _, rfl, RdS.mono RdS.nil H.gr⟩
                    · replace hF8 := cnd_f hF8 hc10
                      refine wp_skip ?_
                      refine x_norm ?_; refine hK41 _ _ ?_; clear hK41
                      refine wp_region_lit ?_
                      refine p_val (r_move (v := v8) q42) ?_
                      refine p_val (r_move (v := str (y9.1)) q44) ?_
                      refine p_val (r_move (v := str (y11.1)) q45) ?_
                      refine p_val (r_build (vals := [(0, str (y9.1)), (1, str (y11.1))]) (l := ([str (y9.1)] ++ ([str (y11.1)]))) tb34 rfl rfl) ?_
                      have g9 : RL S (([str (y9.1)] ++ ([str (y11.1)])) ++ ([] : List Value)) ([(y9.1, y11.1)] : List ((List UInt8) × (List UInt8))) := (RL.cons (rpP rpT rpT) RL.nil)
                      refine p_of1 (a_bslice (N := 1) (vals := [(0, .agg (([str (y9.1)] ++ ([str (y11.1)]))).toArray)]) (l := (([str (y9.1)] ++ ([str (y11.1)])) ++ ([] : List Value))) tn28 H rfl rfl rfl g9.len) ?_; clear H; intro w18 v9 H
                      generalize (([str (y9.1)] ++ ([str (y11.1)])) ++ ([] : List Value)) = cs10 at H g9
                      replace H : HS ⟨S, [], w⟩ S w18 [.osl (v9) (([(y9.1, y11.1)] : List ((List UInt8) × (List UInt8)))).length 2 cs10 [] 34, .osl (v8) (s2.2).length 2 cs8 rs5 34, .osl (sl b1 0 (t1).length c1) (t1).length 1 cs6 rs4 9] := H
                      obtain ⟨y12, e12, hF8⟩ := bnd hF8
                      refine p_of1 (a_appendX (k := 1) (v2 := v9) tn28 rfl H rfl rfl g8 rfl (H.slW (k := 0) rfl) g9 e12) ?_; clear H; rintro w19 v10 ⟨cs11, rs6, H, g10⟩
                      replace H : HS ⟨S, [], w⟩ S w19 [.osl (v9) (([(y9.1, y11.1)] : List ((List UInt8) × (List UInt8)))).length 2 cs10 [] 34, .osl (v10) (y12).length 2 cs11 rs6 34, .osl (sl b1 0 (t1).length c1) (t1).length 1 cs6 rs4 9] := H
                      replace H := H.sel [1, 2] rfl
                      replace H : HS ⟨S, [], w⟩ S w19 [.osl (v10) (y12).length 2 cs11 rs6 34, .osl (sl b1 0 (t1).length c1) (t1).length 1 cs6 rs4 9] := H
                      refine p_val (r_assign (v := v10) rfl) ?_
                      refine wpList_nil ?_
                      refine b_norm ?_
                      refine x_norm ?_
                      replace H : HS ⟨S, [], w⟩ S w19 [.osl (v10) (y12).length 2 cs11 rs6 34, .osl (sl b1 0 (t1).length c1) (t1).length 1 cs6 rs4 9] := H
                      obtain rfl := Option.some.inj hF8
                      exact J7 _ _ _ _ _ _ rfl (by (repeat (refine keep_cons rfl ?_)); refine keep_sub k25 rfl ?_; (repeat (refine keep_cons rfl ?_)); refine keep_name k24 ?_; (repeat (refine keep_cons rfl ?_)); refine keep_sub k23 rfl ?_; (repeat (refine keep_cons rfl ?_)); refine keep_name k22 ?_; (repeat (refine keep_cons rfl ?_)); refine keep_sub k21 rfl ?_; (repeat (refine keep_cons rfl ?_)); refine keep_name k15 ?_; (repeat (refine keep_cons rfl ?_)); exact fun _ _ => rfl) rfl H g10
                  refine p_gs (j := 2) (gvl_at rfl rfl (k24 99)) (fun hb6 => ?_) (fun hb6 => ?_)
                  · skip
                    refine p_skip (gvl_at rfl rfl (k24 99)) hb6 ?_
                    rw [put_fr]
                    refine p_skip (gvl_at rfl rfl (k24 99)) hb6 ?_
                    rw [put_fr]
                    refine p_val (r_pickt (v := .bool (true)) (k24 99) hb6 rfl) ?_
                    refine hR6 _ _ ?_
                    exact J4 _ (by (repeat (refine keep_cons rfl ?_)); exact fun _ _ => rfl) (show (.bool (true) : Value) = .bool ((bif (y9.2 != 0) then true else (y11.2 != 0))) from congrArg Value.bool (by simp only [hb6, cond_true, cond_false]))
                  · skip
                    refine p_want (gvl_at rfl rfl (k24 99)) hb6 ?_
                    refine p_val (r_move (v := .int .i64 (y11.2)) (k24 15)) ?_
                    refine p_want (gvl_at rfl rfl (k24 99)) hb6 ?_
                    refine p_val (r_neq (t := (y11.2 != 0)) rfl rfl rfl) ?_
                    refine p_val (r_pickf (v := .bool ((y11.2 != 0))) (k24 99) hb6 rfl) ?_
                    refine hR6 _ _ ?_
                    exact J4 _ (by (repeat (refine keep_cons rfl ?_)); exact fun _ _ => rfl) (show (.bool ((y11.2 != 0)) : Value) = .bool ((bif (y9.2 != 0) then true else (y11.2 != 0))) from congrArg Value.bool (by simp only [hb6, cond_true, cond_false]))
                refine wp_seq_k ?_; intro K38 hK38
                refine wp_region_lit ?_
                refine p_val (r_move (v := .int .i64 (t6)) ((k22 10).trans q29)) ?_
                refine p_val (r_move (v := str (y4)) ((k22 9).trans q33)) ?_
                refine p_val (r_lenT (N := (y4).length) u9 rfl rfl) ?_
                refine p_val (r_lss (t := decide (t6 < ((y4).length : Int))) rfl rfl rfl) ?_
                refine wpList_nil ?_
                refine x_norm ?_; refine hK38 _ _ ?_; clear hK38
                refine c_split (t := decide (t6 < ((y4).length : Int))) rfl (fun hc9 => ?_) (fun hc9 => ?_)
                · replace hE11 := cnd_t hE11 hc9
                  refine wp_region_lit ?_
                  refine p_val (r_move (v := str (y4)) ((k22 9).trans q33)) ?_
                  refine p_val (r_move (v := .int .i64 (t6)) ((k22 10).trans q29)) ?_
                  refine p_val (r_add (r := w64 (t6 + 1)) rfl rfl rfl) ?_
                  obtain ⟨y6, e6, hE11⟩ := bnd hE11
                  refine p_val (r_sliceTL (p := ((w64 (t6 + 1)) : Int).toNat) (r := y6) u9 rfl rfl (subL_some e6).1 (subL_some e6).2.1 (subL_some e6).2.2) ?_
                  refine p_val (r_assign (v := str (y6)) rfl) ?_
                  refine wpList_nil ?_
                  refine x_norm ?_
                  replace H : HS ⟨S, [], w⟩ S w12 [.osl (v8) (s2.2).length 2 cs8 rs5 34, .osl (sl b1 0 (t1).length c1) (t1).length 1 cs6 rs4 9] := H
                  obtain rfl := Option.some.inj hE11
                  exact J5 _ _ (by (repeat (refine keep_cons rfl ?_)); exact fun _ _ => rfl) rfl H
                · replace hE11 := cnd_f hE11 hc9
                  refine wp_skip ?_
                  refine x_norm ?_
                  replace H : HS ⟨S, [], w⟩ S w12 [.osl (v8) (s2.2).length 2 cs8 rs5 34, .osl (sl b1 0 (t1).length c1) (t1).length 1 cs6 rs4 9] := H
                  obtain rfl := Option.some.inj hE11
                  exact J5 _ _ (by (repeat (refine keep_cons rfl ?_)); exact fun _ _ => rfl) (k22 11) H
              refine wp_block ?_
              refine nameF fun m14 k16 => ?_
              obtain ⟨out3, hL3, hE9⟩ := bnd hE8
              replace H : HS ⟨S, [], w⟩ S w9 [.osl (v8) (s2.2).length 2 cs8 rs5 34, .osl (sl b1 0 (t1).length c1) (t1).length 1 cs6 rs4 9] := H
              refine loopI [10, 63, 64, 65, 66, 67, 68, 69, 70, 71, 72, 73, 74] (fun (s3 : Int) (m15 : FM) (w10 : World) => look m15 10 = .int .i64 (s3) ∧ HS ⟨S, [], w⟩ S w10 [.osl (v8) (s2.2).length 2 cs8 rs5 34, .osl (sl b1 0 (t1).length c1) (t1).length 1 cs6 rs4 9]) hL3 ⟨((k16 10).trans (k15 10)), H⟩ ?_
              clear H; intro k18 s3 m15 w10 k17 hI3 o9 hb4 hh3; obtain ⟨q18, H⟩ := hI3
              have q19 : look m15 4 = sl b1 0 (t1).length c1 := (k17 4 rfl).trans ((k16 4).trans ((k15 4).trans ((k14 4).trans q17)))
              have q20 : look m15 7 = v8 := (k17 7 rfl).trans ((k16 7).trans ((k15 7).trans ((k14 7).trans q15)))
              have q21 : look m15 8 = .int .i64 (s2.1) := (k17 8 rfl).trans ((k16 8).trans ((k15 8).trans ((k14 8).trans q16)))
              have q22 : look m15 9 = str (y4) := (k17 9 rfl).trans ((k16 9).trans (k15 9))
              unfold seneschalref01_FromForm_b2 at hb4
              refine wp_seq_k ?_; intro K33 hK33
              refine wp_seq_k ?_; intro K34 hK34
              refine wp_region_lit ?_
              refine p_val (r_move (v := .int .i64 (s3)) q18) ?_
              refine p_val (r_move (v := str (y4)) q22) ?_
              refine p_val (r_lenT (N := (y4).length) u9 rfl rfl) ?_
              refine p_val (r_lss (t := decide (s3 < ((y4).length : Int))) rfl rfl rfl) ?_
              refine p_val (r_move (v := .bool (decide (s3 < ((y4).length : Int)))) rfl) ?_
              refine nameL fun m16 k19 => ?_
              refine gs_at 5 fun K35 hK35 R5 hR5 => ?_
              obtain ⟨t7, hE10, hF7⟩ := bnd hb4
              have J3 : ∀ (m17 : FM) (w11 : World), (∀ t, has [68, 69, 70, 71, 72] t = false → look m17 t = look m16 t) → look m17 72 = .bool (t7) → HS ⟨S, [], w⟩ S w11 [.osl (v8) (s2.2).length 2 cs8 rs5 34, .osl (sl b1 0 (t1).length c1) (t1).length 1 cs6 rs4 9] → K35 m17 w11 := by
                clear H; intro m17 w11 k20 q23 H
                have q24 : look m17 4 = sl b1 0 (t1).length c1 := (k20 4 rfl).trans ((k19 4).trans q19)
                have q25 : look m17 7 = v8 := (k20 7 rfl).trans ((k19 7).trans q20)
                have q26 : look m17 8 = .int .i64 (s2.1) := (k20 8 rfl).trans ((k19 8).trans q21)
                have q27 : look m17 9 = str (y4) := (k20 9 rfl).trans ((k19 9).trans q22)
                have q28 : look m17 10 = .int .i64 (s3) := (k20 10 rfl).trans ((k19 10).trans q18)
                refine hK35 _ _ ?_
                refine wpList_nil ?_
                refine x_norm ?_; refine hK34 _ _ ?_; clear hK34
                refine c_split (t := t7) q23 (fun hc8 => ?_) (fun hc8 => ?_)
                · replace hF7 := cnd_t hF7 hc8
                  refine wp_skip ?_
                  refine x_norm ?_; refine hK33 _ _ ?_; clear hK33
                  refine wp_block ?_
                  refine wp_region_lit ?_
                  refine p_val (r_move (v := .int .i64 (s3)) q28) ?_
                  refine p_val (r_add (r := w64 (s3 + 1)) rfl rfl rfl) ?_
                  refine p_val (r_assign (v := .int .i64 ((w64 (s3 + 1)))) rfl) ?_
                  refine wpList_nil ?_
                  refine b_norm ?_
                  refine x_norm ?_
                  replace H : HS ⟨S, [], w⟩ S w11 [.osl (v8) (s2.2).length 2 cs8 rs5 34, .osl (sl b1 0 (t1).length c1) (t1).length 1 cs6 rs4 9] := H
                  obtain rfl := Option.some.inj hF7
                  exact ⟨(w64 (s3 + 1)), _, rfl, (by (repeat (refine keep_cons rfl ?_)); refine keep_sub k20 rfl ?_; (repeat (refine keep_cons rfl ?_)); refine keep_name k19 ?_; (repeat (refine keep_cons rfl ?_)); refine keep_sub k17 rfl ?_; (repeat (refine keep_cons rfl ?_)); exact fun _ _ => rfl), ⟨rfl, H⟩, hh3⟩
                · replace hF7 := cnd_f hF7 hc8
                  refine wp_exit ?_
                  refine x_exit ?_
                  refine x_exit ?_
                  refine b_hit ?_
                  refine x_norm ?_
                  replace H : HS ⟨S, [], w⟩ S w11 [.osl (v8) (s2.2).length 2 cs8 rs5 34, .osl (sl b1 0 (t1).length c1) (t1).length 1 cs6 rs4 9] := H
                  obtain rfl := Option.some.inj hF7
                  obtain rfl := Option.some.inj hh3
                  obtain rfl := Option.some.inj hE9
                  exact J6 _ _ (by (repeat (refine keep_cons rfl ?_)); refine keep_sub k20 rfl ?_; (repeat (refine keep_cons rfl ?_)); refine keep_name k19 ?_; (repeat (refine keep_cons rfl ?_)); refine keep_sub k17 rfl ?_; (repeat (refine keep_cons rfl ?_)); refine keep_name k16 ?_; (repeat (refine keep_cons rfl ?_)); exact fun _ _ => rfl) q28 H
              refine p_gs (j := 4) (gvl_at rfl rfl (k19 67)) (fun hb5 => ?_) (fun hb5 => ?_)
              · replace hE10 := cnd_t hE10 hb5
                refine p_want (gvl_at rfl rfl (k19 67)) hb5 ?_
                refine p_val (r_move (v := str (y4)) ((k19 9).trans q22)) ?_
                refine p_want (gvl_at rfl rfl (k19 67)) hb5 ?_
                refine p_val (r_move (v := .int .i64 (s3)) ((k19 10).trans q18)) ?_
                refine p_want (gvl_at rfl rfl (k19 67)) hb5 ?_
                obtain ⟨y5, e5, hE10⟩ := bnd hE10
                refine p_val (r_idxT (i := (s3 : Int).toNat) (u := y5) u9 rfl rfl (idx_some e5).1 (idx_some e5).2) ?_
                refine p_want (gvl_at rfl rfl (k19 67)) hb5 ?_
                refine p_val (r_neq (t := (((y5).toNat : Int) != 61)) rfl rfl rfl) ?_
                refine p_val (r_pickt (v := .bool ((((y5).toNat : Int) != 61))) (k19 67) hb5 rfl) ?_
                refine hR5 _ _ ?_
                replace H : HS ⟨S, [], w⟩ S w10 [.osl (v8) (s2.2).length 2 cs8 rs5 34, .osl (sl b1 0 (t1).length c1) (t1).length 1 cs6 rs4 9] := H
                obtain rfl := Option.some.inj hE10
                exact J3 _ _ (by (repeat (refine keep_cons rfl ?_)); exact fun _ _ => rfl) rfl H
              · replace hE10 := cnd_f hE10 hb5
                refine p_skip (gvl_at rfl rfl (k19 67)) hb5 ?_
                rw [put_fr]
                refine p_skip (gvl_at rfl rfl (k19 67)) hb5 ?_
                rw [put_fr]
                refine p_skip (gvl_at rfl rfl (k19 67)) hb5 ?_
                rw [put_fr]
                refine p_skip (gvl_at rfl rfl (k19 67)) hb5 ?_
                rw [put_fr]
                refine p_val (r_pickf (v := .bool (false)) (k19 67) hb5 rfl) ?_
                refine hR5 _ _ ?_
                replace H : HS ⟨S, [], w⟩ S w10 [.osl (v8) (s2.2).length 2 cs8 rs5 34, .osl (sl b1 0 (t1).length c1) (t1).length 1 cs6 rs4 9] := H
                obtain rfl := Option.some.inj hE10
                exact J3 _ _ (by (repeat (refine keep_cons rfl ?_)); exact fun _ _ => rfl) rfl H
          · replace hb3 := cnd_f hb3 hc6
            refine wp_exit ?_
            refine x_exit ?_
            refine x_exit ?_
            refine b_hit ?_
            refine x_norm ?_
            replace H : HS ⟨S, [], w⟩ S w9 [.osl (v8) (s2.2).length 2 cs8 rs5 34, .osl (v6) (t1).length 1 cs6 rs4 9] := H
            obtain rfl := Option.some.inj hb3
            obtain rfl := Option.some.inj hh2
            obtain rfl := Option.some.inj hE6
            exact J8 _ _ _ _ _ _ rfl (by (repeat (refine keep_cons rfl ?_)); refine keep_sub k12 rfl ?_; (repeat (refine keep_cons rfl ?_)); refine keep_name k11 ?_; (repeat (refine keep_cons rfl ?_)); exact fun _ _ => rfl) (show _ = (v8 : Value) from q15) H g8
      refine wp_seq_k ?_; intro K11 hK11
      refine wp_region_lit ?_
      refine p_val (r_assign (v := .int .i64 (0)) rfl) ?_
      refine wpList_nil ?_
      refine x_norm ?_; refine hK11 _ _ ?_; clear hK11
      refine wp_block ?_
      refine nameF fun m2 k2 => ?_
      obtain ⟨out1, hL1, hE2⟩ := bnd hE1
      replace H : HS ⟨S, [], w⟩ S w1 [.osl (v1) (([] : List (List UInt8))).length 1 ([] : List Value) [] 9] := H
      refine loopI [4, 5, 6, 22, 23, 24, 25, 26, 27, 28, 29, 30, 31, 32, 33, 34, 35, 36, 37, 38, 39, 40, 41, 42, 43, 44, 45, 46] (fun (s1 : Int × Int × (List (List UInt8))) (m3 : FM) (w2 : World) => ∃ (v2 : Value) (cs2 rs1 : List Value), look m3 4 = v2 ∧ look m3 5 = .int .i64 (s1.1) ∧ look m3 6 = .int .i64 (s1.2.1) ∧ HS ⟨S, [], w⟩ S w2 [.osl (v2) (s1.2.2).length 1 cs2 rs1 9] ∧ RL S cs2 s1.2.2) hL1 ⟨_, _, _, (show _ = (v1 : Value) from ((k2 4).trans (k1 4))), ((k2 5).trans (k1 5)), (k2 6), H, g1⟩ ?_
      clear H; intro k4 s1 m3 w2 k3 hI1 o2 hb1 hh1; obtain ⟨v2, cs2, rs1, q1, q2, q3, H, g2⟩ := hI1
      have q4 : look m3 0 = str (x0) := (k3 0 rfl).trans ((k2 0).trans (k1 0))
      unfold seneschalref01_FromForm_b0 at hb1
      refine wp_seq_k ?_; intro K12 hK12
      refine wp_seq_k ?_; intro K13 hK13
      refine wp_region_lit ?_
      refine p_val (r_move (v := .int .i64 (s1.2.1)) q3) ?_
      refine p_val (r_move (v := str (x0)) q4) ?_
      refine p_val (r_lenT (N := (x0).length) u9 rfl rfl) ?_
      refine p_val (r_leq (t := decide (s1.2.1 ≤ ((x0).length : Int))) rfl rfl rfl) ?_
      refine wpList_nil ?_
      refine x_norm ?_; refine hK13 _ _ ?_; clear hK13
      refine c_split (t := decide (s1.2.1 ≤ ((x0).length : Int))) rfl (fun hc3 => ?_) (fun hc3 => ?_)
      · replace hb1 := cnd_t hb1 hc3
        refine wp_skip ?_
        refine x_norm ?_; refine hK12 _ _ ?_; clear hK12
        refine wp_seq_k ?_; intro K14 hK14
        refine nameF fun m4 k5 => ?_
        obtain ⟨t2, hE3, hF2⟩ := bnd hb1
        have J2 : ∀ (v5 : Value) (cs5 rs3 : List Value) (m7 : FM) (w6 : World), (∀ t, has [4, 5, 28, 29, 30, 31, 32, 33, 34, 35, 36, 37, 38, 39, 40, 41, 42, 43, 44, 45, 46] t = false → look m7 t = look m4 t) → look m7 4 = v5 → look m7 5 = .int .i64 (t2.1) → HS ⟨S, [], w⟩ S w6 [.osl (v5) (t2.2).length 1 cs5 rs3 9] → RL S cs5 t2.2 → K14 (fr 110 m7) w6 := by
          clear H; intro v5 cs5 rs3 m7 w6 k8 q10 q11 H g5
          have q12 : look m7 0 = str (x0) := (k8 0 rfl).trans ((k5 0).trans q4)
          have q13 : look m7 6 = .int .i64 (s1.2.1) := (k8 6 rfl).trans ((k5 6).trans q3)
          refine hK14 _ _ ?_
          refine wp_region_lit ?_
          refine p_val (r_move (v := .int .i64 (s1.2.1)) q13) ?_
          refine p_val (r_add (r := w64 (s1.2.1 + 1)) rfl rfl rfl) ?_
          refine p_val (r_assign (v := .int .i64 ((w64 (s1.2.1 + 1)))) rfl) ?_
          refine wpList_nil ?_
          refine x_norm ?_
          replace H : HS ⟨S, [], w⟩ S w6 [.osl (v5) (t2.2).length 1 cs5 rs3 9] := H
          obtain rfl := Option.some.inj hF2
          exact ⟨(t2.1, (w64 (s1.2.1 + 1)), t2.2), _, rfl, (by (repeat (refine keep_cons rfl ?_)); refine keep_sub k8 rfl ?_; (repeat (refine keep_cons rfl ?_)); refine keep_name k5 ?_; (repeat (refine keep_cons rfl ?_)); refine keep_sub k3 rfl ?_; (repeat (refine keep_cons rfl ?_)); exact fun _ _ => rfl), ⟨_, _, _, (show _ = (v5 : Value) from q10), q11, rfl, H, g5⟩, hh1⟩
        refine wp_block ?_
        refine wp_seq_k ?_; intro K15 hK15
        refine wp_region_lit ?_
        refine p_val (r_move (v := .int .i64 (s1.2.1)) ((k5 6).trans q3)) ?_
        refine p_val (r_move (v := str (x0)) ((k5 0).trans q4)) ?_
        refine p_val (r_lenT (N := (x0).length) u9 rfl rfl) ?_
        refine p_val (r_eql (t := (s1.2.1 == ((x0).length : Int))) rfl rfl rfl) ?_
        refine p_val (r_move (v := .bool ((s1.2.1 == ((x0).length : Int)))) rfl) ?_
        refine nameL fun m5 k6 => ?_
        refine gs_at 5 fun K16 hK16 R2 hR2 => ?_
        obtain ⟨t3, hE4, hF3⟩ := bnd hE3
        have J1 : ∀ (m6 : FM) (w3 : World), (∀ t, has [33, 34, 35, 36, 37] t = false → look m6 t = look m5 t) → look m6 37 = .bool (t3) → HS ⟨S, [], w⟩ S w3 [.osl (v2) (s1.2.2).length 1 cs2 rs1 9] → K16 m6 w3 := by
          clear H; intro m6 w3 k7 q5 H
          have q6 : look m6 0 = str (x0) := (k7 0 rfl).trans ((k6 0).trans ((k5 0).trans q4))
          have q7 : look m6 4 = v2 := (k7 4 rfl).trans ((k6 4).trans ((k5 4).trans q1))
          have q8 : look m6 5 = .int .i64 (s1.1) := (k7 5 rfl).trans ((k6 5).trans ((k5 5).trans q2))
          have q9 : look m6 6 = .int .i64 (s1.2.1) := (k7 6 rfl).trans ((k6 6).trans ((k5 6).trans q3))
          refine hK16 _ _ ?_
          refine wpList_nil ?_
          refine x_norm ?_; refine hK15 _ _ ?_; clear hK15
          refine c_split (t := t3) q5 (fun hc4 => ?_) (fun hc4 => ?_)
          · replace hF3 := cnd_t hF3 hc4
            refine wp_seq_k ?_; intro K17 hK17
            refine wp_region_lit ?_
            refine p_val (r_move (v := v2) q7) ?_
            refine p_val (r_move (v := str (x0)) q6) ?_
            refine p_val (r_move (v := .int .i64 (s1.1)) q8) ?_
            refine p_val (r_move (v := .int .i64 (s1.2.1)) q9) ?_
            obtain ⟨y2, e2, hF3⟩ := bnd hF3
            refine p_val (r_sliceT (p := (s1.1 : Int).toNat) (h := (s1.2.1 : Int).toNat) (r := y2) u9 rfl rfl rfl (sub3_some e2).1 (sub3_some e2).2.1 (sub3_some e2).2.2.1 (sub3_some e2).2.2.2.1 (sub3_some e2).2.2.2.2) ?_
            have g3 : RL S ([str (y2)] ++ ([] : List Value)) ([y2] : List (List UInt8)) := (RL.cons rpT RL.nil)
            refine p_of1 (a_bslice (N := 1) (vals := [(0, str (y2))]) (l := ([str (y2)] ++ ([] : List Value))) tn39 H rfl rfl rfl g3.len) ?_; clear H; intro w4 v3 H
            generalize ([str (y2)] ++ ([] : List Value)) = cs3 at H g3
            replace H : HS ⟨S, [], w⟩ S w4 [.osl (v3) (([y2] : List (List UInt8))).length 1 cs3 [] 9, .osl (v2) (s1.2.2).length 1 cs2 rs1 9] := H
            obtain ⟨y3, e3, hF3⟩ := bnd hF3
            refine p_of1 (a_appendX (k := 1) (v2 := v3) tn39 rfl H rfl rfl g2 rfl (H.slW (k := 0) rfl) g3 e3) ?_; clear H; rintro w5 v4 ⟨cs4, rs2, H, g4⟩
            replace H : HS ⟨S, [], w⟩ S w5 [.osl (v3) (([y2] : List (List UInt8))).length 1 cs3 [] 9, .osl (v4) (y3).length 1 cs4 rs2 9] := H
            replace H := H.sel [1] rfl
            replace H : HS ⟨S, [], w⟩ S w5 [.osl (v4) (y3).length 1 cs4 rs2 9] := H
            refine p_val (r_assign (v := v4) rfl) ?_
            refine wpList_nil ?_
            refine x_norm ?_; refine hK17 _ _ ?_; clear hK17
            refine wp_region_lit ?_
            refine p_val (r_move (v := .int .i64 (s1.2.1)) q9) ?_
            refine p_val (r_add (r := w64 (s1.2.1 + 1)) rfl rfl rfl) ?_
            refine p_val (r_assign (v := .int .i64 ((w64 (s1.2.1 + 1)))) rfl) ?_
            refine wpList_nil ?_
            refine b_norm ?_
            refine x_norm ?_
            replace H : HS ⟨S, [], w⟩ S w5 [.osl (v4) (y3).length 1 cs4 rs2 9] := H
            obtain rfl := Option.some.inj hF3
            exact J2 _ _ _ _ _ (by (repeat (refine keep_cons rfl ?_)); refine keep_sub k7 rfl ?_; (repeat (refine keep_cons rfl ?_)); refine keep_name k6 ?_; (repeat (refine keep_cons rfl ?_)); exact fun _ _ => rfl) rfl rfl H g4
          · replace hF3 := cnd_f hF3 hc4
            refine wp_skip ?_
            refine b_norm ?_
            refine x_norm ?_
            replace H : HS ⟨S, [], w⟩ S w3 [.osl (v2) (s1.2.2).length 1 cs2 rs1 9] := H
            obtain rfl := Option.some.inj hF3
            exact J2 _ _ _ _ _ (by (repeat (refine keep_cons rfl ?_)); refine keep_sub k7 rfl ?_; (repeat (refine keep_cons rfl ?_)); refine keep_name k6 ?_; (repeat (refine keep_cons rfl ?_)); exact fun _ _ => rfl) (show _ = (v2 : Value) from q7) q8 H g2
        refine p_gs (j := 4) (gvl_at rfl rfl (k6 32)) (fun hb2 => ?_) (fun hb2 => ?_)
        · replace hE4 := cnd_t hE4 hb2
          refine p_skip (gvl_at rfl rfl (k6 32)) hb2 ?_
          rw [put_fr]
          refine p_skip (gvl_at rfl rfl (k6 32)) hb2 ?_
          rw [put_fr]
          refine p_skip (gvl_at rfl rfl (k6 32)) hb2 ?_
          rw [put_fr]
          refine p_skip (gvl_at rfl rfl (k6 32)) hb2 ?_
          rw [put_fr]
          refine p_val (r_pickt (v := .bool (true)) (k6 32) hb2 rfl) ?_
          refine hR2 _ _ ?_
          replace H : HS ⟨S, [], w⟩ S w2 [.osl (v2) (s1.2.2).length 1 cs2 rs1 9] := H
          obtain rfl := Option.some.inj hE4
          exact J1 _ _ (by (repeat (refine keep_cons rfl ?_)); exact fun _ _ => rfl) rfl H
        · replace hE4 := cnd_f hE4 hb2
          refine p_want (gvl_at rfl rfl (k6 32)) hb2 ?_
          refine p_val (r_move (v := str (x0)) ((k6 0).trans ((k5 0).trans q4))) ?_
          refine p_want (gvl_at rfl rfl (k6 32)) hb2 ?_
          refine p_val (r_move (v := .int .i64 (s1.2.1)) ((k6 6).trans ((k5 6).trans q3))) ?_
          refine p_want (gvl_at rfl rfl (k6 32)) hb2 ?_
          obtain ⟨y1, e1, hE4⟩ := bnd hE4
          refine p_val (r_idxT (i := (s1.2.1 : Int).toNat) (u := y1) u9 rfl rfl (idx_some e1).1 (idx_some e1).2) ?_
          refine p_want (gvl_at rfl rfl (k6 32)) hb2 ?_
          refine p_val (r_eql (t := (((y1).toNat : Int) == 38)) rfl rfl rfl) ?_
          refine p_val (r_pickf (v := .bool ((((y1).toNat : Int) == 38))) (k6 32) hb2 rfl) ?_
          refine hR2 _ _ ?_
          replace H : HS ⟨S, [], w⟩ S w2 [.osl (v2) (s1.2.2).length 1 cs2 rs1 9] := H
          obtain rfl := Option.some.inj hE4
          exact J1 _ _ (by (repeat (refine keep_cons rfl ?_)); exact fun _ _ => rfl) rfl H
      · replace hb1 := cnd_f hb1 hc3
        refine wp_exit ?_
        refine x_exit ?_
        refine x_exit ?_
        refine b_hit ?_
        refine x_norm ?_
        replace H : HS ⟨S, [], w⟩ S w2 [.osl (v2) (s1.2.2).length 1 cs2 rs1 9] := H
        obtain rfl := Option.some.inj hb1
        obtain rfl := Option.some.inj hh1
        obtain rfl := Option.some.inj hE2
        exact J9 _ _ _ _ _ (by (repeat (refine keep_cons rfl ?_)); refine keep_sub k3 rfl ?_; (repeat (refine keep_cons rfl ?_)); refine keep_name k2 ?_; (repeat (refine keep_cons rfl ?_)); exact fun _ _ => rfl) (show _ = (v2 : Value) from q1) H g2
end Go.Proofs.YtdomaggikbmooaaDoor
