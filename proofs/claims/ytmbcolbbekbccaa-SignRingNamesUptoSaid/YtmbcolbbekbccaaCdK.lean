/- What some functions compute, and that they do. Conditions: as each theorem says. -/
import Derived.Test.YtmbcolbbekbccaaBld
namespace Go.Proofs.Ytmbcolbbekbccaa
open Go Go.RowKit
attribute [local irreducible] wpList wpT Code.wp Calls Code.rounds
theorem to5 : TOne Try.prog 5 := ⟨fun _ => by kernel_rfl, fun _ => by kernel_rfl⟩
theorem to67 : TOne Try.prog 67 := ⟨fun _ => by kernel_rfl, fun _ => by kernel_rfl⟩
theorem tz99 : TZero Try.prog 99 (.agg #[.pointer none, .slice none 0 0]) := fun _ => by kernel_rfl
theorem u3 : Try.prog.underlying 3 = some (.int .i64) := by kernel_rfl
theorem u5 : Try.prog.underlying 5 = some (.int .u8) := by kernel_rfl
theorem u9 : Try.prog.underlying 9 = some .string := by kernel_rfl
theorem u67 : Try.prog.underlying 67 = some (.slice 5) := by kernel_rfl
theorem is41 : IsFn Try.prog 41 := isFn Try.func41 (by kernel_rfl) (by kernel_rfl)
theorem is48 : IsFn Try.prog 48 := isFn Try.func48 (by kernel_rfl) (by kernel_rfl)
theorem is75 : IsFn Try.prog 75 := isFn Try.func75 (by kernel_rfl) (by kernel_rfl)
theorem is78 : IsFn Try.prog 78 := isFn Try.func78 (by kernel_rfl) (by kernel_rfl)
theorem fa99_1 : TField Try.prog 99 1 1 := fun _ _ _ => by kernel_rfl
theorem tn67 : TSn Try.prog 67 5 (.int .u8 0) [.int .u8 0] 1 1 := TSn.mk' (by kernel_rfl) (by kernel_rfl) rfl rfl rfl rfl
theorem tsz5 : TSz Try.prog 5 1 := fun _ => by kernel_rfl
theorem tsz67 : TSz Try.prog 67 1 := fun _ => by kernel_rfl
def Builder_WriteByte_p (x0 : List UInt8) (x1 : UInt8) : Option ((List UInt8)) :=
  Option.bind (Builder_copyCheck_p x0) fun y1 => Option.bind (app y1 ([x1] : List UInt8)) fun y2 => some (y2)
theorem Builder_WriteByte_c {S : Mem} {w : World} {b0_ : Nat} {x0 : List UInt8} {pv1 : Value} {pcs1 prs1 : List Value} {pa1 : Value} (H : HS ⟨S, keysR [.blk b0_ (([pa1] ++ ([pv1]))) 99, .osl (pv1) (x0).length 1 pcs1 prs1 5], w⟩ S w [.blk b0_ (([pa1] ++ ([pv1]))) 99, .osl (pv1) (x0).length 1 pcs1 prs1 5]) (pg1 : RL S pcs1 x0) (pg2 : BA b0_ pa1) {x1 : UInt8} {r : (List UInt8)} (hF : Builder_WriteByte_p x0 x1 = some r) :
    Calls Try.prog 78 #[.pointer (some ⟨b0_, 0, none⟩), .int .u8 (((x1).toNat : Int))] w fun e w' => ∃ (S2 : Mem) (pv4 : Value) (pcs4 prs4 : List Value) (pa4 : Value), e = .returned (.nilIface) ∧ HS ⟨S, keysR [.blk b0_ (([pa1] ++ ([pv1]))) 99, .osl (pv1) (x0).length 1 pcs1 prs1 5], w⟩ S2 w' [.blk b0_ (([pa4] ++ ([pv4]))) 99, .osl (pv4) (r).length 1 pcs4 prs4 5] ∧ RL S2 pcs4 r ∧ BA b0_ pa4 := by
 refine enter (n := 17) Try.func78 rfl rfl rfl ?_
 unfold Builder_WriteByte_p at hF
 refine sr ?_; intro K1 hK1
 refine p_as (v := .nilIface) rfl ?_
 refine xk hK1 ?_; clear hK1
 refine sr ?_; intro K2 hK2
 refine p_mv (v := .pointer (some ⟨b0_, 0, none⟩)) rfl ?_
 obtain ⟨y1, e1, hF⟩ := bnd hF
 refine p_call (l := [.pointer (some ⟨b0_, 0, none⟩)]) is75 rfl ?_
 refine (Builder_copyCheck_c (H.hand [0, 1] rfl) pg1 pg2 e1).mono ?_; rintro _ w1 ⟨S1, pv2, pcs2, prs2, pa2, rfl, H2, pg3, pg4⟩
 obtain ⟨H1, hle1⟩ := H.frame [0, 1] [] rfl H2; clear H H2; have H := H1; clear H1
 replace H : HS ⟨S, keysR [.blk b0_ (([pa1] ++ ([pv1]))) 99, .osl (pv1) (x0).length 1 pcs1 prs1 5], w⟩ S1 w1 [.blk b0_ (([pa2] ++ ([pv2]))) 99, .osl (pv2) (y1).length 1 pcs2 prs2 5] := H
 refine xk hK2 ?_; clear hK2
 refine sr ?_; intro K3 hK3
 refine p_mv (v := .pointer (some ⟨b0_, 0, none⟩)) rfl ?_
 refine p_mv (v := .pointer (some ⟨b0_, 0, none⟩)) rfl ?_
 refine p_val (r_nilck rfl) ?_
 refine p_val (r_field fa99_1 rfl) ?_
 refine p_val (h_load1 (v := pv2) to67 H rfl (k := 0) rfl rfl) ?_
 refine p_mv (v := .int .u8 (((x1).toNat : Int))) rfl ?_
 have g1 : RL S1 ([Value.int .u8 (((x1).toNat : Int))] ++ ([] : List Value)) ([x1] : List UInt8) := (RL.cons rpU8 RL.nil)
 refine p_of1 (a_bslice (N := 1) (vals := [(0, .int .u8 (((x1).toNat : Int)))]) (l := ([Value.int .u8 (((x1).toNat : Int))] ++ ([] : List Value))) tn67 H rfl rfl rfl g1.len) ?_; clear H; intro w2 v1 H
 generalize ([Value.int .u8 (((x1).toNat : Int))] ++ ([] : List Value)) = cs1 at H g1
 replace H : HS ⟨S, keysR [.blk b0_ (([pa1] ++ ([pv1]))) 99, .osl (pv1) (x0).length 1 pcs1 prs1 5], w⟩ S1 w2 [.osl (v1) (([x1] : List UInt8)).length 1 cs1 [] 5, .blk b0_ (([pa2] ++ ([pv2]))) 99, .osl (pv2) (y1).length 1 pcs2 prs2 5] := H
 obtain ⟨y2, e2, hF⟩ := bnd hF
 refine p_of1 (a_appendX (k := 2) (v2 := v1) tn67 rfl H rfl rfl pg3 rfl (H.slW (k := 0) rfl) g1 e2) ?_; clear H; rintro w3 v2 ⟨cs2, rs1, H, g2⟩
 replace H : HS ⟨S, keysR [.blk b0_ (([pa1] ++ ([pv1]))) 99, .osl (pv1) (x0).length 1 pcs1 prs1 5], w⟩ S1 w3 [.osl (v1) (([x1] : List UInt8)).length 1 cs1 [] 5, .blk b0_ (([pa2] ++ ([pv2]))) 99, .osl (v2) (y2).length 1 cs2 rs1 5] := H
 replace H := H.sel [1, 2] rfl
 replace H : HS ⟨S, keysR [.blk b0_ (([pa1] ++ ([pv1]))) 99, .osl (pv1) (x0).length 1 pcs1 prs1 5], w⟩ S1 w3 [.blk b0_ (([pa2] ++ ([pv2]))) 99, .osl (v2) (y2).length 1 cs2 rs1 5] := H
 refine p_val (r_nilck rfl) ?_
 refine p_val (r_field fa99_1 rfl) ?_
 refine p_ofs (a_store (k := 0) (v := v2) (l := [v2]) tsz67 H rfl rfl rfl (cells_one (HS.ownOne H (k := 1) rfl)) rfl (fun u hu => by rw [List.mem_singleton] at hu; rw [hu]; exact HS.ownOne H (k := 1) rfl) rfl) ?_; clear H; intro w4 H
 replace H : HS ⟨S, keysR [.blk b0_ (([pa1] ++ ([pv1]))) 99, .osl (pv1) (x0).length 1 pcs1 prs1 5], w⟩ S1 w4 [.blk b0_ (([pa2] ++ ([v2]))) 99, .osl (v2) (y2).length 1 cs2 rs1 5] := H
 refine xk hK3 ?_; clear hK3
 refine sr ?_; intro K4 hK4
 refine p_as (v := .nilIface) rfl ?_
 refine xk hK4 ?_; clear hK4
 refine wp_ret ?_
 obtain rfl := Option.some.inj hF
 refine e_1 rfl (q_tmp (v := .nilIface) rfl) ?_
 replace H : HS ⟨S, keysR [.blk b0_ (([pa1] ++ ([pv1]))) 99, .osl (pv1) (x0).length 1 pcs1 prs1 5], w⟩ S1 w4 [.blk b0_ (([pa2] ++ ([v2]))) 99, .osl (v2) (y2).length 1 cs2 rs1 5] := H
 exact ⟨_, _, _, _, _, rfl, H, g2, pg4⟩
def codec_Base64_b1 (s1 : Int × Int × Int × (List UInt8)) (y1 : UInt8) (s2 : Int × (List UInt8)) : Option ((Int × (List UInt8)) ⊕ (Int × (List UInt8))) :=
  bif decide ((6 : Int) ≤ s2.1) then (Option.bind (chk (decide (0 ≤ (w64 (s2.1 - 6))))) fun y2 => Option.bind (idx ([65, 66, 67, 68, 69, 70, 71, 72, 73, 74, 75, 76, 77, 78, 79, 80, 81, 82, 83, 84, 85, 86, 87, 88, 89, 90, 97, 98, 99, 100, 101, 102, 103, 104, 105, 106, 107, 108, 109, 110, 111, 112, 113, 114, 115, 116, 117, 118, 119, 120, 121, 122, 48, 49, 50, 51, 52, 53, 54, 55, 56, 57, 45, 95] : List UInt8) (bits .and .i64 (shrI .i64 (bits .or .i64 (shlI .i64 s1.1 8) ((y1).toNat : Int)) (w64 (s2.1 - 6))) 63)) fun y3 => Option.bind (Builder_WriteByte_p s2.2 y3) fun y4 => some (.inl (((w64 (s2.1 - 6)), y4)))) else (some (.inr ((s2.1, s2.2))))
def codec_Base64_b0 (x0 : List UInt8) (s1 : Int × Int × Int × (List UInt8)) : Option ((Int × Int × Int × (List UInt8)) ⊕ (Int × Int × (List UInt8))) :=
  bif decide (s1.2.2.1 < ((x0).length : Int)) then (Option.bind (Option.bind (idx x0 s1.2.2.1) fun y1 => Option.bind (Option.bind (iter (codec_Base64_b1 s1 y1) (((w64 (s1.2.1 + 8)), s1.2.2.2))) (fun e => some (e))) (fun t3 => Option.bind (chk (decide (0 ≤ t3.1))) fun y5 => some (((bits .and .i64 (bits .or .i64 (shlI .i64 s1.1 8) ((y1).toNat : Int)) (w64 ((shlI .i64 1 t3.1) - 1))), t3.1, t3.2)))) (fun t2 => some (.inl ((t2.1, t2.2.1, (w64 (s1.2.2.1 + 1)), t2.2.2))))) else (some (.inr ((s1.1, s1.2.1, s1.2.2.2))))
def codec_Base64_p (x0 : List UInt8) : Option ((List UInt8)) :=
  Option.bind (Option.bind (iter (codec_Base64_b0 x0) ((0, 0, 0, ([] : List UInt8)))) (fun e => some (e))) (fun t1 => Option.bind (bif decide ((0 : Int) < t1.2.1) then (Option.bind (chk (decide (0 ≤ (w64 ((6 : Int) - t1.2.1))))) fun y6 => Option.bind (idx ([65, 66, 67, 68, 69, 70, 71, 72, 73, 74, 75, 76, 77, 78, 79, 80, 81, 82, 83, 84, 85, 86, 87, 88, 89, 90, 97, 98, 99, 100, 101, 102, 103, 104, 105, 106, 107, 108, 109, 110, 111, 112, 113, 114, 115, 116, 117, 118, 119, 120, 121, 122, 48, 49, 50, 51, 52, 53, 54, 55, 56, 57, 45, 95] : List UInt8) (bits .and .i64 (shlI .i64 t1.1 (w64 ((6 : Int) - t1.2.1))) 63)) fun y7 => Option.bind (Builder_WriteByte_p t1.2.2 y7) fun y8 => some (y8)) else (some (t1.2.2))) (fun t4 => Option.bind (chk (decide ((t4).length ≤ 68719476736))) fun y9 => some (t4)))
theorem codec_Base64_c {S : Mem} {w : World} (hS : Sub S w) {x0 : List UInt8} {r : (List UInt8)} (hF : codec_Base64_p x0 = some r) :
    Calls Try.prog 66 #[str (x0)] w fun e w' => e = .returned (str (r)) ∧ Ext w w' := by
 refine enter (n := 49) Try.func66 rfl rfl rfl ?_
 have H := HS.start hS
 unfold codec_Base64_p at hF
 refine sr ?_; intro K1 hK1
 refine p_as (v := str (([] : List UInt8))) rfl ?_
 refine xk hK1 ?_; clear hK1
 refine sr ?_; intro K2 hK2
 refine p_ofb (a_alloc (l := ([Value.pointer none] ++ ([Value.slice none 0 0]))) H tz99 rfl) ?_; clear H; intro w1 b1 H
 refine xk hK2 ?_; clear hK2
 refine sr ?_; intro K3 hK3
 refine p_as (v := .int .i64 (0)) rfl ?_
 refine p_as (v := .int .i64 (0)) rfl ?_
 refine xk hK3 ?_; clear hK3
 refine wp_seq_k ?_; intro K4 hK4
 refine nameF fun m1 k1 => ?_
 obtain ⟨t1, hE1, hF1⟩ := bnd hF
 have J4 : ∀ (a5 : Value) (v6 : Value) (cs6 rs6 : List Value) (S6 : Mem) (m10 : FM) (w8 : World), (∀ t, has [4, 5, 7, 8, 9, 10, 11, 12, 13, 14, 15, 16, 17, 18, 19, 20, 21, 22, 23, 24, 25, 26, 27, 28, 29, 30, 31, 32, 33, 34, 35, 36, 37, 38] t = false → look m10 t = look m1 t) → look m10 4 = .int .i64 (t1.1) → look m10 5 = .int .i64 (t1.2.1) → Mem.le S S6 → HS ⟨S, [], w⟩ S6 w8 [.osl (v6) (t1.2.2).length 1 cs6 rs6 5, .blk b1 (([a5] ++ ([v6]))) 99] → BA b1 a5 → RL S6 cs6 t1.2.2 → K4 (fr 49 m10) w8 := by
  clear H; intro a5 v6 cs6 rs6 S6 m10 w8 k12 q25 q26 hle6 H g11 g12
  have q27 : look m10 3 = .pointer (some ⟨b1, 0, none⟩) := (k12 3 rfl).trans (k1 3)
  refine hK4 _ _ ?_
  refine wp_seq_k ?_; intro K15 hK15
  refine nameF fun m11 k13 => ?_
  obtain ⟨t4, hE6, hF4⟩ := bnd hF1
  have J3 : ∀ (v7 : Value) (cs7 rs7 : List Value) (a6 : Value) (S8 : Mem) (m12 : FM) (w10 : World), (∀ t, has [39, 40, 41, 42, 43, 44, 45, 46, 47] t = false → look m12 t = look m11 t) → Mem.le S6 S8 → HS ⟨S, [], w⟩ S8 w10 [.osl (v7) (t4).length 1 cs7 rs7 5, .blk b1 (([a6] ++ ([v7]))) 99] → RL S8 cs7 t4 → BA b1 a6 → K15 (fr 49 m12) w10 := by
   clear H; intro v7 cs7 rs7 a6 S8 m12 w10 k14 hle8 H g13 g14
   have q28 : look m12 3 = .pointer (some ⟨b1, 0, none⟩) := (k14 3 rfl).trans ((k13 3).trans q27)
   refine hK15 _ _ ?_
   refine sr ?_; intro K17 hK17
   obtain ⟨y9, e9, hF4⟩ := bnd hF4
   refine p_call (l := [.pointer (some ⟨b1, 0, none⟩)]) is48 (args_cons q28 args_nil) ?_
   refine (Builder_String_c (k1 := 1) (k2 := 0) H rfl rfl g13 (Nat.le_trans (of_decide_eq_true (chk_some e9)) (by decide))).mono ?_; clear H; rintro _ w11 ⟨rfl, H⟩
   replace H : HS ⟨S, [], w⟩ S8 w11 [.blk b1 (([a6] ++ ([v7]))) 99] := H
   refine p_as (v := str (t4)) rfl ?_
   refine xk hK17 ?_; clear hK17
   refine wp_ret ?_
   obtain rfl := Option.some.inj hF4
   refine e_1 rfl (q_tmp (v := str (t4)) rfl) ?_
   exact ⟨rfl, H.toExt⟩
  refine sr ?_; intro K16 hK16
  refine p_mv ((k13 5).trans q26) ?_
  refine p_val (r_gtrI rfl rfl) ?_
  refine xk hK16 ?_; clear hK16
  refine c_split (t := decide ((0 : Int) < t1.2.1)) rfl (fun hc3 => ?_) (fun hc3 => ?_)
  ·replace hE6 := cnd_t hE6 hc3
   refine wp_region_lit ?_
   refine p_mv ((k13 4).trans q25) ?_
   refine p_mv ((k13 5).trans q26) ?_
   refine p_val (r_subI rfl rfl) ?_
   obtain ⟨y6, e6, hE6⟩ := bnd hE6
   refine p_val (r_shl (r := shlI .i64 t1.1 (w64 ((6 : Int) - t1.2.1))) rfl rfl (Int.not_lt.2 (of_decide_eq_true (chk_some e6))) rfl) ?_
   refine p_val (r_bits (bo := .and) (by simp) (r := (bits .and .i64 (shlI .i64 t1.1 (w64 ((6 : Int) - t1.2.1))) 63)) rfl rfl rfl) ?_
   obtain ⟨y7, e7, hE6⟩ := bnd hE6
   refine p_val (r_idxT (i := ((bits .and .i64 (shlI .i64 t1.1 (w64 ((6 : Int) - t1.2.1))) 63) : Int).toNat) (u := y7) u9 rfl rfl (idx_some e7).1 (idx_some e7).2) ?_
   obtain ⟨y8, e8, hE6⟩ := bnd hE6
   refine p_call (l := [.pointer (some ⟨b1, 0, none⟩), .int .u8 (((y7).toNat : Int))]) is78 (args_cons ((k13 3).trans q27) (args_cons rfl args_nil)) ?_
   refine (Builder_WriteByte_c (H.hand [1, 0] rfl) g12 g11 e8).mono ?_; rintro _ w9 ⟨S7, pv2, pcs2, prs2, pa2, rfl, H2, pg3, pg4⟩
   obtain ⟨H1, hle7⟩ := H.frame [1, 0] [] rfl H2; clear H H2; have H := H1; clear H1
   replace H : HS ⟨S, [], w⟩ S7 w9 [.blk b1 (([pa2] ++ ([pv2]))) 99, .osl (pv2) (y8).length 1 pcs2 prs2 5] := H
   refine wpList_nil ?_
   refine x_norm ?_
   replace H := H.sel [1, 0] rfl
   replace H : HS ⟨S, [], w⟩ S7 w9 [.osl (pv2) (y8).length 1 pcs2 prs2 5, .blk b1 (([pa2] ++ ([pv2]))) 99] := H
   obtain rfl := Option.some.inj hE6
   exact J3 _ _ _ _ _ _ _ (by (repeat (refine keep_cons rfl ?_)); exact fun _ _ => rfl) hle7 H pg3 pg4
  ·replace hE6 := cnd_f hE6 hc3
   refine wp_skip ?_
   refine x_norm ?_
   replace H : HS ⟨S, [], w⟩ S6 w8 [.osl (v6) (t1.2.2).length 1 cs6 rs6 5, .blk b1 (([a5] ++ ([v6]))) 99] := H
   obtain rfl := Option.some.inj hE6
   exact J3 _ _ _ _ _ _ _ (by (repeat (refine keep_cons rfl ?_)); exact fun _ _ => rfl) (Mem.le_refl _) H g12 g11
 refine sr ?_; intro K5 hK5
 refine p_mv (k1 0) ?_
 refine p_of1 (a_bytes (l := x0) u9 u67 u5 H rfl) ?_; clear H; rintro w2 v1 ⟨rs1, H⟩
 have g1 : RL S (u8s x0) x0 := RL.of_u8s _
 replace H : HS ⟨S, [], w⟩ S w2 [.osl (v1) (x0).length 1 (u8s x0) rs1 5, .blk b1 (([Value.pointer none] ++ ([Value.slice none 0 0]))) 99] := H
 refine p_val (r_lenO u67 rfl H (k := 0) rfl rfl) ?_
 refine p_mv (v := .int .i64 (0)) rfl ?_
 refine xk hK5 ?_; clear hK5
 refine wp_block ?_
 refine nameF fun m2 k2 => ?_
 obtain ⟨out1, hL1, hE2⟩ := bnd hE1
 replace H := H.nilOwn 1 5; have g4 : RL S [] ([] : List UInt8) := RL.nil
 replace H : HS ⟨S, [], w⟩ S w2 [.osl (.slice none 0 0) (([] : List UInt8)).length 1 [] [] 5, .osl (v1) (x0).length 1 (u8s x0) rs1 5, .blk b1 (([Value.pointer none] ++ ([Value.slice none 0 0]))) 99] := H
 refine loopI [4, 5, 7, 11, 12, 13, 14, 15, 16, 17, 18, 19, 20, 21, 22, 23, 24, 25, 26, 27, 28, 29, 30, 31, 32, 33, 34, 35, 36, 37, 38] (fun (s1 : Int × Int × Int × (List UInt8)) (m3 : FM) (w3 : World) => ∃ (S1 : Mem) (a1 : Value) (v2 : Value) (cs1 rs2 : List Value), look m3 4 = .int .i64 (s1.1) ∧ look m3 5 = .int .i64 (s1.2.1) ∧ look m3 11 = .int .i64 (s1.2.2.1) ∧ Mem.le S S1 ∧ HS ⟨S, [], w⟩ S1 w3 [.osl (v2) (s1.2.2.2).length 1 cs1 rs2 5, .osl (v1) (x0).length 1 (u8s x0) rs1 5, .blk b1 (([a1] ++ ([v2]))) 99] ∧ BA b1 a1 ∧ RL S1 cs1 s1.2.2.2) hL1 ⟨_, _, _, _, _, ((k2 4).trans (k1 4)), ((k2 5).trans (k1 5)), (k2 11), (Mem.le_refl _), H, (Or.inl rfl), g4⟩ ?_
 clear H; intro k4 s1 m3 w3 k3 hI1 o2 hb1 hh1; obtain ⟨S1, a1, v2, cs1, rs2, q1, q2, q3, hle1, H, g2, g3⟩ := hI1
 replace g1 := RL.mono g1 hle1
 have q4 : look m3 3 = .pointer (some ⟨b1, 0, none⟩) := (k3 3 rfl).trans ((k2 3).trans (k1 3))
 have q5 : look m3 9 = v1 := (k3 9 rfl).trans (k2 9)
 have q6 : look m3 10 = .int .i64 (((x0).length : Int)) := (k3 10 rfl).trans (k2 10)
 unfold codec_Base64_b0 at hb1
 refine sr ?_; intro K6 hK6
 refine p_val (r_lssI q3 q6) ?_
 refine xk hK6 ?_; clear hK6
 refine wp_seq_k ?_; intro K7 hK7
 refine c_split (t := decide (s1.2.2.1 < ((x0).length : Int))) rfl (fun hc1 => ?_) (fun hc1 => ?_)
 ·replace hb1 := cnd_t hb1 hc1
  refine wp_skip ?_
  refine xn hK7 ?_; clear hK7
  refine wp_seq_k ?_; intro K8 hK8
  refine nameF fun m4 k5 => ?_
  obtain ⟨t2, hE3, hF2⟩ := bnd hb1
  have J2 : ∀ (v5 : Value) (cs5 rs5 : List Value) (a4 : Value) (S5 : Mem) (m9 : FM) (w7 : World), (∀ t, has [4, 5, 7, 13, 14, 15, 16, 17, 18, 19, 20, 21, 22, 23, 24, 25, 26, 27, 28, 29, 30, 31, 32, 33, 34, 35, 36, 37] t = false → look m9 t = look m4 t) → look m9 4 = .int .i64 (t2.1) → look m9 5 = .int .i64 (t2.2.1) → Mem.le S1 S5 → HS ⟨S, [], w⟩ S5 w7 [.osl (v5) (t2.2.2).length 1 cs5 rs5 5, .osl (v1) (x0).length 1 (u8s x0) rs1 5, .blk b1 (([a4] ++ ([v5]))) 99] → RL S5 cs5 t2.2.2 → BA b1 a4 → K8 (fr 49 m9) w7 := by
   clear H; intro v5 cs5 rs5 a4 S5 m9 w7 k11 q19 q20 hle5 H g9 g10
   replace g1 := RL.mono g1 hle5
   have q21 : look m9 3 = .pointer (some ⟨b1, 0, none⟩) := (k11 3 rfl).trans ((k5 3).trans q4)
   have q22 : look m9 9 = v1 := (k11 9 rfl).trans ((k5 9).trans q5)
   have q23 : look m9 10 = .int .i64 (((x0).length : Int)) := (k11 10 rfl).trans ((k5 10).trans q6)
   have q24 : look m9 11 = .int .i64 (s1.2.2.1) := (k11 11 rfl).trans ((k5 11).trans q3)
   refine hK8 _ _ ?_
   refine wp_region_lit ?_
   refine p_val (r_addI q24 rfl) ?_
   refine p_mv (v := .int .i64 ((w64 (s1.2.2.1 + 1)))) rfl ?_
   refine wpList_nil ?_
   refine x_norm ?_
   replace H : HS ⟨S, [], w⟩ S5 w7 [.osl (v5) (t2.2.2).length 1 cs5 rs5 5, .osl (v1) (x0).length 1 (u8s x0) rs1 5, .blk b1 (([a4] ++ ([v5]))) 99] := H
   obtain rfl := Option.some.inj hF2
   exact ⟨(t2.1, t2.2.1, (w64 (s1.2.2.1 + 1)), t2.2.2), _, rfl, (by (repeat (refine keep_cons rfl ?_)); refine keep_sub k11 rfl ?_; (repeat (refine keep_cons rfl ?_)); refine keep_name k5 ?_; (repeat (refine keep_cons rfl ?_)); refine keep_sub k3 rfl ?_; (repeat (refine keep_cons rfl ?_)); exact fun _ _ => rfl), ⟨_, _, _, _, _, q19, q20, rfl, (Mem.le_trans hle1 hle5), H, g10, g9⟩, hh1⟩
  refine wp_block ?_
  refine sr ?_; intro K9 hK9
  obtain ⟨y1, e1, hE3⟩ := bnd hE3
  obtain ⟨b2, c1, hv1⟩ := H.ownAt (k := 1) rfl (idx_lt e1)
  refine p_val (r_addrV (i := (s1.2.2.1 : Int).toNat) u67 tsz5 ((k5 9).trans q5) hv1 ((k5 11).trans q3) (idx_some e1).1 (idx_lt e1)) ?_
  subst hv1
  have hr1 := RL.get g1 (idx_some e1).2; generalize hghr1 : piece (u8s x0) _ _ = cs2 at hr1
  obtain rfl := elU8 hr1
  refine p_val (o_load1 (v := .int .u8 (((y1).toNat : Int))) to5 H (k := 1) rfl rfl (idx_lt e1) hghr1) ?_
  refine p_as (v := .int .u8 (((y1).toNat : Int))) rfl ?_
  refine xk hK9 ?_; clear hK9
  refine sr ?_; intro K10 hK10
  refine p_mv ((k5 4).trans q1) ?_
  refine p_val (r_shl (r := shlI .i64 s1.1 8) rfl rfl (by decide) rfl) ?_
  refine p_mv (v := .int .u8 (((y1).toNat : Int))) rfl ?_
  refine p_val (r_conv u5 u3 rfl (w64_u8 _)) ?_
  refine p_val (r_bits (bo := .or) (by simp) (r := (bits .or .i64 (shlI .i64 s1.1 8) ((y1).toNat : Int))) rfl rfl rfl) ?_
  refine p_mv ((k5 5).trans q2) ?_
  refine p_val (r_addI rfl rfl) ?_
  refine p_as (v := .int .i64 ((bits .or .i64 (shlI .i64 s1.1 8) ((y1).toNat : Int)))) rfl ?_
  refine p_as (v := .int .i64 ((w64 (s1.2.1 + 8)))) rfl ?_
  refine xk hK10 ?_; clear hK10
  refine wp_seq_k ?_; intro K11 hK11
  refine nameF fun m5 k6 => ?_
  obtain ⟨t3, hE4, hF3⟩ := bnd hE3
  have J1 : ∀ (v4 : Value) (cs4 rs4 : List Value) (a3 : Value) (S4 : Mem) (m8 : FM) (w6 : World), (∀ t, has [5, 22, 23, 24, 25, 26, 27, 28, 29, 30, 31, 32] t = false → look m8 t = look m5 t) → look m8 5 = .int .i64 (t3.1) → Mem.le S1 S4 → HS ⟨S, [], w⟩ S4 w6 [.osl (v4) (t3.2).length 1 cs4 rs4 5, .osl (sl b2 0 (x0).length c1) (x0).length 1 (u8s x0) rs1 5, .blk b1 (([a3] ++ ([v4]))) 99] → RL S4 cs4 t3.2 → BA b1 a3 → K11 (fr 49 m8) w6 := by
   clear H; intro v4 cs4 rs4 a3 S4 m8 w6 k10 q13 hle4 H g7 g8
   replace g1 := RL.mono g1 hle4
   have q14 : look m8 3 = .pointer (some ⟨b1, 0, none⟩) := (k10 3 rfl).trans ((k6 3).trans ((k5 3).trans q4))
   have q15 : look m8 9 = sl b2 0 (x0).length c1 := (k10 9 rfl).trans ((k6 9).trans ((k5 9).trans q5))
   have q16 : look m8 10 = .int .i64 (((x0).length : Int)) := (k10 10 rfl).trans ((k6 10).trans ((k5 10).trans q6))
   have q17 : look m8 4 = .int .i64 ((bits .or .i64 (shlI .i64 s1.1 8) ((y1).toNat : Int))) := (k10 4 rfl).trans (k6 4)
   have q18 : look m8 11 = .int .i64 (s1.2.2.1) := (k10 11 rfl).trans ((k6 11).trans ((k5 11).trans q3))
   refine hK11 _ _ ?_
   refine wp_region_lit ?_
   refine p_mv q17 ?_
   refine p_mv q13 ?_
   obtain ⟨y5, e5, hF3⟩ := bnd hF3
   refine p_val (r_shl (r := shlI .i64 1 t3.1) rfl rfl (Int.not_lt.2 (of_decide_eq_true (chk_some e5))) rfl) ?_
   refine p_val (r_subI rfl rfl) ?_
   refine p_val (r_bits (bo := .and) (by simp) (r := (bits .and .i64 (bits .or .i64 (shlI .i64 s1.1 8) ((y1).toNat : Int)) (w64 ((shlI .i64 1 t3.1) - 1)))) rfl rfl rfl) ?_
   refine p_as (v := .int .i64 ((bits .and .i64 (bits .or .i64 (shlI .i64 s1.1 8) ((y1).toNat : Int)) (w64 ((shlI .i64 1 t3.1) - 1))))) rfl ?_
   refine wpList_nil ?_
   refine b_norm ?_
   refine x_norm ?_
   replace H : HS ⟨S, [], w⟩ S4 w6 [.osl (v4) (t3.2).length 1 cs4 rs4 5, .osl (sl b2 0 (x0).length c1) (x0).length 1 (u8s x0) rs1 5, .blk b1 (([a3] ++ ([v4]))) 99] := H
   obtain rfl := Option.some.inj hF3
   exact J2 _ _ _ _ _ _ _ (by (repeat (refine keep_cons rfl ?_)); refine keep_sub k10 rfl ?_; (repeat (refine keep_cons rfl ?_)); refine keep_name k6 ?_; (repeat (refine keep_cons rfl ?_)); exact fun _ _ => rfl) rfl q13 hle4 H g7 g8
  refine wp_block ?_
  refine nameF fun m6 k7 => ?_
  obtain ⟨out2, hL2, hE5⟩ := bnd hE4
  replace H : HS ⟨S, [], w⟩ S1 w3 [.osl (v2) (s1.2.2.2).length 1 cs1 rs2 5, .osl (sl b2 0 (x0).length c1) (x0).length 1 (u8s x0) rs1 5, .blk b1 (([a1] ++ ([v2]))) 99] := H
  refine loopI [5, 22, 23, 24, 25, 26, 27, 28, 29, 30, 31, 32] (fun (s2 : Int × (List UInt8)) (m7 : FM) (w4 : World) => ∃ (S2 : Mem) (v3 : Value) (cs3 rs3 : List Value) (a2 : Value), look m7 5 = .int .i64 (s2.1) ∧ Mem.le S1 S2 ∧ HS ⟨S, [], w⟩ S2 w4 [.osl (v3) (s2.2).length 1 cs3 rs3 5, .osl (sl b2 0 (x0).length c1) (x0).length 1 (u8s x0) rs1 5, .blk b1 (([a2] ++ ([v3]))) 99] ∧ RL S2 cs3 s2.2 ∧ BA b1 a2) hL2 ⟨_, _, _, _, _, ((k7 5).trans (k6 5)), (Mem.le_refl _), H, g3, g2⟩ ?_
  clear H; intro k9 s2 m7 w4 k8 hI2 o5 hb2 hh2; obtain ⟨S2, v3, cs3, rs3, a2, q7, hle2, H, g5, g6⟩ := hI2
  replace g1 := RL.mono g1 hle2
  have q8 : look m7 3 = .pointer (some ⟨b1, 0, none⟩) := (k8 3 rfl).trans ((k7 3).trans ((k6 3).trans ((k5 3).trans q4)))
  have q9 : look m7 9 = sl b2 0 (x0).length c1 := (k8 9 rfl).trans ((k7 9).trans ((k6 9).trans ((k5 9).trans q5)))
  have q10 : look m7 10 = .int .i64 (((x0).length : Int)) := (k8 10 rfl).trans ((k7 10).trans ((k6 10).trans ((k5 10).trans q6)))
  have q11 : look m7 4 = .int .i64 ((bits .or .i64 (shlI .i64 s1.1 8) ((y1).toNat : Int))) := (k8 4 rfl).trans ((k7 4).trans (k6 4))
  have q12 : look m7 11 = .int .i64 (s1.2.2.1) := (k8 11 rfl).trans ((k7 11).trans ((k6 11).trans ((k5 11).trans q3)))
  unfold codec_Base64_b1 at hb2
  refine wp_seq_k ?_; intro K12 hK12
  refine sr ?_; intro K13 hK13
  refine p_mv q7 ?_
  refine p_val (r_geqI rfl rfl) ?_
  refine xk hK13 ?_; clear hK13
  refine c_split (t := decide ((6 : Int) ≤ s2.1)) rfl (fun hc2 => ?_) (fun hc2 => ?_)
  ·replace hb2 := cnd_t hb2 hc2
   refine wp_skip ?_
   refine xn hK12 ?_; clear hK12
   refine wp_seq_k ?_; intro K14 hK14
   refine wp_block ?_
   refine wp_region_lit ?_
   refine p_mv q11 ?_
   refine p_mv q7 ?_
   refine p_val (r_subI rfl rfl) ?_
   obtain ⟨y2, e2, hb2⟩ := bnd hb2
   refine p_val (r_shr (r := shrI .i64 (bits .or .i64 (shlI .i64 s1.1 8) ((y1).toNat : Int)) (w64 (s2.1 - 6))) rfl rfl (Int.not_lt.2 (of_decide_eq_true (chk_some e2))) rfl) ?_
   refine p_val (r_bits (bo := .and) (by simp) (r := (bits .and .i64 (shrI .i64 (bits .or .i64 (shlI .i64 s1.1 8) ((y1).toNat : Int)) (w64 (s2.1 - 6))) 63)) rfl rfl rfl) ?_
   obtain ⟨y3, e3, hb2⟩ := bnd hb2
   refine p_val (r_idxT (i := ((bits .and .i64 (shrI .i64 (bits .or .i64 (shlI .i64 s1.1 8) ((y1).toNat : Int)) (w64 (s2.1 - 6))) 63) : Int).toNat) (u := y3) u9 rfl rfl (idx_some e3).1 (idx_some e3).2) ?_
   obtain ⟨y4, e4, hb2⟩ := bnd hb2
   refine p_call (l := [.pointer (some ⟨b1, 0, none⟩), .int .u8 (((y3).toNat : Int))]) is78 (args_cons q8 (args_cons rfl args_nil)) ?_
   refine (Builder_WriteByte_c (H.hand [2, 0] rfl) g5 g6 e4).mono ?_; rintro _ w5 ⟨S3, pv1, pcs1, prs1, pa1, rfl, H2, pg1, pg2⟩
   obtain ⟨H1, hle3⟩ := H.frame [2, 0] [1] rfl H2; clear H H2; have H := H1; clear H1
   replace g1 := RL.mono g1 hle3
   replace H : HS ⟨S, [], w⟩ S3 w5 [.blk b1 (([pa1] ++ ([pv1]))) 99, .osl (pv1) (y4).length 1 pcs1 prs1 5, .osl (sl b2 0 (x0).length c1) (x0).length 1 (u8s x0) rs1 5] := H
   refine wpList_nil ?_
   refine b_norm ?_
   refine xn hK14 ?_; clear hK14
   refine wp_region_lit ?_
   refine p_mv q7 ?_
   refine p_val (r_subI rfl rfl) ?_
   refine p_as (v := .int .i64 ((w64 (s2.1 - 6)))) rfl ?_
   refine wpList_nil ?_
   refine x_norm ?_
   replace H := H.sel [1, 2, 0] rfl
   replace H : HS ⟨S, [], w⟩ S3 w5 [.osl (pv1) (y4).length 1 pcs1 prs1 5, .osl (sl b2 0 (x0).length c1) (x0).length 1 (u8s x0) rs1 5, .blk b1 (([pa1] ++ ([pv1]))) 99] := H
   obtain rfl := Option.some.inj hb2
   exact ⟨((w64 (s2.1 - 6)), y4), _, rfl, (by (repeat (refine keep_cons rfl ?_)); refine keep_sub k8 rfl ?_; (repeat (refine keep_cons rfl ?_)); exact fun _ _ => rfl), ⟨_, _, _, _, _, rfl, (Mem.le_trans hle2 hle3), H, pg1, pg2⟩, hh2⟩
  ·replace hb2 := cnd_f hb2 hc2
   refine wp_exit ?_
   refine x_exit ?_
   refine x_exit ?_
   refine b_hit ?_
   refine x_norm ?_
   replace H : HS ⟨S, [], w⟩ S2 w4 [.osl (v3) (s2.2).length 1 cs3 rs3 5, .osl (sl b2 0 (x0).length c1) (x0).length 1 (u8s x0) rs1 5, .blk b1 (([a2] ++ ([v3]))) 99] := H
   obtain rfl := Option.some.inj hb2
   obtain rfl := Option.some.inj hh2
   obtain rfl := Option.some.inj hE5
   exact J1 _ _ _ _ _ _ _ (by (repeat (refine keep_cons rfl ?_)); refine keep_sub k8 rfl ?_; (repeat (refine keep_cons rfl ?_)); refine keep_name k7 ?_; (repeat (refine keep_cons rfl ?_)); exact fun _ _ => rfl) q7 hle2 H g5 g6
 ·replace hb1 := cnd_f hb1 hc1
  refine wp_exit ?_
  refine x_exit ?_
  refine x_exit ?_
  refine b_hit ?_
  refine x_norm ?_
  replace H := H.sel [0, 2] rfl
  replace H : HS ⟨S, [], w⟩ S1 w3 [.osl (v2) (s1.2.2.2).length 1 cs1 rs2 5, .blk b1 (([a1] ++ ([v2]))) 99] := H
  obtain rfl := Option.some.inj hb1
  obtain rfl := Option.some.inj hh1
  obtain rfl := Option.some.inj hE2
  exact J4 _ _ _ _ _ _ _ (by (repeat (refine keep_cons rfl ?_)); refine keep_sub k3 rfl ?_; (repeat (refine keep_cons rfl ?_)); refine keep_name k2 ?_; (repeat (refine keep_cons rfl ?_)); exact fun _ _ => rfl) q1 q2 hle1 H g2 g3
def seneschalref01_bit_p (x0 : List UInt8) (x1 : Int) : Option (Int) :=
  bif decide ((w64 ((8 : Int) * ((x0).length : Int))) ≤ x1) then (some (0)) else (Option.bind (idx x0 (w64 (Int.tdiv x1 8))) fun y1 => Option.bind (chk (decide (0 ≤ (w64 ((7 : Int) - (Int.tmod x1 8)))))) fun y2 => some ((bits .and .i64 (((i8 (shrI .u8 ((y1).toNat : Int) (w64 ((7 : Int) - (Int.tmod x1 8)))))).toNat : Int) 1)))
theorem seneschalref01_bit_c {S : Mem} {w : World} (hS : Sub S w) {x0 : List UInt8} {x1 : Int} {r : Int} (hF : seneschalref01_bit_p x0 x1 = some r) :
    Calls Try.prog 41 #[str (x0), .int .i64 (x1)] w fun e w' => e = .returned (.int .i64 (r)) ∧ Ext w w' := by
 refine enter (n := 20) Try.func41 rfl rfl rfl ?_
 have H := HS.start hS
 unfold seneschalref01_bit_p at hF
 refine sr ?_; intro K1 hK1
 refine p_as (v := .int .i64 (0)) rfl ?_
 refine xk hK1 ?_; clear hK1
 refine wp_seq_k ?_; intro K2 hK2
 refine sr ?_; intro K3 hK3
 refine p_mv (v := .int .i64 (x1)) rfl ?_
 refine p_mv (v := str (x0)) rfl ?_
 refine p_val (r_lenT (N := (x0).length) u9 rfl rfl) ?_
 refine p_val (r_mulI rfl rfl) ?_
 refine p_val (r_geqI rfl rfl) ?_
 refine xk hK3 ?_; clear hK3
 refine c_split (t := decide ((w64 ((8 : Int) * ((x0).length : Int))) ≤ x1)) rfl (fun hc1 => ?_) (fun hc1 => ?_)
 ·replace hF := cnd_t hF hc1
  refine sr ?_; intro K4 hK4
  refine p_as (v := .int .i64 (0)) rfl ?_
  refine xk hK4 ?_; clear hK4
  refine wp_ret ?_
  refine x_ret ?_
  obtain rfl := Option.some.inj hF
  refine e_1 rfl (q_tmp (v := .int .i64 (0)) rfl) ?_
  exact ⟨rfl, H.toExt⟩
 ·replace hF := cnd_f hF hc1
  refine wp_skip ?_
  refine xn hK2 ?_; clear hK2
  refine sr ?_; intro K5 hK5
  refine p_mv (v := str (x0)) rfl ?_
  refine p_mv (v := .int .i64 (x1)) rfl ?_
  refine p_val (r_quo (r := w64 (Int.tdiv x1 8)) rfl rfl (by decide) rfl) ?_
  obtain ⟨y1, e1, hF⟩ := bnd hF
  refine p_val (r_idxT (i := ((w64 (Int.tdiv x1 8)) : Int).toNat) (u := y1) u9 rfl rfl (idx_some e1).1 (idx_some e1).2) ?_
  refine p_mv (v := .int .i64 (x1)) rfl ?_
  refine p_val (r_rem (r := Int.tmod x1 8) rfl rfl (by decide) rfl) ?_
  refine p_val (r_subI rfl rfl) ?_
  obtain ⟨y2, e2, hF⟩ := bnd hF
  refine p_val (r_shr rfl rfl (Int.not_lt.2 (of_decide_eq_true (chk_some e2))) (i8_shr _ _)) ?_
  refine p_val (r_conv u5 u3 rfl (w64_u8 _)) ?_
  refine p_val (r_bits (bo := .and) (by simp) (r := (bits .and .i64 (((i8 (shrI .u8 ((y1).toNat : Int) (w64 ((7 : Int) - (Int.tmod x1 8)))))).toNat : Int) 1)) rfl rfl rfl) ?_
  refine p_as (v := .int .i64 ((bits .and .i64 (((i8 (shrI .u8 ((y1).toNat : Int) (w64 ((7 : Int) - (Int.tmod x1 8)))))).toNat : Int) 1))) rfl ?_
  refine xk hK5 ?_; clear hK5
  refine wp_ret ?_
  obtain rfl := Option.some.inj hF
  refine e_1 rfl (q_tmp (v := .int .i64 ((bits .and .i64 (((i8 (shrI .u8 ((y1).toNat : Int) (w64 ((7 : Int) - (Int.tmod x1 8)))))).toNat : Int) 1))) rfl) ?_
  exact ⟨rfl, H.toExt⟩
def seneschalref01_Base64_b1 (x0 : List UInt8) (s1 : Int × (List UInt8)) (s2 : Int × Int) : Option ((Int × Int) ⊕ (Int)) :=
  bif decide (s2.2 < 6) then (Option.bind (seneschalref01_bit_p x0 (w64 (s1.1 + s2.2))) fun y1 => some (.inl (((w64 ((w64 ((2 : Int) * s2.1)) + y1)), (w64 (s2.2 + 1)))))) else (some (.inr (s2.1)))
def seneschalref01_Base64_b0 (x0 : List UInt8) (s1 : Int × (List UInt8)) : Option ((Int × (List UInt8)) ⊕ ((List UInt8))) :=
  bif decide (s1.1 < (w64 ((8 : Int) * ((x0).length : Int)))) then (Option.bind (Option.bind (Option.bind (iter (seneschalref01_Base64_b1 x0 s1) ((0, 0))) (fun e => some (e))) (fun t3 => Option.bind (idx ([65, 66, 67, 68, 69, 70, 71, 72, 73, 74, 75, 76, 77, 78, 79, 80, 81, 82, 83, 84, 85, 86, 87, 88, 89, 90, 97, 98, 99, 100, 101, 102, 103, 104, 105, 106, 107, 108, 109, 110, 111, 112, 113, 114, 115, 116, 117, 118, 119, 120, 121, 122, 48, 49, 50, 51, 52, 53, 54, 55, 56, 57, 45, 95] : List UInt8) t3) fun y2 => Option.bind (app s1.2 ([y2] : List UInt8)) fun y3 => some (y3))) (fun t2 => some (.inl (((w64 (s1.1 + 6)), t2))))) else (some (.inr (s1.2)))
def seneschalref01_Base64_p (x0 : List UInt8) : Option ((List UInt8)) :=
  Option.bind (Option.bind (iter (seneschalref01_Base64_b0 x0) ((0, ([] : List UInt8)))) (fun e => some (e))) (fun t1 => some (t1))
theorem seneschalref01_Base64_c {S : Mem} {w : World} (hS : Sub S w) {x0 : List UInt8} {r : (List UInt8)} (hF : seneschalref01_Base64_p x0 = some r) :
    Calls Try.prog 16 #[str (x0)] w fun e w' => e = .returned (str (r)) ∧ Ext w w' := by
 refine enter (n := 34) Try.func16 rfl rfl rfl ?_
 have H := HS.start hS
 unfold seneschalref01_Base64_p at hF
 refine sr ?_; intro K1 hK1
 refine p_as (v := str (([] : List UInt8))) rfl ?_
 refine xk hK1 ?_; clear hK1
 refine sr ?_; intro K2 hK2
 have g1 : RL S ([] : List Value) ([] : List UInt8) := RL.nil
 refine p_of1 (a_bslice (N := 0) (vals := []) (l := ([] : List Value)) tn67 H rfl rfl rfl g1.len) ?_; clear H; intro w1 v1 H
 replace H : HS ⟨S, [], w⟩ S w1 [.osl (v1) (([] : List UInt8)).length 1 ([] : List Value) [] 5] := H
 refine p_as (v := v1) rfl ?_
 refine xk hK2 ?_; clear hK2
 refine wp_seq_k ?_; intro K3 hK3
 refine nameF fun m1 k1 => ?_
 obtain ⟨t1, hE1, hF1⟩ := bnd hF
 have J3 : ∀ (v6 : Value) (cs6 rs4 : List Value) (m10 : FM) (w9 : World), (∀ t, has [3, 4, 5, 6, 8, 9, 10, 11, 12, 13, 14, 15, 16, 17, 18, 19, 20, 21, 22, 23, 24, 25, 26, 27, 28, 29, 30, 31] t = false → look m10 t = look m1 t) → look m10 3 = v6 → HS ⟨S, [], w⟩ S w9 [.osl (v6) (t1).length 1 cs6 rs4 5] → RL S cs6 t1 → K3 (fr 34 m10) w9 := by
  clear H; intro v6 cs6 rs4 m10 w9 k12 q16 H g6
  refine hK3 _ _ ?_
  refine sr ?_; intro K14 hK14
  refine p_mv (v := v6) q16 ?_
  refine p_val (r_strO u67 u5 u9 rfl H (k := 0) rfl g6) ?_
  refine p_as (v := str (t1)) rfl ?_
  refine xk hK14 ?_; clear hK14
  refine wp_ret ?_
  obtain rfl := Option.some.inj hF1
  refine e_1 rfl (q_tmp (v := str (t1)) rfl) ?_
  exact ⟨rfl, H.toExt⟩
 refine sr ?_; intro K4 hK4
 refine p_as (v := .int .i64 (0)) rfl ?_
 refine xk hK4 ?_; clear hK4
 refine wp_block ?_
 refine nameF fun m2 k2 => ?_
 obtain ⟨out1, hL1, hE2⟩ := bnd hE1
 replace H : HS ⟨S, [], w⟩ S w1 [.osl (v1) (([] : List UInt8)).length 1 ([] : List Value) [] 5] := H
 refine loopI [3, 4, 5, 6, 8, 9, 10, 11, 12, 13, 14, 15, 16, 17, 18, 19, 20, 21, 22, 23, 24, 25, 26, 27, 28, 29, 30, 31] (fun (s1 : Int × (List UInt8)) (m3 : FM) (w2 : World) => ∃ (v2 : Value) (cs2 rs1 : List Value), look m3 3 = v2 ∧ look m3 4 = .int .i64 (s1.1) ∧ HS ⟨S, [], w⟩ S w2 [.osl (v2) (s1.2).length 1 cs2 rs1 5] ∧ RL S cs2 s1.2) hL1 ⟨_, _, _, (show _ = (v1 : Value) from ((k2 3).trans (k1 3))), (k2 4), H, g1⟩ ?_
 clear H; intro k4 s1 m3 w2 k3 hI1 o2 hb1 hh1; obtain ⟨v2, cs2, rs1, q1, q2, H, g2⟩ := hI1
 have q3 : look m3 0 = str (x0) := (k3 0 rfl).trans ((k2 0).trans (k1 0))
 unfold seneschalref01_Base64_b0 at hb1
 refine wp_seq_k ?_; intro K5 hK5
 refine sr ?_; intro K6 hK6
 refine p_mv q2 ?_
 refine p_mv q3 ?_
 refine p_val (r_lenT (N := (x0).length) u9 rfl rfl) ?_
 refine p_val (r_mulI rfl rfl) ?_
 refine p_val (r_lssI rfl rfl) ?_
 refine xk hK6 ?_; clear hK6
 refine c_split (t := decide (s1.1 < (w64 ((8 : Int) * ((x0).length : Int))))) rfl (fun hc1 => ?_) (fun hc1 => ?_)
 ·replace hb1 := cnd_t hb1 hc1
  refine wp_skip ?_
  refine xn hK5 ?_; clear hK5
  refine wp_seq_k ?_; intro K7 hK7
  refine nameF fun m4 k5 => ?_
  obtain ⟨t2, hE3, hF2⟩ := bnd hb1
  have J2 : ∀ (v5 : Value) (cs5 rs3 : List Value) (m9 : FM) (w8 : World), (∀ t, has [3, 5, 6, 15, 16, 17, 18, 19, 20, 21, 22, 23, 24, 25, 26, 27, 28, 29, 30, 31] t = false → look m9 t = look m4 t) → look m9 3 = v5 → HS ⟨S, [], w⟩ S w8 [.osl (v5) (t2).length 1 cs5 rs3 5] → RL S cs5 t2 → K7 (fr 34 m9) w8 := by
   clear H; intro v5 cs5 rs3 m9 w8 k11 q13 H g5
   have q14 : look m9 0 = str (x0) := (k11 0 rfl).trans ((k5 0).trans q3)
   have q15 : look m9 4 = .int .i64 (s1.1) := (k11 4 rfl).trans ((k5 4).trans q2)
   refine hK7 _ _ ?_
   refine wp_region_lit ?_
   refine p_mv q15 ?_
   refine p_val (r_addI rfl rfl) ?_
   refine p_as (v := .int .i64 ((w64 (s1.1 + 6)))) rfl ?_
   refine wpList_nil ?_
   refine x_norm ?_
   replace H : HS ⟨S, [], w⟩ S w8 [.osl (v5) (t2).length 1 cs5 rs3 5] := H
   obtain rfl := Option.some.inj hF2
   exact ⟨((w64 (s1.1 + 6)), t2), _, rfl, (by (repeat (refine keep_cons rfl ?_)); refine keep_sub k11 rfl ?_; (repeat (refine keep_cons rfl ?_)); refine keep_name k5 ?_; (repeat (refine keep_cons rfl ?_)); refine keep_sub k3 rfl ?_; (repeat (refine keep_cons rfl ?_)); exact fun _ _ => rfl), ⟨_, _, _, (show _ = (v5 : Value) from q13), rfl, H, g5⟩, hh1⟩
  refine wp_block ?_
  refine sr ?_; intro K8 hK8
  refine p_as (v := .int .i64 (0)) rfl ?_
  refine xk hK8 ?_; clear hK8
  refine wp_seq_k ?_; intro K9 hK9
  refine nameF fun m5 k6 => ?_
  obtain ⟨t3, hE4, hF3⟩ := bnd hE3
  have J1 : ∀ (m8 : FM) (w5 : World), (∀ t, has [5, 6, 15, 16, 17, 18, 19, 20, 21, 22, 23, 24, 25, 26] t = false → look m8 t = look m5 t) → look m8 5 = .int .i64 (t3) → HS ⟨S, [], w⟩ S w5 [.osl (v2) (s1.2).length 1 cs2 rs1 5] → K9 (fr 34 m8) w5 := by
   clear H; intro m8 w5 k10 q9 H
   have q10 : look m8 0 = str (x0) := (k10 0 rfl).trans ((k6 0).trans ((k5 0).trans q3))
   have q11 : look m8 3 = v2 := (k10 3 rfl).trans ((k6 3).trans ((k5 3).trans q1))
   have q12 : look m8 4 = .int .i64 (s1.1) := (k10 4 rfl).trans ((k6 4).trans ((k5 4).trans q2))
   refine hK9 _ _ ?_
   refine wp_region_lit ?_
   refine p_mv (v := v2) q11 ?_
   refine p_mv q9 ?_
   obtain ⟨y2, e2, hF3⟩ := bnd hF3
   refine p_val (r_idxT (i := (t3 : Int).toNat) (u := y2) u9 rfl rfl (idx_some e2).1 (idx_some e2).2) ?_
   have g3 : RL S ([Value.int .u8 (((y2).toNat : Int))] ++ ([] : List Value)) ([y2] : List UInt8) := (RL.cons rpU8 RL.nil)
   refine p_of1 (a_bslice (N := 1) (vals := [(0, .int .u8 (((y2).toNat : Int)))]) (l := ([Value.int .u8 (((y2).toNat : Int))] ++ ([] : List Value))) tn67 H rfl rfl rfl g3.len) ?_; clear H; intro w6 v3 H
   generalize ([Value.int .u8 (((y2).toNat : Int))] ++ ([] : List Value)) = cs3 at H g3
   replace H : HS ⟨S, [], w⟩ S w6 [.osl (v3) (([y2] : List UInt8)).length 1 cs3 [] 5, .osl (v2) (s1.2).length 1 cs2 rs1 5] := H
   obtain ⟨y3, e3, hF3⟩ := bnd hF3
   refine p_of1 (a_appendX (k := 1) (v2 := v3) tn67 rfl H rfl rfl g2 rfl (H.slW (k := 0) rfl) g3 e3) ?_; clear H; rintro w7 v4 ⟨cs4, rs2, H, g4⟩
   replace H : HS ⟨S, [], w⟩ S w7 [.osl (v3) (([y2] : List UInt8)).length 1 cs3 [] 5, .osl (v4) (y3).length 1 cs4 rs2 5] := H
   replace H := H.sel [1] rfl
   replace H : HS ⟨S, [], w⟩ S w7 [.osl (v4) (y3).length 1 cs4 rs2 5] := H
   refine p_as (v := v4) rfl ?_
   refine wpList_nil ?_
   refine b_norm ?_
   refine x_norm ?_
   replace H : HS ⟨S, [], w⟩ S w7 [.osl (v4) (y3).length 1 cs4 rs2 5] := H
   obtain rfl := Option.some.inj hF3
   exact J2 _ _ _ _ _ (by (repeat (refine keep_cons rfl ?_)); refine keep_sub k10 rfl ?_; (repeat (refine keep_cons rfl ?_)); refine keep_name k6 ?_; (repeat (refine keep_cons rfl ?_)); exact fun _ _ => rfl) rfl H g4
  refine sr ?_; intro K10 hK10
  refine p_as (v := .int .i64 (0)) rfl ?_
  refine xk hK10 ?_; clear hK10
  refine wp_block ?_
  refine nameF fun m6 k7 => ?_
  obtain ⟨out2, hL2, hE5⟩ := bnd hE4
  replace H : HS ⟨S, [], w⟩ S w2 [.osl (v2) (s1.2).length 1 cs2 rs1 5] := H
  refine loopI [5, 6, 15, 16, 17, 18, 19, 20, 21, 22, 23, 24, 25, 26] (fun (s2 : Int × Int) (m7 : FM) (w3 : World) => look m7 5 = .int .i64 (s2.1) ∧ look m7 6 = .int .i64 (s2.2) ∧ HS ⟨S, [], w⟩ S w3 [.osl (v2) (s1.2).length 1 cs2 rs1 5]) hL2 ⟨((k7 5).trans (k6 5)), (k7 6), H⟩ ?_
  clear H; intro k9 s2 m7 w3 k8 hI2 o5 hb2 hh2; obtain ⟨q4, q5, H⟩ := hI2
  have q6 : look m7 0 = str (x0) := (k8 0 rfl).trans ((k7 0).trans ((k6 0).trans ((k5 0).trans q3)))
  have q7 : look m7 3 = v2 := (k8 3 rfl).trans ((k7 3).trans ((k6 3).trans ((k5 3).trans q1)))
  have q8 : look m7 4 = .int .i64 (s1.1) := (k8 4 rfl).trans ((k7 4).trans ((k6 4).trans ((k5 4).trans q2)))
  unfold seneschalref01_Base64_b1 at hb2
  refine wp_seq_k ?_; intro K11 hK11
  refine sr ?_; intro K12 hK12
  refine p_mv q5 ?_
  refine p_val (r_lssI rfl rfl) ?_
  refine xk hK12 ?_; clear hK12
  refine c_split (t := decide (s2.2 < 6)) rfl (fun hc2 => ?_) (fun hc2 => ?_)
  ·replace hb2 := cnd_t hb2 hc2
   refine wp_skip ?_
   refine xn hK11 ?_; clear hK11
   refine wp_seq_k ?_; intro K13 hK13
   refine wp_block ?_
   refine wp_region_lit ?_
   refine p_mv q4 ?_
   refine p_val (r_mulI rfl rfl) ?_
   refine p_mv q6 ?_
   refine p_mv q8 ?_
   refine p_mv q5 ?_
   refine p_val (r_addI rfl rfl) ?_
   obtain ⟨y1, e1, hb2⟩ := bnd hb2
   refine p_call (l := [str (x0), .int .i64 ((w64 (s1.1 + s2.2)))]) is41 rfl ?_
   refine (seneschalref01_bit_c H.sub e1).mono ?_; rintro _ w4 ⟨rfl, hx⟩; replace H := H.ext hx; clear hx
   refine p_val (r_addI rfl rfl) ?_
   refine p_as (v := .int .i64 ((w64 ((w64 ((2 : Int) * s2.1)) + y1)))) rfl ?_
   refine wpList_nil ?_
   refine b_norm ?_
   refine xn hK13 ?_; clear hK13
   refine wp_region_lit ?_
   refine p_mv q5 ?_
   refine p_val (r_addI rfl rfl) ?_
   refine p_as (v := .int .i64 ((w64 (s2.2 + 1)))) rfl ?_
   refine wpList_nil ?_
   refine x_norm ?_
   replace H : HS ⟨S, [], w⟩ S w4 [.osl (v2) (s1.2).length 1 cs2 rs1 5] := H
   obtain rfl := Option.some.inj hb2
   exact ⟨((w64 ((w64 ((2 : Int) * s2.1)) + y1)), (w64 (s2.2 + 1))), _, rfl, (by (repeat (refine keep_cons rfl ?_)); refine keep_sub k8 rfl ?_; (repeat (refine keep_cons rfl ?_)); exact fun _ _ => rfl), ⟨rfl, rfl, H⟩, hh2⟩
  ·replace hb2 := cnd_f hb2 hc2
   refine wp_exit ?_
   refine x_exit ?_
   refine x_exit ?_
   refine b_hit ?_
   refine x_norm ?_
   replace H : HS ⟨S, [], w⟩ S w3 [.osl (v2) (s1.2).length 1 cs2 rs1 5] := H
   obtain rfl := Option.some.inj hb2
   obtain rfl := Option.some.inj hh2
   obtain rfl := Option.some.inj hE5
   exact J1 _ _ (by (repeat (refine keep_cons rfl ?_)); refine keep_sub k8 rfl ?_; (repeat (refine keep_cons rfl ?_)); refine keep_name k7 ?_; (repeat (refine keep_cons rfl ?_)); exact fun _ _ => rfl) q4 H
 ·replace hb1 := cnd_f hb1 hc1
  refine wp_exit ?_
  refine x_exit ?_
  refine x_exit ?_
  refine b_hit ?_
  refine x_norm ?_
  replace H : HS ⟨S, [], w⟩ S w2 [.osl (v2) (s1.2).length 1 cs2 rs1 5] := H
  obtain rfl := Option.some.inj hb1
  obtain rfl := Option.some.inj hh1
  obtain rfl := Option.some.inj hE2
  exact J3 _ _ _ _ _ (by (repeat (refine keep_cons rfl ?_)); refine keep_sub k3 rfl ?_; (repeat (refine keep_cons rfl ?_)); refine keep_name k2 ?_; (repeat (refine keep_cons rfl ?_)); exact fun _ _ => rfl) (show _ = (v2 : Value) from q1) H g2
end Go.Proofs.Ytmbcolbbekbccaa
