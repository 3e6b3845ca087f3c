/- What some functions compute, and that they do. Conditions: as each theorem says. -/
import Derived.Test.YtdomaggikbmooaaDoorLibs
namespace Go.Proofs.YtdomaggikbmooaaDoor
open Go Go.RowKit
attribute [local irreducible] wpList wpT Code.wp Calls Code.rounds
theorem to40 : TOne Tryd.prog 40 := ⟨fun _ => by kernel_rfl, fun _ => by kernel_rfl⟩
theorem u9 : Tryd.prog.underlying 9 = some .string := by kernel_rfl
theorem is47 : IsFn Tryd.prog 47 := isFn Tryd.func47 (by kernel_rfl) (by kernel_rfl)
theorem fa46_1 : TField Tryd.prog 46 1 1 := fun _ _ _ => by kernel_rfl
theorem tn40 : TSn Tryd.prog 40 5 (.int .u8 0) [.int .u8 0] 1 1 := TSn.mk' (by kernel_rfl) (by kernel_rfl) rfl rfl rfl rfl
theorem tsz40 : TSz Tryd.prog 40 1 := fun _ => by kernel_rfl
def Builder_WriteByte_p (x0 : List UInt8) (x1 : UInt8) : Option ((List UInt8)) :=
  Option.bind (Builder_copyCheck_p x0) fun y1 => Option.bind (app y1 ([x1] : List UInt8)) fun y2 => some (y2)
theorem Builder_WriteByte_c {S : Mem} {w : World} {b0_ : Nat} {x0 : List UInt8} {pv1 : Value} {pcs1 prs1 : List Value} {pa1 : Value} (H : HS ⟨S, keysR [.blk b0_ (([pa1] ++ ([pv1]))) 46, .osl (pv1) (x0).length 1 pcs1 prs1 5], w⟩ S w [.blk b0_ (([pa1] ++ ([pv1]))) 46, .osl (pv1) (x0).length 1 pcs1 prs1 5]) (pg1 : RL S pcs1 x0) (pg2 : BA b0_ pa1) {x1 : UInt8} {r : (List UInt8)} (hF : Builder_WriteByte_p x0 x1 = some r) :
    Calls Tryd.prog 33 #[.pointer (some ⟨b0_, 0, none⟩), .int .u8 (((x1).toNat : Int))] w fun e w' => ∃ (S2 : Mem) (pv4 : Value) (pcs4 prs4 : List Value) (pa4 : Value), e = .returned (.nilIface) ∧ HS ⟨S, keysR [.blk b0_ (([pa1] ++ ([pv1]))) 46, .osl (pv1) (x0).length 1 pcs1 prs1 5], w⟩ S2 w' [.blk b0_ (([pa4] ++ ([pv4]))) 46, .osl (pv4) (r).length 1 pcs4 prs4 5] ∧ RL S2 pcs4 r ∧ BA b0_ pa4 := by
  refine enter (n := 17) Tryd.func33 rfl rfl rfl ?_
  unfold Builder_WriteByte_p at hF
  refine wp_seq_k ?_; intro K1 hK1
  refine wp_region_lit ?_
  refine p_val (r_assign (v := .nilIface) rfl) ?_
  refine wpList_nil ?_
  refine x_norm ?_; refine hK1 _ _ ?_; clear hK1
  refine wp_seq_k ?_; intro K2 hK2
  refine wp_region_lit ?_
  refine p_val (r_move (v := .pointer (some ⟨b0_, 0, none⟩)) rfl) ?_
  obtain ⟨y1, e1, hF⟩ := bnd hF
  refine p_call (l := [.pointer (some ⟨b0_, 0, none⟩)]) is47 rfl ?_
  refine (Builder_copyCheck_c (H.hand [0, 1] rfl) pg1 pg2 e1).mono ?_; rintro _ w1 ⟨S1, pv2, pcs2, prs2, pa2, rfl, H2, pg3, pg4⟩
  obtain ⟨H1, hle1⟩ := H.frame [0, 1] [] rfl H2; clear H H2; have H := H1; clear H1
  replace H : HS ⟨S, keysR [.blk b0_ (([pa1] ++ ([pv1]))) 46, .osl (pv1) (x0).length 1 pcs1 prs1 5], w⟩ S1 w1 [.blk b0_ (([pa2] ++ ([pv2]))) 46, .osl (pv2) (y1).length 1 pcs2 prs2 5] := H
  refine wpList_nil ?_
  refine x_norm ?_; refine hK2 _ _ ?_; clear hK2
  refine wp_seq_k ?_; intro K3 hK3
  refine wp_region_lit ?_
  refine p_val (r_move (v := .pointer (some ⟨b0_, 0, none⟩)) rfl) ?_
  refine p_val (r_move (v := .pointer (some ⟨b0_, 0, none⟩)) rfl) ?_
  refine p_val (r_nilck rfl) ?_
  refine p_val (r_field fa46_1 rfl) ?_
  refine p_val (h_load1 (v := pv2) to40 H rfl (k := 0) rfl rfl) ?_
  refine p_val (r_move (v := .int .u8 (((x1).toNat : Int))) rfl) ?_
  have g1 : RL S1 ([Value.int .u8 (((x1).toNat : Int))] ++ ([] : List Value)) ([x1] : List UInt8) := (RL.cons rpU8 RL.nil)
  refine p_of1 (a_bslice (N := 1) (vals := [(0, .int .u8 (((x1).toNat : Int)))]) (l := ([Value.int .u8 (((x1).toNat : Int))] ++ ([] : List Value))) tn40 H rfl rfl rfl g1.len) ?_; clear H; intro w2 v1 H
  generalize ([Value.int .u8 (((x1).toNat : Int))] ++ ([] : List Value)) = cs1 at H g1
  replace H : HS ⟨S, keysR [.blk b0_ (([pa1] ++ ([pv1]))) 46, .osl (pv1) (x0).length 1 pcs1 prs1 5], w⟩ S1 w2 [.osl (v1) (([x1] : List UInt8)).length 1 cs1 [] 5, .blk b0_ (([pa2] ++ ([pv2]))) 46, .osl (pv2) (y1).length 1 pcs2 prs2 5] := H
  obtain ⟨y2, e2, hF⟩ := bnd hF
  refine p_of1 (a_appendX (k := 2) (v2 := v1) tn40 rfl H rfl rfl pg3 rfl (H.slW (k := 0) rfl) g1 e2) ?_; clear H; rintro w3 v2 ⟨cs2, rs1, H, g2⟩
  replace H : HS ⟨S, keysR [.blk b0_ (([pa1] ++ ([pv1]))) 46, .osl (pv1) (x0).length 1 pcs1 prs1 5], w⟩ S1 w3 [.osl (v1) (([x1] : List UInt8)).length 1 cs1 [] 5, .blk b0_ (([pa2] ++ ([pv2]))) 46, .osl (v2) (y2).length 1 cs2 rs1 5] := H
  replace H := H.sel [1, 2] rfl
  replace H : HS ⟨S, keysR [.blk b0_ (([pa1] ++ ([pv1]))) 46, .osl (pv1) (x0).length 1 pcs1 prs1 5], w⟩ S1 w3 [.blk b0_ (([pa2] ++ ([pv2]))) 46, .osl (v2) (y2).length 1 cs2 rs1 5] := H
  refine p_val (r_nilck rfl) ?_
  refine p_val (r_field fa46_1 rfl) ?_
  refine p_ofs (a_store (k := 0) (v := v2) (l := [v2]) tsz40 H rfl rfl rfl (cells_one (HS.ownOne H (k := 1) rfl)) rfl (fun u hu => by rw [List.mem_singleton] at hu; rw [hu]; exact HS.ownOne H (k := 1) rfl) rfl) ?_; clear H; intro w4 H
  replace H : HS ⟨S, keysR [.blk b0_ (([pa1] ++ ([pv1]))) 46, .osl (pv1) (x0).length 1 pcs1 prs1 5], w⟩ S1 w4 [.blk b0_ (([pa2] ++ ([v2]))) 46, .osl (v2) (y2).length 1 cs2 rs1 5] := H
  refine wpList_nil ?_
  refine x_norm ?_; refine hK3 _ _ ?_; clear hK3
  refine wp_seq_k ?_; intro K4 hK4
  refine wp_region_lit ?_
  refine p_val (r_assign (v := .nilIface) rfl) ?_
  refine wpList_nil ?_
  refine x_norm ?_; refine hK4 _ _ ?_; clear hK4
  refine wp_ret ?_
  replace H : HS ⟨S, keysR [.blk b0_ (([pa1] ++ ([pv1]))) 46, .osl (pv1) (x0).length 1 pcs1 prs1 5], w⟩ S1 w4 [.blk b0_ (([pa2] ++ ([v2]))) 46, .osl (v2) (y2).length 1 cs2 rs1 5] := H
  obtain rfl := Option.some.inj hF
  refine e_1 rfl (q_tmp (v := .nilIface) rfl) ?_
  exact ⟨_, _, _, _, _, rfl, H, g2, pg4⟩
def Builder_WriteString_p (x0 : List UInt8) (x1 : List UInt8) : Option (Int × (List UInt8)) :=
  Option.bind (Builder_copyCheck_p x0) fun y1 => Option.bind (app y1 x1) fun y2 => some ((((x1).length : Int), y2))
theorem Builder_WriteString_c {S : Mem} {w : World} {b0_ : Nat} {x0 : List UInt8} {pv1 : Value} {pcs1 prs1 : List Value} {pa1 : Value} (H : HS ⟨S, keysR [.blk b0_ (([pa1] ++ ([pv1]))) 46, .osl (pv1) (x0).length 1 pcs1 prs1 5], w⟩ S w [.blk b0_ (([pa1] ++ ([pv1]))) 46, .osl (pv1) (x0).length 1 pcs1 prs1 5]) (pg1 : RL S pcs1 x0) (pg2 : BA b0_ pa1) {x1 : List UInt8} {r : Int × (List UInt8)} (hF : Builder_WriteString_p x0 x1 = some r) :
    Calls Tryd.prog 38 #[.pointer (some ⟨b0_, 0, none⟩), str (x1)] w fun e w' => ∃ (S2 : Mem) (pv4 : Value) (pcs4 prs4 : List Value) (pa4 : Value), e = .returned (.tuple #[.int .i64 (r.1), .nilIface]) ∧ HS ⟨S, keysR [.blk b0_ (([pa1] ++ ([pv1]))) 46, .osl (pv1) (x0).length 1 pcs1 prs1 5], w⟩ S2 w' [.blk b0_ (([pa4] ++ ([pv4]))) 46, .osl (pv4) (r.2).length 1 pcs4 prs4 5] ∧ RL S2 pcs4 r.2 ∧ BA b0_ pa4 := by
  refine enter (n := 19) Tryd.func38 rfl rfl rfl ?_
  unfold Builder_WriteString_p at hF
  refine wp_seq_k ?_; intro K1 hK1
  refine wp_region_lit ?_
  refine p_val (r_assign (v := .int .i64 (0)) rfl) ?_
  refine p_val (r_assign (v := .nilIface) rfl) ?_
  refine wpList_nil ?_
  refine x_norm ?_; refine hK1 _ _ ?_; clear hK1
  refine wp_seq_k ?_; intro K2 hK2
  refine wp_region_lit ?_
  refine p_val (r_move (v := .pointer (some ⟨b0_, 0, none⟩)) rfl) ?_
  obtain ⟨y1, e1, hF⟩ := bnd hF
  refine p_call (l := [.pointer (some ⟨b0_, 0, none⟩)]) is47 rfl ?_
  refine (Builder_copyCheck_c (H.hand [0, 1] rfl) pg1 pg2 e1).mono ?_; rintro _ w1 ⟨S1, pv2, pcs2, prs2, pa2, rfl, H2, pg3, pg4⟩
  obtain ⟨H1, hle1⟩ := H.frame [0, 1] [] rfl H2; clear H H2; have H := H1; clear H1
  replace H : HS ⟨S, keysR [.blk b0_ (([pa1] ++ ([pv1]))) 46, .osl (pv1) (x0).length 1 pcs1 prs1 5], w⟩ S1 w1 [.blk b0_ (([pa2] ++ ([pv2]))) 46, .osl (pv2) (y1).length 1 pcs2 prs2 5] := H
  refine wpList_nil ?_
  refine x_norm ?_; refine hK2 _ _ ?_; clear hK2
  refine wp_seq_k ?_; intro K3 hK3
  refine wp_region_lit ?_
  refine p_val (r_move (v := .pointer (some ⟨b0_, 0, none⟩)) rfl) ?_
  refine p_val (r_move (v := .pointer (some ⟨b0_, 0, none⟩)) rfl) ?_
  refine p_val (r_nilck rfl) ?_
  refine p_val (r_field fa46_1 rfl) ?_
  refine p_val (h_load1 (v := pv2) to40 H rfl (k := 0) rfl rfl) ?_
  refine p_val (r_move (v := str (x1)) rfl) ?_
  obtain ⟨y2, e2, hF⟩ := bnd hF
  refine p_of1 (a_appendT (k := 1) (l := x1) tn40 u9 H rfl rfl pg3 rfl e2) ?_; clear H; rintro w2 v1 ⟨cs1, rs1, H, g1⟩
  replace H : HS ⟨S, keysR [.blk b0_ (([pa1] ++ ([pv1]))) 46, .osl (pv1) (x0).length 1 pcs1 prs1 5], w⟩ S1 w2 [.blk b0_ (([pa2] ++ ([pv2]))) 46, .osl (v1) (y2).length 1 cs1 rs1 5] := H
  refine p_val (r_nilck rfl) ?_
  refine p_val (r_field fa46_1 rfl) ?_
  refine p_ofs (a_store (k := 0) (v := v1) (l := [v1]) tsz40 H rfl rfl rfl (cells_one (HS.ownOne H (k := 1) rfl)) rfl (fun u hu => by rw [List.mem_singleton] at hu; rw [hu]; exact HS.ownOne H (k := 1) rfl) rfl) ?_; clear H; intro w3 H
  replace H : HS ⟨S, keysR [.blk b0_ (([pa1] ++ ([pv1]))) 46, .osl (pv1) (x0).length 1 pcs1 prs1 5], w⟩ S1 w3 [.blk b0_ (([pa2] ++ ([v1]))) 46, .osl (v1) (y2).length 1 cs1 rs1 5] := H
  refine wpList_nil ?_
  refine x_norm ?_; refine hK3 _ _ ?_; clear hK3
  refine wp_seq_k ?_; intro K4 hK4
  refine wp_region_lit ?_
  refine p_val (r_move (v := str (x1)) rfl) ?_
  refine p_val (r_lenT (N := (x1).length) u9 rfl rfl) ?_
  refine p_val (r_assign (v := .int .i64 (((x1).length : Int))) rfl) ?_
  refine p_val (r_assign (v := .nilIface) rfl) ?_
  refine wpList_nil ?_
  refine x_norm ?_; refine hK4 _ _ ?_; clear hK4
  refine wp_ret ?_
  replace H : HS ⟨S, keysR [.blk b0_ (([pa1] ++ ([pv1]))) 46, .osl (pv1) (x0).length 1 pcs1 prs1 5], w⟩ S1 w3 [.blk b0_ (([pa2] ++ ([v1]))) 46, .osl (v1) (y2).length 1 cs1 rs1 5] := H
  obtain rfl := Option.some.inj hF
  refine e_2 rfl (q_tmp (v := .int .i64 (((x1).length : Int))) rfl) (q_tmp (v := .nilIface) rfl) ?_
  exact ⟨_, _, _, _, _, rfl, H, g1, pg4⟩
end Go.Proofs.YtdomaggikbmooaaDoor
