/- What some functions compute, and that they do. Conditions: as each theorem says. -/
import Derived.Test.YtdomaggikbmooaaDoorRows
import Derived.Test.YtdomaggikbmooaaDoorPu
namespace Go.Proofs.YtdomaggikbmooaaDoor
open Go Go.RowKit
attribute [local irreducible] wpList wpT Code.wp Calls Code.rounds
theorem u3 : Tryd.prog.underlying 3 = some (.int .i64) := by kernel_rfl
theorem u5 : Tryd.prog.underlying 5 = some (.int .u8) := by kernel_rfl
theorem u9 : Tryd.prog.underlying 9 = some .string := by kernel_rfl
theorem u40 : Tryd.prog.underlying 40 = some (.slice 5) := by kernel_rfl
theorem tn40 : TSn Tryd.prog 40 5 (.int .u8 0) [.int .u8 0] 1 1 := TSn.mk' (by kernel_rfl) (by kernel_rfl) rfl rfl rfl rfl
def seneschalref01_digit_p (x0 : UInt8) (x1 : Bool) : Option (Int) :=
  bif (bif decide ((48 : Int) ≤ ((x0).toNat : Int)) then decide (((x0).toNat : Int) ≤ 57) else false) then (some ((((i8 (((x0).toNat : Int) - 48))).toNat : Int))) else (bif (bif decide ((97 : Int) ≤ ((x0).toNat : Int)) then decide (((x0).toNat : Int) ≤ 102) else false) then (some ((w64 ((((i8 (((x0).toNat : Int) - 97))).toNat : Int) + 10)))) else (bif (bif (bif x1 then decide ((65 : Int) ≤ ((x0).toNat : Int)) else false) then decide (((x0).toNat : Int) ≤ 70) else false) then (some ((w64 ((((i8 (((x0).toNat : Int) - 65))).toNat : Int) + 10)))) else (some ((-1)))))
theorem seneschalref01_digit_c {S : Mem} {w : World} (hS : Sub S w) {x0 : UInt8} {x1 : Bool} {r : Int} (hF : seneschalref01_digit_p x0 x1 = some r) :
    Calls Tryd.prog 32 #[.int .u8 (((x0).toNat : Int)), .bool (x1)] w fun e w' => e = .returned (.int .i64 (r)) ∧ Ext w w' := by
  refine enter (n := 40) Tryd.func32 rfl rfl rfl ?_
  have H := HS.start hS
  unfold seneschalref01_digit_p at hF
  refine wp_seq_k ?_; intro K1 hK1
  refine wp_region_lit ?_
  refine p_val (r_assign (v := .int .i64 (0)) rfl) ?_
  refine wpList_nil ?_
  refine x_norm ?_; refine hK1 _ _ ?_; clear hK1
  refine wp_seq_k ?_; intro K2 hK2
  refine wp_block ?_
  refine wp_seq_k ?_; intro K3 hK3
  refine wp_region_lit ?_
  refine p_val (r_move (v := .int .u8 (((x0).toNat : Int))) rfl) ?_
  refine p_val (r_geq (t := decide ((48 : Int) ≤ ((x0).toNat : Int))) rfl rfl rfl) ?_
  refine p_val (r_move (v := .bool (decide ((48 : Int) ≤ ((x0).toNat : Int)))) rfl) ?_
  refine nameL fun m1 k1 => ?_
  refine gs_at 3 fun K4 hK4 R1 hR1 => ?_
  have J1 : ∀ (m2 : FM), (∀ t, has [9, 10, 11] t = false → look m2 t = look m1 t) → look m2 11 = .bool ((bif decide ((48 : Int) ≤ ((x0).toNat : Int)) then decide (((x0).toNat : Int) ≤ 57) else false)) → K4 m2 w := by
    intro m2 k2 q1
    have q2 : look m2 0 = .int .u8 (((x0).toNat : Int)) := (k2 0 rfl).trans (k1 0)
    have q3 : look m2 1 = .bool (x1) := (k2 1 rfl).trans (k1 1)
    refine hK4 _ _ ?_; clear hK4 hR1
    refine p_val (r_assign (v := .bool ((bif decide ((48 : Int) ≤ ((x0).toNat : Int)) then decide (((x0).toNat : Int) ≤ 57) else false))) q1) ?_
    refine wpList_nil ?_
    refine x_norm ?_; refine hK3 _ _ ?_; clear hK3
    refine c_split (t := (bif decide ((48 : Int) ≤ ((x0).toNat : Int)) then decide (((x0).toNat : Int) ≤ 57) else false)) rfl (fun hc1 => ?_) (fun hc1 => ?_)
    · replace hF := cnd_t hF hc1
      refine wp_seq_k ?_; intro K5 hK5
      refine wp_region_lit ?_
      refine p_val (r_move (v := .int .u8 (((x0).toNat : Int))) q2) ?_
      refine p_val (r_sub (r := (((i8 (((x0).toNat : Int) - 48))).toNat : Int)) rfl rfl (i8_wrap _)) ?_
      refine p_val (r_conv (r := (((i8 (((x0).toNat : Int) - 48))).toNat : Int)) u5 u3 rfl (w64_u8 _)) ?_
      refine p_val (r_assign (v := .int .i64 ((((i8 (((x0).toNat : Int) - 48))).toNat : Int))) rfl) ?_
      refine wpList_nil ?_
      refine x_norm ?_; refine hK5 _ _ ?_; clear hK5
      refine wp_ret ?_
      refine b_ret ?_
      refine x_ret ?_
      obtain rfl := Option.some.inj hF
      refine e_1 rfl (q_tmp (v := .int .i64 ((((i8 (((x0).toNat : Int) - 48))).toNat : Int))) rfl) ?_
      exact ⟨rfl, H.toExt⟩
    · replace hF := cnd_f hF hc1
      refine wp_seq_k ?_; intro K6 hK6
      refine wp_region_lit ?_
      refine p_val (r_move (v := .int .u8 (((x0).toNat : Int))) q2) ?_
      refine p_val (r_geq (t := decide ((97 : Int) ≤ ((x0).toNat : Int))) rfl rfl rfl) ?_
      refine p_val (r_move (v := .bool (decide ((97 : Int) ≤ ((x0).toNat : Int)))) rfl) ?_
      refine nameL fun m3 k3 => ?_
      refine gs_at 3 fun K7 hK7 R2 hR2 => ?_
      have J2 : ∀ (m4 : FM), (∀ t, has [19, 20, 21] t = false → look m4 t = look m3 t) → look m4 21 = .bool ((bif decide ((97 : Int) ≤ ((x0).toNat : Int)) then decide (((x0).toNat : Int) ≤ 102) else false)) → K7 m4 w := by
        intro m4 k4 q4
        have q5 : look m4 0 = .int .u8 (((x0).toNat : Int)) := (k4 0 rfl).trans ((k3 0).trans q2)
        have q6 : look m4 1 = .bool (x1) := (k4 1 rfl).trans ((k3 1).trans q3)
        refine hK7 _ _ ?_; clear hK7 hR2
        refine p_val (r_assign (v := .bool ((bif decide ((97 : Int) ≤ ((x0).toNat : Int)) then decide (((x0).toNat : Int) ≤ 102) else false))) q4) ?_
        refine wpList_nil ?_
        refine x_norm ?_; refine hK6 _ _ ?_; clear hK6
        refine c_split (t := (bif decide ((97 : Int) ≤ ((x0).toNat : Int)) then decide (((x0).toNat : Int) ≤ 102) else false)) rfl (fun hc2 => ?_) (fun hc2 => ?_)
        · replace hF := cnd_t hF hc2
          refine wp_seq_k ?_; intro K8 hK8
          refine wp_region_lit ?_
          refine p_val (r_move (v := .int .u8 (((x0).toNat : Int))) q5) ?_
          refine p_val (r_sub (r := (((i8 (((x0).toNat : Int) - 97))).toNat : Int)) rfl rfl (i8_wrap _)) ?_
          refine p_val (r_conv (r := (((i8 (((x0).toNat : Int) - 97))).toNat : Int)) u5 u3 rfl (w64_u8 _)) ?_
          refine p_val (r_add (r := w64 ((((i8 (((x0).toNat : Int) - 97))).toNat : Int) + 10)) rfl rfl rfl) ?_
          refine p_val (r_assign (v := .int .i64 ((w64 ((((i8 (((x0).toNat : Int) - 97))).toNat : Int) + 10)))) rfl) ?_
          refine wpList_nil ?_
          refine x_norm ?_; refine hK8 _ _ ?_; clear hK8
          refine wp_ret ?_
          refine b_ret ?_
          refine x_ret ?_
          obtain rfl := Option.some.inj hF
          refine e_1 rfl (q_tmp (v := .int .i64 ((w64 ((((i8 (((x0).toNat : Int) - 97))).toNat : Int) + 10)))) rfl) ?_
          exact ⟨rfl, H.toExt⟩
        · replace hF := cnd_f hF hc2
          refine wp_seq_k ?_; intro K9 hK9
          refine wp_region_lit ?_
          refine p_val (r_move (v := .bool (x1)) q6) ?_
          refine p_val (r_move (v := .bool (x1)) rfl) ?_
          refine nameL fun m5 k5 => ?_
          refine gs_at 3 fun K10 hK10 R3 hR3 => ?_
          have J3 : ∀ (m6 : FM), (∀ t, has [29, 30, 31] t = false → look m6 t = look m5 t) → look m6 31 = .bool ((bif x1 then decide ((65 : Int) ≤ ((x0).toNat : Int)) else false)) → K10 m6 w := by
            intro m6 k6 q7
            have q8 : look m6 0 = .int .u8 (((x0).toNat : Int)) := (k6 0 rfl).trans ((k5 0).trans q5)
            refine hK10 _ _ ?_; clear hK10 hR3
            refine p_val (r_move (v := .bool ((bif x1 then decide ((65 : Int) ≤ ((x0).toNat : Int)) else false))) q7) ?_
            refine nameL fun m7 k7 => ?_
            refine gs_at 3 fun K11 hK11 R4 hR4 => ?_
            have J4 : ∀ (m8 : FM), (∀ t, has [33, 34, 35] t = false → look m8 t = look m7 t) → look m8 35 = .bool ((bif (bif x1 then decide ((65 : Int) ≤ ((x0).toNat : Int)) else false) then decide (((x0).toNat : Int) ≤ 70) else false)) → K11 m8 w := by
              intro m8 k8 q9
              have q10 : look m8 0 = .int .u8 (((x0).toNat : Int)) := (k8 0 rfl).trans ((k7 0).trans q8)
              refine hK11 _ _ ?_; clear hK11 hR4
              refine p_val (r_assign (v := .bool ((bif (bif x1 then decide ((65 : Int) ≤ ((x0).toNat : Int)) else false) then decide (((x0).toNat : Int) ≤ 70) else false))) q9) ?_
              refine wpList_nil ?_
              refine x_norm ?_; refine hK9 _ _ ?_; clear hK9
              refine c_split (t := (bif (bif x1 then decide ((65 : Int) ≤ ((x0).toNat : Int)) else false) then decide (((x0).toNat : Int) ≤ 70) else false)) rfl (fun hc3 => ?_) (fun hc3 => ?_)
              · replace hF := cnd_t hF hc3
                refine wp_seq_k ?_; intro K12 hK12
                refine wp_region_lit ?_
                refine p_val (r_move (v := .int .u8 (((x0).toNat : Int))) q10) ?_
                refine p_val (r_sub (r := (((i8 (((x0).toNat : Int) - 65))).toNat : Int)) rfl rfl (i8_wrap _)) ?_
                refine p_val (r_conv (r := (((i8 (((x0).toNat : Int) - 65))).toNat : Int)) u5 u3 rfl (w64_u8 _)) ?_
                refine p_val (r_add (r := w64 ((((i8 (((x0).toNat : Int) - 65))).toNat : Int) + 10)) rfl rfl rfl) ?_
                refine p_val (r_assign (v := .int .i64 ((w64 ((((i8 (((x0).toNat : Int) - 65))).toNat : Int) + 10)))) rfl) ?_
                refine wpList_nil ?_
                refine x_norm ?_; refine hK12 _ _ ?_; clear hK12
                refine wp_ret ?_
                refine b_ret ?_
                refine x_ret ?_
                obtain rfl := Option.some.inj hF
                refine e_1 rfl (q_tmp (v := .int .i64 ((w64 ((((i8 (((x0).toNat : Int) - 65))).toNat : Int) + 10)))) rfl) ?_
                exact ⟨rfl, H.toExt⟩
              · replace hF := cnd_f hF hc3
                refine wp_skip ?_
                refine b_norm ?_
                refine x_norm ?_; refine hK2 _ _ ?_; clear hK2
                refine wp_seq_k ?_; intro K13 hK13
                refine wp_region_lit ?_
                refine p_val (r_assign (v := .int .i64 ((-1))) rfl) ?_
                refine wpList_nil ?_
                refine x_norm ?_; refine hK13 _ _ ?_; clear hK13
                refine wp_ret ?_
                obtain rfl := Option.some.inj hF
                refine e_1 rfl (q_tmp (v := .int .i64 ((-1))) rfl) ?_
                exact ⟨rfl, H.toExt⟩
            refine p_gs (j := 5) (gvl_at rfl rfl (k7 32)) (fun hb1 => ?_) (fun hb1 => ?_)
            · skip
              refine p_want (gvl_at rfl rfl (k7 32)) hb1 ?_
              refine p_val (r_move (v := .int .u8 (((x0).toNat : Int))) ((k7 0).trans q8)) ?_
              refine p_want (gvl_at rfl rfl (k7 32)) hb1 ?_
              refine p_val (r_leq (t := decide (((x0).toNat : Int) ≤ 70)) rfl rfl rfl) ?_
              refine p_val (r_pickt (v := .bool (decide (((x0).toNat : Int) ≤ 70))) (k7 32) hb1 rfl) ?_
              refine hR4 _ _ ?_
              exact J4 _ (by (repeat (refine keep_cons rfl ?_)); exact fun _ _ => rfl) (show (.bool (decide (((x0).toNat : Int) ≤ 70)) : Value) = .bool ((bif (bif x1 then decide ((65 : Int) ≤ ((x0).toNat : Int)) else false) then decide (((x0).toNat : Int) ≤ 70) else false)) from congrArg Value.bool (by simp only [hb1, cond_true, cond_false]))
            · skip
              refine p_skip (gvl_at rfl rfl (k7 32)) hb1 ?_
              rw [put_fr]
              refine p_skip (gvl_at rfl rfl (k7 32)) hb1 ?_
              rw [put_fr]
              refine p_val (r_pickf (v := .bool (false)) (k7 32) hb1 rfl) ?_
              refine hR4 _ _ ?_
              exact J4 _ (by (repeat (refine keep_cons rfl ?_)); exact fun _ _ => rfl) (show (.bool (false) : Value) = .bool ((bif (bif x1 then decide ((65 : Int) ≤ ((x0).toNat : Int)) else false) then decide (((x0).toNat : Int) ≤ 70) else false)) from congrArg Value.bool (by simp only [hb1, cond_true, cond_false]))
          refine p_gs (j := 1) (gvl_at rfl rfl (k5 28)) (fun hb2 => ?_) (fun hb2 => ?_)
          · skip
            refine p_want (gvl_at rfl rfl (k5 28)) hb2 ?_
            refine p_val (r_move (v := .int .u8 (((x0).toNat : Int))) ((k5 0).trans q5)) ?_
            refine p_want (gvl_at rfl rfl (k5 28)) hb2 ?_
            refine p_val (r_geq (t := decide ((65 : Int) ≤ ((x0).toNat : Int))) rfl rfl rfl) ?_
            refine p_val (r_pickt (v := .bool (decide ((65 : Int) ≤ ((x0).toNat : Int)))) (k5 28) hb2 rfl) ?_
            refine hR3 _ _ ?_
            exact J3 _ (by (repeat (refine keep_cons rfl ?_)); exact fun _ _ => rfl) (show (.bool (decide ((65 : Int) ≤ ((x0).toNat : Int))) : Value) = .bool ((bif x1 then decide ((65 : Int) ≤ ((x0).toNat : Int)) else false)) from congrArg Value.bool (by simp only [hb2, cond_true, cond_false]))
          · skip
            refine p_skip (gvl_at rfl rfl (k5 28)) hb2 ?_
            rw [put_fr]
            refine p_skip (gvl_at rfl rfl (k5 28)) hb2 ?_
            rw [put_fr]
            refine p_val (r_pickf (v := .bool (false)) (k5 28) hb2 rfl) ?_
            refine hR3 _ _ ?_
            exact J3 _ (by (repeat (refine keep_cons rfl ?_)); exact fun _ _ => rfl) (show (.bool (false) : Value) = .bool ((bif x1 then decide ((65 : Int) ≤ ((x0).toNat : Int)) else false)) from congrArg Value.bool (by simp only [hb2, cond_true, cond_false]))
      refine p_gs (j := 2) (gvl_at rfl rfl (k3 18)) (fun hb3 => ?_) (fun hb3 => ?_)
      · skip
        refine p_want (gvl_at rfl rfl (k3 18)) hb3 ?_
        refine p_val (r_move (v := .int .u8 (((x0).toNat : Int))) ((k3 0).trans q2)) ?_
        refine p_want (gvl_at rfl rfl (k3 18)) hb3 ?_
        refine p_val (r_leq (t := decide (((x0).toNat : Int) ≤ 102)) rfl rfl rfl) ?_
        refine p_val (r_pickt (v := .bool (decide (((x0).toNat : Int) ≤ 102))) (k3 18) hb3 rfl) ?_
        refine hR2 _ _ ?_
        exact J2 _ (by (repeat (refine keep_cons rfl ?_)); exact fun _ _ => rfl) (show (.bool (decide (((x0).toNat : Int) ≤ 102)) : Value) = .bool ((bif decide ((97 : Int) ≤ ((x0).toNat : Int)) then decide (((x0).toNat : Int) ≤ 102) else false)) from congrArg Value.bool (by simp only [hb3, cond_true, cond_false]))
      · skip
        refine p_skip (gvl_at rfl rfl (k3 18)) hb3 ?_
        rw [put_fr]
        refine p_skip (gvl_at rfl rfl (k3 18)) hb3 ?_
        rw [put_fr]
        refine p_val (r_pickf (v := .bool (false)) (k3 18) hb3 rfl) ?_
        refine hR2 _ _ ?_
        exact J2 _ (by (repeat (refine keep_cons rfl ?_)); exact fun _ _ => rfl) (show (.bool (false) : Value) = .bool ((bif decide ((97 : Int) ≤ ((x0).toNat : Int)) then decide (((x0).toNat : Int) ≤ 102) else false)) from congrArg Value.bool (by simp only [hb3, cond_true, cond_false]))
  refine p_gs (j := 2) (gvl_at rfl rfl (k1 8)) (fun hb4 => ?_) (fun hb4 => ?_)
  · skip
    refine p_want (gvl_at rfl rfl (k1 8)) hb4 ?_
    refine p_val (r_move (v := .int .u8 (((x0).toNat : Int))) (k1 0)) ?_
    refine p_want (gvl_at rfl rfl (k1 8)) hb4 ?_
    refine p_val (r_leq (t := decide (((x0).toNat : Int) ≤ 57)) rfl rfl rfl) ?_
    refine p_val (r_pickt (v := .bool (decide (((x0).toNat : Int) ≤ 57))) (k1 8) hb4 rfl) ?_
    refine hR1 _ _ ?_
    exact J1 _ (by (repeat (refine keep_cons rfl ?_)); exact fun _ _ => rfl) (show (.bool (decide (((x0).toNat : Int) ≤ 57)) : Value) = .bool ((bif decide ((48 : Int) ≤ ((x0).toNat : Int)) then decide (((x0).toNat : Int) ≤ 57) else false)) from congrArg Value.bool (by simp only [hb4, cond_true, cond_false]))
  · skip
    refine p_skip (gvl_at rfl rfl (k1 8)) hb4 ?_
    rw [put_fr]
    refine p_skip (gvl_at rfl rfl (k1 8)) hb4 ?_
    rw [put_fr]
    refine p_val (r_pickf (v := .bool (false)) (k1 8) hb4 rfl) ?_
    refine hR1 _ _ ?_
    exact J1 _ (by (repeat (refine keep_cons rfl ?_)); exact fun _ _ => rfl) (show (.bool (false) : Value) = .bool ((bif decide ((48 : Int) ≤ ((x0).toNat : Int)) then decide (((x0).toNat : Int) ≤ 57) else false)) from congrArg Value.bool (by simp only [hb4, cond_true, cond_false]))
def seneschalref01_plain_p (x0 : UInt8) : Option (Bool) :=
  some ((bif (bif (bif (bif (bif (bif (bif decide ((65 : Int) ≤ ((x0).toNat : Int)) then decide (((x0).toNat : Int) ≤ 90) else false) then true else (bif decide ((97 : Int) ≤ ((x0).toNat : Int)) then decide (((x0).toNat : Int) ≤ 122) else false)) then true else (bif decide ((48 : Int) ≤ ((x0).toNat : Int)) then decide (((x0).toNat : Int) ≤ 57) else false)) then true else (((x0).toNat : Int) == 45)) then true else (((x0).toNat : Int) == 46)) then true else (((x0).toNat : Int) == 95)) then true else (((x0).toNat : Int) == 126)))
theorem seneschalref01_plain_c {S : Mem} {w : World} (hS : Sub S w) {x0 : UInt8} {r : Bool} (hF : seneschalref01_plain_p x0 = some r) :
    Calls Tryd.prog 41 #[.int .u8 (((x0).toNat : Int))] w fun e w' => e = .returned (.bool (r)) ∧ Ext w w' := by
  refine enter (n := 41) Tryd.func41 rfl rfl rfl ?_
  have H := HS.start hS
  unfold seneschalref01_plain_p at hF
  refine wp_seq_k ?_; intro K1 hK1
  refine wp_region_lit ?_
  refine p_val (r_assign (v := .bool (false)) rfl) ?_
  refine wpList_nil ?_
  refine x_norm ?_; refine hK1 _ _ ?_; clear hK1
  refine wp_seq_k ?_; intro K2 hK2
  refine wp_region_lit ?_
  refine p_val (r_move (v := .int .u8 (((x0).toNat : Int))) rfl) ?_
  refine p_val (r_geq (t := decide ((65 : Int) ≤ ((x0).toNat : Int))) rfl rfl rfl) ?_
  refine p_val (r_move (v := .bool (decide ((65 : Int) ≤ ((x0).toNat : Int)))) rfl) ?_
  refine nameL fun m1 k1 => ?_
  refine gs_at 3 fun K3 hK3 R1 hR1 => ?_
  have J1 : ∀ (m2 : FM), (∀ t, has [6, 7, 8] t = false → look m2 t = look m1 t) → look m2 8 = .bool ((bif decide ((65 : Int) ≤ ((x0).toNat : Int)) then decide (((x0).toNat : Int) ≤ 90) else false)) → K3 m2 w := by
    intro m2 k2 q1
    have q2 : look m2 0 = .int .u8 (((x0).toNat : Int)) := (k2 0 rfl).trans (k1 0)
    refine hK3 _ _ ?_; clear hK3 hR1
    refine p_val (r_move (v := .bool ((bif decide ((65 : Int) ≤ ((x0).toNat : Int)) then decide (((x0).toNat : Int) ≤ 90) else false))) q1) ?_
    refine nameL fun m3 k3 => ?_
    refine gs_at 7 fun K4 hK4 R2 hR2 => ?_
    have J2 : ∀ (m4 : FM), (∀ t, has [10, 11, 12, 13, 14, 15, 16] t = false → look m4 t = look m3 t) → look m4 16 = .bool ((bif (bif decide ((65 : Int) ≤ ((x0).toNat : Int)) then decide (((x0).toNat : Int) ≤ 90) else false) then true else (bif decide ((97 : Int) ≤ ((x0).toNat : Int)) then decide (((x0).toNat : Int) ≤ 122) else false))) → K4 m4 w := by
      intro m4 k4 q3
      have q4 : look m4 0 = .int .u8 (((x0).toNat : Int)) := (k4 0 rfl).trans ((k3 0).trans q2)
      refine hK4 _ _ ?_; clear hK4 hR2
      refine p_val (r_move (v := .bool ((bif (bif decide ((65 : Int) ≤ ((x0).toNat : Int)) then decide (((x0).toNat : Int) ≤ 90) else false) then true else (bif decide ((97 : Int) ≤ ((x0).toNat : Int)) then decide (((x0).toNat : Int) ≤ 122) else false)))) q3) ?_
      refine nameL fun m5 k5 => ?_
      refine gs_at 7 fun K5 hK5 R3 hR3 => ?_
      have J3 : ∀ (m6 : FM), (∀ t, has [18, 19, 20, 21, 22, 23, 24] t = false → look m6 t = look m5 t) → look m6 24 = .bool ((bif (bif (bif decide ((65 : Int) ≤ ((x0).toNat : Int)) then decide (((x0).toNat : Int) ≤ 90) else false) then true else (bif decide ((97 : Int) ≤ ((x0).toNat : Int)) then decide (((x0).toNat : Int) ≤ 122) else false)) then true else (bif decide ((48 : Int) ≤ ((x0).toNat : Int)) then decide (((x0).toNat : Int) ≤ 57) else false))) → K5 m6 w := by
        intro m6 k6 q5
        have q6 : look m6 0 = .int .u8 (((x0).toNat : Int)) := (k6 0 rfl).trans ((k5 0).trans q4)
        refine hK5 _ _ ?_; clear hK5 hR3
        refine p_val (r_move (v := .bool ((bif (bif (bif decide ((65 : Int) ≤ ((x0).toNat : Int)) then decide (((x0).toNat : Int) ≤ 90) else false) then true else (bif decide ((97 : Int) ≤ ((x0).toNat : Int)) then decide (((x0).toNat : Int) ≤ 122) else false)) then true else (bif decide ((48 : Int) ≤ ((x0).toNat : Int)) then decide (((x0).toNat : Int) ≤ 57) else false)))) q5) ?_
        refine nameL fun m7 k7 => ?_
        refine gs_at 3 fun K6 hK6 R4 hR4 => ?_
        have J4 : ∀ (m8 : FM), (∀ t, has [26, 27, 28] t = false → look m8 t = look m7 t) → look m8 28 = .bool ((bif (bif (bif (bif decide ((65 : Int) ≤ ((x0).toNat : Int)) then decide (((x0).toNat : Int) ≤ 90) else false) then true else (bif decide ((97 : Int) ≤ ((x0).toNat : Int)) then decide (((x0).toNat : Int) ≤ 122) else false)) then true else (bif decide ((48 : Int) ≤ ((x0).toNat : Int)) then decide (((x0).toNat : Int) ≤ 57) else false)) then true else (((x0).toNat : Int) == 45))) → K6 m8 w := by
          intro m8 k8 q7
          have q8 : look m8 0 = .int .u8 (((x0).toNat : Int)) := (k8 0 rfl).trans ((k7 0).trans q6)
          refine hK6 _ _ ?_; clear hK6 hR4
          refine p_val (r_move (v := .bool ((bif (bif (bif (bif decide ((65 : Int) ≤ ((x0).toNat : Int)) then decide (((x0).toNat : Int) ≤ 90) else false) then true else (bif decide ((97 : Int) ≤ ((x0).toNat : Int)) then decide (((x0).toNat : Int) ≤ 122) else false)) then true else (bif decide ((48 : Int) ≤ ((x0).toNat : Int)) then decide (((x0).toNat : Int) ≤ 57) else false)) then true else (((x0).toNat : Int) == 45)))) q7) ?_
          refine nameL fun m9 k9 => ?_
          refine gs_at 3 fun K7 hK7 R5 hR5 => ?_
          have J5 : ∀ (m10 : FM), (∀ t, has [30, 31, 32] t = false → look m10 t = look m9 t) → look m10 32 = .bool ((bif (bif (bif (bif (bif decide ((65 : Int) ≤ ((x0).toNat : Int)) then decide (((x0).toNat : Int) ≤ 90) else false) then true else (bif decide ((97 : Int) ≤ ((x0).toNat : Int)) then decide (((x0).toNat : Int) ≤ 122) else false)) then true else (bif decide ((48 : Int) ≤ ((x0).toNat : Int)) then decide (((x0).toNat : Int) ≤ 57) else false)) then true else (((x0).toNat : Int) == 45)) then true else (((x0).toNat : Int) == 46))) → K7 m10 w := by
            intro m10 k10 q9
            have q10 : look m10 0 = .int .u8 (((x0).toNat : Int)) := (k10 0 rfl).trans ((k9 0).trans q8)
            refine hK7 _ _ ?_; clear hK7 hR5
            refine p_val (r_move (v := .bool ((bif (bif (bif (bif (bif decide ((65 : Int) ≤ ((x0).toNat : Int)) then decide (((x0).toNat : Int) ≤ 90) else false) then true else (bif decide ((97 : Int) ≤ ((x0).toNat : Int)) then decide (((x0).toNat : Int) ≤ 122) else false)) then true else (bif decide ((48 : Int) ≤ ((x0).toNat : Int)) then decide (((x0).toNat : Int) ≤ 57) else false)) then true else (((x0).toNat : Int) == 45)) then true else (((x0).toNat : Int) == 46)))) q9) ?_
            refine nameL fun m11 k11 => ?_
            refine gs_at 3 fun K8 hK8 R6 hR6 => ?_
            have J6 : ∀ (m12 : FM), (∀ t, has [34, 35, 36] t = false → look m12 t = look m11 t) → look m12 36 = .bool ((bif (bif (bif (bif (bif (bif decide ((65 : Int) ≤ ((x0).toNat : Int)) then decide (((x0).toNat : Int) ≤ 90) else false) then true else (bif decide ((97 : Int) ≤ ((x0).toNat : Int)) then decide (((x0).toNat : Int) ≤ 122) else false)) then true else (bif decide ((48 : Int) ≤ ((x0).toNat : Int)) then decide (((x0).toNat : Int) ≤ 57) else false)) then true else (((x0).toNat : Int) == 45)) then true else (((x0).toNat : Int) == 46)) then true else (((x0).toNat : Int) == 95))) → K8 m12 w := by
              intro m12 k12 q11
              have q12 : look m12 0 = .int .u8 (((x0).toNat : Int)) := (k12 0 rfl).trans ((k11 0).trans q10)
              refine hK8 _ _ ?_; clear hK8 hR6
              refine p_val (r_move (v := .bool ((bif (bif (bif (bif (bif (bif decide ((65 : Int) ≤ ((x0).toNat : Int)) then decide (((x0).toNat : Int) ≤ 90) else false) then true else (bif decide ((97 : Int) ≤ ((x0).toNat : Int)) then decide (((x0).toNat : Int) ≤ 122) else false)) then true else (bif decide ((48 : Int) ≤ ((x0).toNat : Int)) then decide (((x0).toNat : Int) ≤ 57) else false)) then true else (((x0).toNat : Int) == 45)) then true else (((x0).toNat : Int) == 46)) then true else (((x0).toNat : Int) == 95)))) q11) ?_
              refine nameL fun m13 k13 => ?_
              refine gs_at 3 fun K9 hK9 R7 hR7 => ?_
              have J7 : ∀ (m14 : FM), (∀ t, has [38, 39, 40] t = false → look m14 t = look m13 t) → look m14 40 = .bool ((bif (bif (bif (bif (bif (bif (bif decide ((65 : Int) ≤ ((x0).toNat : Int)) then decide (((x0).toNat : Int) ≤ 90) else false) then true else (bif decide ((97 : Int) ≤ ((x0).toNat : Int)) then decide (((x0).toNat : Int) ≤ 122) else false)) then true else (bif decide ((48 : Int) ≤ ((x0).toNat : Int)) then decide (((x0).toNat : Int) ≤ 57) else false)) then true else (((x0).toNat : Int) == 45)) then true else (((x0).toNat : Int) == 46)) then true else (((x0).toNat : Int) == 95)) then true else (((x0).toNat : Int) == 126))) → K9 m14 w := by
                intro m14 k14 q13
                refine hK9 _ _ ?_; clear hK9 hR7
                refine p_val (r_assign (v := .bool ((bif (bif (bif (bif (bif (bif (bif decide ((65 : Int) ≤ ((x0).toNat : Int)) then decide (((x0).toNat : Int) ≤ 90) else false) then true else (bif decide ((97 : Int) ≤ ((x0).toNat : Int)) then decide (((x0).toNat : Int) ≤ 122) else false)) then true else (bif decide ((48 : Int) ≤ ((x0).toNat : Int)) then decide (((x0).toNat : Int) ≤ 57) else false)) then true else (((x0).toNat : Int) == 45)) then true else (((x0).toNat : Int) == 46)) then true else (((x0).toNat : Int) == 95)) then true else (((x0).toNat : Int) == 126)))) q13) ?_
                refine wpList_nil ?_
                refine x_norm ?_; refine hK2 _ _ ?_; clear hK2
                refine wp_ret ?_
                obtain rfl := Option.some.inj hF
                refine e_1 rfl (q_tmp (v := .bool ((bif (bif (bif (bif (bif (bif (bif decide ((65 : Int) ≤ ((x0).toNat : Int)) then decide (((x0).toNat : Int) ≤ 90) else false) then true else (bif decide ((97 : Int) ≤ ((x0).toNat : Int)) then decide (((x0).toNat : Int) ≤ 122) else false)) then true else (bif decide ((48 : Int) ≤ ((x0).toNat : Int)) then decide (((x0).toNat : Int) ≤ 57) else false)) then true else (((x0).toNat : Int) == 45)) then true else (((x0).toNat : Int) == 46)) then true else (((x0).toNat : Int) == 95)) then true else (((x0).toNat : Int) == 126)))) rfl) ?_
                exact ⟨rfl, H.toExt⟩
              refine p_gs (j := 34) (gvl_at rfl rfl (k13 37)) (fun hb1 => ?_) (fun hb1 => ?_)
              · skip
                refine p_skip (gvl_at rfl rfl (k13 37)) hb1 ?_
                rw [put_fr]
                refine p_skip (gvl_at rfl rfl (k13 37)) hb1 ?_
                rw [put_fr]
                refine p_val (r_pickt (v := .bool (true)) (k13 37) hb1 rfl) ?_
                refine hR7 _ _ ?_
                exact J7 _ (by (repeat (refine keep_cons rfl ?_)); exact fun _ _ => rfl) (show (.bool (true) : Value) = .bool ((bif (bif (bif (bif (bif (bif (bif decide ((65 : Int) ≤ ((x0).toNat : Int)) then decide (((x0).toNat : Int) ≤ 90) else false) then true else (bif decide ((97 : Int) ≤ ((x0).toNat : Int)) then decide (((x0).toNat : Int) ≤ 122) else false)) then true else (bif decide ((48 : Int) ≤ ((x0).toNat : Int)) then decide (((x0).toNat : Int) ≤ 57) else false)) then true else (((x0).toNat : Int) == 45)) then true else (((x0).toNat : Int) == 46)) then true else (((x0).toNat : Int) == 95)) then true else (((x0).toNat : Int) == 126))) from congrArg Value.bool (by simp only [hb1, cond_true, cond_false]))
              · skip
                refine p_want (gvl_at rfl rfl (k13 37)) hb1 ?_
                refine p_val (r_move (v := .int .u8 (((x0).toNat : Int))) ((k13 0).trans q12)) ?_
                refine p_want (gvl_at rfl rfl (k13 37)) hb1 ?_
                refine p_val (r_eql (t := (((x0).toNat : Int) == 126)) rfl rfl rfl) ?_
                refine p_val (r_pickf (v := .bool ((((x0).toNat : Int) == 126))) (k13 37) hb1 rfl) ?_
                refine hR7 _ _ ?_
                exact J7 _ (by (repeat (refine keep_cons rfl ?_)); exact fun _ _ => rfl) (show (.bool ((((x0).toNat : Int) == 126)) : Value) = .bool ((bif (bif (bif (bif (bif (bif (bif decide ((65 : Int) ≤ ((x0).toNat : Int)) then decide (((x0).toNat : Int) ≤ 90) else false) then true else (bif decide ((97 : Int) ≤ ((x0).toNat : Int)) then decide (((x0).toNat : Int) ≤ 122) else false)) then true else (bif decide ((48 : Int) ≤ ((x0).toNat : Int)) then decide (((x0).toNat : Int) ≤ 57) else false)) then true else (((x0).toNat : Int) == 45)) then true else (((x0).toNat : Int) == 46)) then true else (((x0).toNat : Int) == 95)) then true else (((x0).toNat : Int) == 126))) from congrArg Value.bool (by simp only [hb1, cond_true, cond_false]))
            refine p_gs (j := 30) (gvl_at rfl rfl (k11 33)) (fun hb2 => ?_) (fun hb2 => ?_)
            · skip
              refine p_skip (gvl_at rfl rfl (k11 33)) hb2 ?_
              rw [put_fr]
              refine p_skip (gvl_at rfl rfl (k11 33)) hb2 ?_
              rw [put_fr]
              refine p_val (r_pickt (v := .bool (true)) (k11 33) hb2 rfl) ?_
              refine hR6 _ _ ?_
              exact J6 _ (by (repeat (refine keep_cons rfl ?_)); exact fun _ _ => rfl) (show (.bool (true) : Value) = .bool ((bif (bif (bif (bif (bif (bif decide ((65 : Int) ≤ ((x0).toNat : Int)) then decide (((x0).toNat : Int) ≤ 90) else false) then true else (bif decide ((97 : Int) ≤ ((x0).toNat : Int)) then decide (((x0).toNat : Int) ≤ 122) else false)) then true else (bif decide ((48 : Int) ≤ ((x0).toNat : Int)) then decide (((x0).toNat : Int) ≤ 57) else false)) then true else (((x0).toNat : Int) == 45)) then true else (((x0).toNat : Int) == 46)) then true else (((x0).toNat : Int) == 95))) from congrArg Value.bool (by simp only [hb2, cond_true, cond_false]))
            · skip
              refine p_want (gvl_at rfl rfl (k11 33)) hb2 ?_
              refine p_val (r_move (v := .int .u8 (((x0).toNat : Int))) ((k11 0).trans q10)) ?_
              refine p_want (gvl_at rfl rfl (k11 33)) hb2 ?_
              refine p_val (r_eql (t := (((x0).toNat : Int) == 95)) rfl rfl rfl) ?_
              refine p_val (r_pickf (v := .bool ((((x0).toNat : Int) == 95))) (k11 33) hb2 rfl) ?_
              refine hR6 _ _ ?_
              exact J6 _ (by (repeat (refine keep_cons rfl ?_)); exact fun _ _ => rfl) (show (.bool ((((x0).toNat : Int) == 95)) : Value) = .bool ((bif (bif (bif (bif (bif (bif decide ((65 : Int) ≤ ((x0).toNat : Int)) then decide (((x0).toNat : Int) ≤ 90) else false) then true else (bif decide ((97 : Int) ≤ ((x0).toNat : Int)) then decide (((x0).toNat : Int) ≤ 122) else false)) then true else (bif decide ((48 : Int) ≤ ((x0).toNat : Int)) then decide (((x0).toNat : Int) ≤ 57) else false)) then true else (((x0).toNat : Int) == 45)) then true else (((x0).toNat : Int) == 46)) then true else (((x0).toNat : Int) == 95))) from congrArg Value.bool (by simp only [hb2, cond_true, cond_false]))
          refine p_gs (j := 26) (gvl_at rfl rfl (k9 29)) (fun hb3 => ?_) (fun hb3 => ?_)
          · skip
            refine p_skip (gvl_at rfl rfl (k9 29)) hb3 ?_
            rw [put_fr]
            refine p_skip (gvl_at rfl rfl (k9 29)) hb3 ?_
            rw [put_fr]
            refine p_val (r_pickt (v := .bool (true)) (k9 29) hb3 rfl) ?_
            refine hR5 _ _ ?_
            exact J5 _ (by (repeat (refine keep_cons rfl ?_)); exact fun _ _ => rfl) (show (.bool (true) : Value) = .bool ((bif (bif (bif (bif (bif decide ((65 : Int) ≤ ((x0).toNat : Int)) then decide (((x0).toNat : Int) ≤ 90) else false) then true else (bif decide ((97 : Int) ≤ ((x0).toNat : Int)) then decide (((x0).toNat : Int) ≤ 122) else false)) then true else (bif decide ((48 : Int) ≤ ((x0).toNat : Int)) then decide (((x0).toNat : Int) ≤ 57) else false)) then true else (((x0).toNat : Int) == 45)) then true else (((x0).toNat : Int) == 46))) from congrArg Value.bool (by simp only [hb3, cond_true, cond_false]))
          · skip
            refine p_want (gvl_at rfl rfl (k9 29)) hb3 ?_
            refine p_val (r_move (v := .int .u8 (((x0).toNat : Int))) ((k9 0).trans q8)) ?_
            refine p_want (gvl_at rfl rfl (k9 29)) hb3 ?_
            refine p_val (r_eql (t := (((x0).toNat : Int) == 46)) rfl rfl rfl) ?_
            refine p_val (r_pickf (v := .bool ((((x0).toNat : Int) == 46))) (k9 29) hb3 rfl) ?_
            refine hR5 _ _ ?_
            exact J5 _ (by (repeat (refine keep_cons rfl ?_)); exact fun _ _ => rfl) (show (.bool ((((x0).toNat : Int) == 46)) : Value) = .bool ((bif (bif (bif (bif (bif decide ((65 : Int) ≤ ((x0).toNat : Int)) then decide (((x0).toNat : Int) ≤ 90) else false) then true else (bif decide ((97 : Int) ≤ ((x0).toNat : Int)) then decide (((x0).toNat : Int) ≤ 122) else false)) then true else (bif decide ((48 : Int) ≤ ((x0).toNat : Int)) then decide (((x0).toNat : Int) ≤ 57) else false)) then true else (((x0).toNat : Int) == 45)) then true else (((x0).toNat : Int) == 46))) from congrArg Value.bool (by simp only [hb3, cond_true, cond_false]))
        refine p_gs (j := 22) (gvl_at rfl rfl (k7 25)) (fun hb4 => ?_) (fun hb4 => ?_)
        · skip
          refine p_skip (gvl_at rfl rfl (k7 25)) hb4 ?_
          rw [put_fr]
          refine p_skip (gvl_at rfl rfl (k7 25)) hb4 ?_
          rw [put_fr]
          refine p_val (r_pickt (v := .bool (true)) (k7 25) hb4 rfl) ?_
          refine hR4 _ _ ?_
          exact J4 _ (by (repeat (refine keep_cons rfl ?_)); exact fun _ _ => rfl) (show (.bool (true) : Value) = .bool ((bif (bif (bif (bif decide ((65 : Int) ≤ ((x0).toNat : Int)) then decide (((x0).toNat : Int) ≤ 90) else false) then true else (bif decide ((97 : Int) ≤ ((x0).toNat : Int)) then decide (((x0).toNat : Int) ≤ 122) else false)) then true else (bif decide ((48 : Int) ≤ ((x0).toNat : Int)) then decide (((x0).toNat : Int) ≤ 57) else false)) then true else (((x0).toNat : Int) == 45))) from congrArg Value.bool (by simp only [hb4, cond_true, cond_false]))
        · skip
          refine p_want (gvl_at rfl rfl (k7 25)) hb4 ?_
          refine p_val (r_move (v := .int .u8 (((x0).toNat : Int))) ((k7 0).trans q6)) ?_
          refine p_want (gvl_at rfl rfl (k7 25)) hb4 ?_
          refine p_val (r_eql (t := (((x0).toNat : Int) == 45)) rfl rfl rfl) ?_
          refine p_val (r_pickf (v := .bool ((((x0).toNat : Int) == 45))) (k7 25) hb4 rfl) ?_
          refine hR4 _ _ ?_
          exact J4 _ (by (repeat (refine keep_cons rfl ?_)); exact fun _ _ => rfl) (show (.bool ((((x0).toNat : Int) == 45)) : Value) = .bool ((bif (bif (bif (bif decide ((65 : Int) ≤ ((x0).toNat : Int)) then decide (((x0).toNat : Int) ≤ 90) else false) then true else (bif decide ((97 : Int) ≤ ((x0).toNat : Int)) then decide (((x0).toNat : Int) ≤ 122) else false)) then true else (bif decide ((48 : Int) ≤ ((x0).toNat : Int)) then decide (((x0).toNat : Int) ≤ 57) else false)) then true else (((x0).toNat : Int) == 45))) from congrArg Value.bool (by simp only [hb4, cond_true, cond_false]))
      refine p_gs (j := 14) (gvl_at rfl rfl (k5 17)) (fun hb5 => ?_) (fun hb5 => ?_)
      · skip
        refine p_skip (gvl_at rfl rfl (k5 17)) hb5 ?_
        rw [put_fr]
        refine p_skip (gvl_at rfl rfl (k5 17)) hb5 ?_
        rw [put_fr]
        refine p_skip (gvl_at rfl rfl (k5 17)) hb5 ?_
        rw [put_fr]
        refine p_skipU rfl ?_
        rw [put_fr]
        refine p_skipU rfl ?_
        rw [put_fr]
        refine p_skip (gvl_at rfl rfl (k5 17)) hb5 ?_
        rw [put_fr]
        refine p_val (r_pickt (v := .bool (true)) (k5 17) hb5 rfl) ?_
        refine hR3 _ _ ?_
        exact J3 _ (by (repeat (refine keep_cons rfl ?_)); exact fun _ _ => rfl) (show (.bool (true) : Value) = .bool ((bif (bif (bif decide ((65 : Int) ≤ ((x0).toNat : Int)) then decide (((x0).toNat : Int) ≤ 90) else false) then true else (bif decide ((97 : Int) ≤ ((x0).toNat : Int)) then decide (((x0).toNat : Int) ≤ 122) else false)) then true else (bif decide ((48 : Int) ≤ ((x0).toNat : Int)) then decide (((x0).toNat : Int) ≤ 57) else false))) from congrArg Value.bool (by simp only [hb5, cond_true, cond_false]))
      · skip
        refine p_want (gvl_at rfl rfl (k5 17)) hb5 ?_
        refine p_val (r_move (v := .int .u8 (((x0).toNat : Int))) ((k5 0).trans q4)) ?_
        refine p_want (gvl_at rfl rfl (k5 17)) hb5 ?_
        refine p_val (r_geq (t := decide ((48 : Int) ≤ ((x0).toNat : Int))) rfl rfl rfl) ?_
        refine p_want (gvl_at rfl rfl (k5 17)) hb5 ?_
        refine p_val (r_move (v := .bool (decide ((48 : Int) ≤ ((x0).toNat : Int)))) rfl) ?_
        refine p_gs (j := 17) rfl (fun hb6 => ?_) (fun hb6 => ?_)
        · skip
          refine p_want rfl hb6 ?_
          refine p_val (r_move (v := .int .u8 (((x0).toNat : Int))) ((k5 0).trans q4)) ?_
          refine p_want rfl hb6 ?_
          refine p_val (r_leq (t := decide (((x0).toNat : Int) ≤ 57)) rfl rfl rfl) ?_
          refine p_want (gvl_at rfl rfl (k5 17)) hb5 ?_
          refine p_val (r_pickt (v := .bool (decide (((x0).toNat : Int) ≤ 57))) rfl hb6 rfl) ?_
          refine p_val (r_pickf (v := .bool (decide (((x0).toNat : Int) ≤ 57))) (k5 17) hb5 rfl) ?_
          refine hR3 _ _ ?_
          exact J3 _ (by (repeat (refine keep_cons rfl ?_)); exact fun _ _ => rfl) (show (.bool (decide (((x0).toNat : Int) ≤ 57)) : Value) = .bool ((bif (bif (bif decide ((65 : Int) ≤ ((x0).toNat : Int)) then decide (((x0).toNat : Int) ≤ 90) else false) then true else (bif decide ((97 : Int) ≤ ((x0).toNat : Int)) then decide (((x0).toNat : Int) ≤ 122) else false)) then true else (bif decide ((48 : Int) ≤ ((x0).toNat : Int)) then decide (((x0).toNat : Int) ≤ 57) else false))) from congrArg Value.bool (by simp only [hb5, hb6, cond_true, cond_false]))
        · skip
          refine p_skip rfl hb6 ?_
          rw [put_fr]
          refine p_skip rfl hb6 ?_
          rw [put_fr]
          refine p_want (gvl_at rfl rfl (k5 17)) hb5 ?_
          refine p_val (r_pickf (v := .bool (false)) rfl hb6 rfl) ?_
          refine p_val (r_pickf (v := .bool (false)) (k5 17) hb5 rfl) ?_
          refine hR3 _ _ ?_
          exact J3 _ (by (repeat (refine keep_cons rfl ?_)); exact fun _ _ => rfl) (show (.bool (false) : Value) = .bool ((bif (bif (bif decide ((65 : Int) ≤ ((x0).toNat : Int)) then decide (((x0).toNat : Int) ≤ 90) else false) then true else (bif decide ((97 : Int) ≤ ((x0).toNat : Int)) then decide (((x0).toNat : Int) ≤ 122) else false)) then true else (bif decide ((48 : Int) ≤ ((x0).toNat : Int)) then decide (((x0).toNat : Int) ≤ 57) else false))) from congrArg Value.bool (by simp only [hb5, hb6, cond_true, cond_false]))
    refine p_gs (j := 6) (gvl_at rfl rfl (k3 9)) (fun hb7 => ?_) (fun hb7 => ?_)
    · skip
      refine p_skip (gvl_at rfl rfl (k3 9)) hb7 ?_
      rw [put_fr]
      refine p_skip (gvl_at rfl rfl (k3 9)) hb7 ?_
      rw [put_fr]
      refine p_skip (gvl_at rfl rfl (k3 9)) hb7 ?_
      rw [put_fr]
      refine p_skipU rfl ?_
      rw [put_fr]
      refine p_skipU rfl ?_
      rw [put_fr]
      refine p_skip (gvl_at rfl rfl (k3 9)) hb7 ?_
      rw [put_fr]
      refine p_val (r_pickt (v := .bool (true)) (k3 9) hb7 rfl) ?_
      refine hR2 _ _ ?_
      exact J2 _ (by (repeat (refine keep_cons rfl ?_)); exact fun _ _ => rfl) (show (.bool (true) : Value) = .bool ((bif (bif decide ((65 : Int) ≤ ((x0).toNat : Int)) then decide (((x0).toNat : Int) ≤ 90) else false) then true else (bif decide ((97 : Int) ≤ ((x0).toNat : Int)) then decide (((x0).toNat : Int) ≤ 122) else false))) from congrArg Value.bool (by simp only [hb7, cond_true, cond_false]))
    · skip
      refine p_want (gvl_at rfl rfl (k3 9)) hb7 ?_
      refine p_val (r_move (v := .int .u8 (((x0).toNat : Int))) ((k3 0).trans q2)) ?_
      refine p_want (gvl_at rfl rfl (k3 9)) hb7 ?_
      refine p_val (r_geq (t := decide ((97 : Int) ≤ ((x0).toNat : Int))) rfl rfl rfl) ?_
      refine p_want (gvl_at rfl rfl (k3 9)) hb7 ?_
      refine p_val (r_move (v := .bool (decide ((97 : Int) ≤ ((x0).toNat : Int)))) rfl) ?_
      refine p_gs (j := 9) rfl (fun hb8 => ?_) (fun hb8 => ?_)
      · skip
        refine p_want rfl hb8 ?_
        refine p_val (r_move (v := .int .u8 (((x0).toNat : Int))) ((k3 0).trans q2)) ?_
        refine p_want rfl hb8 ?_
        refine p_val (r_leq (t := decide (((x0).toNat : Int) ≤ 122)) rfl rfl rfl) ?_
        refine p_want (gvl_at rfl rfl (k3 9)) hb7 ?_
        refine p_val (r_pickt (v := .bool (decide (((x0).toNat : Int) ≤ 122))) rfl hb8 rfl) ?_
        refine p_val (r_pickf (v := .bool (decide (((x0).toNat : Int) ≤ 122))) (k3 9) hb7 rfl) ?_
        refine hR2 _ _ ?_
        exact J2 _ (by (repeat (refine keep_cons rfl ?_)); exact fun _ _ => rfl) (show (.bool (decide (((x0).toNat : Int) ≤ 122)) : Value) = .bool ((bif (bif decide ((65 : Int) ≤ ((x0).toNat : Int)) then decide (((x0).toNat : Int) ≤ 90) else false) then true else (bif decide ((97 : Int) ≤ ((x0).toNat : Int)) then decide (((x0).toNat : Int) ≤ 122) else false))) from congrArg Value.bool (by simp only [hb7, hb8, cond_true, cond_false]))
      · skip
        refine p_skip rfl hb8 ?_
        rw [put_fr]
        refine p_skip rfl hb8 ?_
        rw [put_fr]
        refine p_want (gvl_at rfl rfl (k3 9)) hb7 ?_
        refine p_val (r_pickf (v := .bool (false)) rfl hb8 rfl) ?_
        refine p_val (r_pickf (v := .bool (false)) (k3 9) hb7 rfl) ?_
        refine hR2 _ _ ?_
        exact J2 _ (by (repeat (refine keep_cons rfl ?_)); exact fun _ _ => rfl) (show (.bool (false) : Value) = .bool ((bif (bif decide ((65 : Int) ≤ ((x0).toNat : Int)) then decide (((x0).toNat : Int) ≤ 90) else false) then true else (bif decide ((97 : Int) ≤ ((x0).toNat : Int)) then decide (((x0).toNat : Int) ≤ 122) else false))) from congrArg Value.bool (by simp only [hb7, hb8, cond_true, cond_false]))
  refine p_gs (j := 2) (gvl_at rfl rfl (k1 5)) (fun hb9 => ?_) (fun hb9 => ?_)
  · skip
    refine p_want (gvl_at rfl rfl (k1 5)) hb9 ?_
    refine p_val (r_move (v := .int .u8 (((x0).toNat : Int))) (k1 0)) ?_
    refine p_want (gvl_at rfl rfl (k1 5)) hb9 ?_
    refine p_val (r_leq (t := decide (((x0).toNat : Int) ≤ 90)) rfl rfl rfl) ?_
    refine p_val (r_pickt (v := .bool (decide (((x0).toNat : Int) ≤ 90))) (k1 5) hb9 rfl) ?_
    refine hR1 _ _ ?_
    exact J1 _ (by (repeat (refine keep_cons rfl ?_)); exact fun _ _ => rfl) (show (.bool (decide (((x0).toNat : Int) ≤ 90)) : Value) = .bool ((bif decide ((65 : Int) ≤ ((x0).toNat : Int)) then decide (((x0).toNat : Int) ≤ 90) else false)) from congrArg Value.bool (by simp only [hb9, cond_true, cond_false]))
  · skip
    refine p_skip (gvl_at rfl rfl (k1 5)) hb9 ?_
    rw [put_fr]
    refine p_skip (gvl_at rfl rfl (k1 5)) hb9 ?_
    rw [put_fr]
    refine p_val (r_pickf (v := .bool (false)) (k1 5) hb9 rfl) ?_
    refine hR1 _ _ ?_
    exact J1 _ (by (repeat (refine keep_cons rfl ?_)); exact fun _ _ => rfl) (show (.bool (false) : Value) = .bool ((bif decide ((65 : Int) ≤ ((x0).toNat : Int)) then decide (((x0).toNat : Int) ≤ 90) else false)) from congrArg Value.bool (by simp only [hb9, cond_true, cond_false]))
def seneschalref01_bit_p (x0 : List UInt8) (x1 : Int) : Option (Int) :=
  bif decide ((w64 ((8 : Int) * ((x0).length : Int))) ≤ x1) then (some (0)) else (Option.bind (idx x0 (w64 (Int.tdiv x1 8))) fun y1 => Option.bind (chk (decide (0 ≤ (w64 ((7 : Int) - (Int.tmod x1 8)))))) fun y2 => some ((bits .and .i64 (((i8 (shrI .u8 ((y1).toNat : Int) (w64 ((7 : Int) - (Int.tmod x1 8)))))).toNat : Int) 1)))
theorem seneschalref01_bit_c {S : Mem} {w : World} (hS : Sub S w) {x0 : List UInt8} {x1 : Int} {r : Int} (hF : seneschalref01_bit_p x0 x1 = some r) :
    Calls Tryd.prog 36 #[str (x0), .int .i64 (x1)] w fun e w' => e = .returned (.int .i64 (r)) ∧ Ext w w' := by
  refine enter (n := 20) Tryd.func36 rfl rfl rfl ?_
  have H := HS.start hS
  unfold seneschalref01_bit_p at hF
  refine wp_seq_k ?_; intro K1 hK1
  refine wp_region_lit ?_
  refine p_val (r_assign (v := .int .i64 (0)) rfl) ?_
  refine wpList_nil ?_
  refine x_norm ?_; refine hK1 _ _ ?_; clear hK1
  refine wp_seq_k ?_; intro K2 hK2
  refine wp_seq_k ?_; intro K3 hK3
  refine wp_region_lit ?_
  refine p_val (r_move (v := .int .i64 (x1)) rfl) ?_
  refine p_val (r_move (v := str (x0)) rfl) ?_
  refine p_val (r_lenT (N := (x0).length) u9 rfl rfl) ?_
  refine p_val (r_mul (r := w64 ((8 : Int) * ((x0).length : Int))) rfl rfl rfl) ?_
  refine p_val (r_geq (t := decide ((w64 ((8 : Int) * ((x0).length : Int))) ≤ x1)) rfl rfl rfl) ?_
  refine wpList_nil ?_
  refine x_norm ?_; refine hK3 _ _ ?_; clear hK3
  refine c_split (t := decide ((w64 ((8 : Int) * ((x0).length : Int))) ≤ x1)) rfl (fun hc1 => ?_) (fun hc1 => ?_)
  · replace hF := cnd_t hF hc1
    refine wp_seq_k ?_; intro K4 hK4
    refine wp_region_lit ?_
    refine p_val (r_assign (v := .int .i64 (0)) rfl) ?_
    refine wpList_nil ?_
    refine x_norm ?_; refine hK4 _ _ ?_; clear hK4
    refine wp_ret ?_
    refine x_ret ?_
    obtain rfl := Option.some.inj hF
    refine e_1 rfl (q_tmp (v := .int .i64 (0)) rfl) ?_
    exact ⟨rfl, H.toExt⟩
  · replace hF := cnd_f hF hc1
    refine wp_skip ?_
    refine x_norm ?_; refine hK2 _ _ ?_; clear hK2
    refine wp_seq_k ?_; intro K5 hK5
    refine wp_region_lit ?_
    refine p_val (r_move (v := str (x0)) rfl) ?_
    refine p_val (r_move (v := .int .i64 (x1)) rfl) ?_
    refine p_val (r_quo (r := w64 (Int.tdiv x1 8)) rfl rfl (by decide) rfl) ?_
    obtain ⟨y1, e1, hF⟩ := bnd hF
    refine p_val (r_idxT (i := ((w64 (Int.tdiv x1 8)) : Int).toNat) (u := y1) u9 rfl rfl (idx_some e1).1 (idx_some e1).2) ?_
    refine p_val (r_move (v := .int .i64 (x1)) rfl) ?_
    refine p_val (r_rem (r := Int.tmod x1 8) rfl rfl (by decide) rfl) ?_
    refine p_val (r_sub (r := w64 ((7 : Int) - (Int.tmod x1 8))) rfl rfl rfl) ?_
    obtain ⟨y2, e2, hF⟩ := bnd hF
    refine p_val (r_shr (r := (((i8 (shrI .u8 ((y1).toNat : Int) (w64 ((7 : Int) - (Int.tmod x1 8)))))).toNat : Int)) rfl rfl (Int.not_lt.2 (of_decide_eq_true (chk_some e2))) (i8_shr _ _)) ?_
    refine p_val (r_conv (r := (((i8 (shrI .u8 ((y1).toNat : Int) (w64 ((7 : Int) - (Int.tmod x1 8)))))).toNat : Int)) u5 u3 rfl (w64_u8 _)) ?_
    refine p_val (r_bits (bo := .and) (by simp) (r := (bits .and .i64 (((i8 (shrI .u8 ((y1).toNat : Int) (w64 ((7 : Int) - (Int.tmod x1 8)))))).toNat : Int) 1)) rfl rfl rfl) ?_
    refine p_val (r_assign (v := .int .i64 ((bits .and .i64 (((i8 (shrI .u8 ((y1).toNat : Int) (w64 ((7 : Int) - (Int.tmod x1 8)))))).toNat : Int) 1))) rfl) ?_
    refine wpList_nil ?_
    refine x_norm ?_; refine hK5 _ _ ?_; clear hK5
    refine wp_ret ?_
    obtain rfl := Option.some.inj hF
    refine e_1 rfl (q_tmp (v := .int .i64 ((bits .and .i64 (((i8 (shrI .u8 ((y1).toNat : Int) (w64 ((7 : Int) - (Int.tmod x1 8)))))).toNat : Int) 1))) rfl) ?_
    exact ⟨rfl, H.toExt⟩
def seneschalref01_swap_b0 (x0 : List UInt8) (x1 : UInt8) (x2 : UInt8) (s1 : Int × (List UInt8)) : Option ((Int × (List UInt8)) ⊕ ((List UInt8))) :=
  bif decide (s1.1 < ((x0).length : Int)) then (Option.bind (idx x0 s1.1) fun y1 => Option.bind (bif (((y1).toNat : Int) == ((x1).toNat : Int)) then (some (x2)) else (some (y1))) (fun t2 => Option.bind (app s1.2 ([t2] : List UInt8)) fun y2 => some (.inl (((w64 (s1.1 + 1)), y2))))) else (some (.inr (s1.2)))
def seneschalref01_swap_p (x0 : List UInt8) (x1 : UInt8) (x2 : UInt8) : Option ((List UInt8)) :=
  Option.bind (Option.bind (iter (seneschalref01_swap_b0 x0 x1 x2) ((0, ([] : List UInt8)))) (fun e => some (e))) (fun t1 => some (t1))
theorem seneschalref01_swap_c {S : Mem} {w : World} (hS : Sub S w) {x0 : List UInt8} {x1 : UInt8} {x2 : UInt8} {r : (List UInt8)} (hF : seneschalref01_swap_p x0 x1 x2 = some r) :
    Calls Tryd.prog 46 #[str (x0), .int .u8 (((x1).toNat : Int)), .int .u8 (((x2).toNat : Int))] w fun e w' => e = .returned (str (r)) ∧ Ext w w' := by
  refine enter (n := 30) Tryd.func46 rfl rfl rfl ?_
  have H := HS.start hS
  unfold seneschalref01_swap_p at hF
  refine wp_seq_k ?_; intro K1 hK1
  refine wp_region_lit ?_
  refine p_val (r_assign (v := str (([] : List UInt8))) rfl) ?_
  refine wpList_nil ?_
  refine x_norm ?_; refine hK1 _ _ ?_; clear hK1
  refine wp_seq_k ?_; intro K2 hK2
  refine wp_region_lit ?_
  have g1 : RL S ([] : List Value) ([] : List UInt8) := RL.nil
  refine p_of1 (a_bslice (N := 0) (vals := []) (l := ([] : List Value)) tn40 H rfl rfl rfl g1.len) ?_; clear H; intro w1 v1 H
  replace H : HS ⟨S, [], w⟩ S w1 [.osl (v1) (([] : List UInt8)).length 1 ([] : List Value) [] 5] := H
  refine p_val (r_assign (v := v1) rfl) ?_
  refine wpList_nil ?_
  refine x_norm ?_; refine hK2 _ _ ?_; clear hK2
  refine wp_seq_k ?_; intro K3 hK3
  refine nameF fun m1 k1 => ?_
  obtain ⟨t1, hE1, hF1⟩ := bnd hF
  have J2 : ∀ (v5 : Value) (cs5 rs3 : List Value) (m6 : FM) (w6 : World), (∀ t, has [7, 8, 9, 11, 12, 13, 14, 15, 16, 17, 18, 19, 20, 21, 22, 23, 24, 25, 26, 27] t = false → look m6 t = look m1 t) → look m6 7 = v5 → HS ⟨S, [], w⟩ S w6 [.osl (v5) (t1).length 1 cs5 rs3 5] → RL S cs5 t1 → K3 (fr 30 m6) w6 := by
    clear H; intro v5 cs5 rs3 m6 w6 k7 q12 H g5
    refine hK3 _ _ ?_
    refine wp_seq_k ?_; intro K11 hK11
    refine wp_region_lit ?_
    refine p_val (r_move (v := v5) q12) ?_
    refine p_val (r_strO u40 u5 u9 rfl H (k := 0) rfl g5) ?_
    refine p_val (r_assign (v := str (t1)) rfl) ?_
    refine wpList_nil ?_
    refine x_norm ?_; refine hK11 _ _ ?_; clear hK11
    refine wp_ret ?_
    obtain rfl := Option.some.inj hF1
    refine e_1 rfl (q_tmp (v := str (t1)) rfl) ?_
    exact ⟨rfl, H.toExt⟩
  refine wp_seq_k ?_; intro K4 hK4
  refine wp_region_lit ?_
  refine p_val (r_assign (v := .int .i64 (0)) rfl) ?_
  refine wpList_nil ?_
  refine x_norm ?_; refine hK4 _ _ ?_; clear hK4
  refine wp_block ?_
  refine nameF fun m2 k2 => ?_
  obtain ⟨out1, hL1, hE2⟩ := bnd hE1
  replace H : HS ⟨S, [], w⟩ S w1 [.osl (v1) (([] : List UInt8)).length 1 ([] : List Value) [] 5] := H
  refine loopI [7, 8, 9, 11, 12, 13, 14, 15, 16, 17, 18, 19, 20, 21, 22, 23, 24, 25, 26, 27] (fun (s1 : Int × (List UInt8)) (m3 : FM) (w2 : World) => ∃ (v2 : Value) (cs2 rs1 : List Value), look m3 7 = v2 ∧ look m3 8 = .int .i64 (s1.1) ∧ HS ⟨S, [], w⟩ S w2 [.osl (v2) (s1.2).length 1 cs2 rs1 5] ∧ RL S cs2 s1.2) hL1 ⟨_, _, _, (show _ = (v1 : Value) from ((k2 7).trans (k1 7))), (k2 8), H, g1⟩ ?_
  clear H; intro k4 s1 m3 w2 k3 hI1 o2 hb1 hh1; obtain ⟨v2, cs2, rs1, q1, q2, H, g2⟩ := hI1
  have q3 : look m3 0 = str (x0) := (k3 0 rfl).trans ((k2 0).trans (k1 0))
  have q4 : look m3 1 = .int .u8 (((x1).toNat : Int)) := (k3 1 rfl).trans ((k2 1).trans (k1 1))
  have q5 : look m3 2 = .int .u8 (((x2).toNat : Int)) := (k3 2 rfl).trans ((k2 2).trans (k1 2))
  unfold seneschalref01_swap_b0 at hb1
  refine wp_seq_k ?_; intro K5 hK5
  refine wp_seq_k ?_; intro K6 hK6
  refine wp_region_lit ?_
  refine p_val (r_move (v := .int .i64 (s1.1)) q2) ?_
  refine p_val (r_move (v := str (x0)) q3) ?_
  refine p_val (r_lenT (N := (x0).length) u9 rfl rfl) ?_
  refine p_val (r_lss (t := decide (s1.1 < ((x0).length : Int))) rfl rfl rfl) ?_
  refine wpList_nil ?_
  refine x_norm ?_; refine hK6 _ _ ?_; clear hK6
  refine c_split (t := decide (s1.1 < ((x0).length : Int))) rfl (fun hc1 => ?_) (fun hc1 => ?_)
  · replace hb1 := cnd_t hb1 hc1
    refine wp_skip ?_
    refine x_norm ?_; refine hK5 _ _ ?_; clear hK5
    refine wp_seq_k ?_; intro K7 hK7
    refine wp_block ?_
    refine wp_seq_k ?_; intro K8 hK8
    refine wp_region_lit ?_
    refine p_val (r_move (v := str (x0)) q3) ?_
    refine p_val (r_move (v := .int .i64 (s1.1)) q2) ?_
    obtain ⟨y1, e1, hb1⟩ := bnd hb1
    refine p_val (r_idxT (i := (s1.1 : Int).toNat) (u := y1) u9 rfl rfl (idx_some e1).1 (idx_some e1).2) ?_
    refine p_val (r_assign (v := .int .u8 (((y1).toNat : Int))) rfl) ?_
    refine wpList_nil ?_
    refine x_norm ?_; refine hK8 _ _ ?_; clear hK8
    refine wp_seq_k ?_; intro K9 hK9
    refine nameF fun m4 k5 => ?_
    obtain ⟨t2, hE3, hF2⟩ := bnd hb1
    have J1 : ∀ (m5 : FM) (w3 : World), (∀ t, has [9, 20, 21, 22, 23] t = false → look m5 t = look m4 t) → look m5 9 = .int .u8 (((t2).toNat : Int)) → HS ⟨S, [], w⟩ S w3 [.osl (v2) (s1.2).length 1 cs2 rs1 5] → K9 (fr 30 m5) w3 := by
      clear H; intro m5 w3 k6 q6 H
      have q7 : look m5 0 = str (x0) := (k6 0 rfl).trans ((k5 0).trans q3)
      have q8 : look m5 1 = .int .u8 (((x1).toNat : Int)) := (k6 1 rfl).trans ((k5 1).trans q4)
      have q9 : look m5 2 = .int .u8 (((x2).toNat : Int)) := (k6 2 rfl).trans ((k5 2).trans q5)
      have q10 : look m5 7 = v2 := (k6 7 rfl).trans ((k5 7).trans q1)
      have q11 : look m5 8 = .int .i64 (s1.1) := (k6 8 rfl).trans ((k5 8).trans q2)
      refine hK9 _ _ ?_
      refine wp_region_lit ?_
      refine p_val (r_move (v := v2) q10) ?_
      refine p_val (r_move (v := .int .u8 (((t2).toNat : Int))) q6) ?_
      have g3 : RL S ([Value.int .u8 (((t2).toNat : Int))] ++ ([] : List Value)) ([t2] : List UInt8) := (RL.cons rpU8 RL.nil)
      refine p_of1 (a_bslice (N := 1) (vals := [(0, .int .u8 (((t2).toNat : Int)))]) (l := ([Value.int .u8 (((t2).toNat : Int))] ++ ([] : List Value))) tn40 H rfl rfl rfl g3.len) ?_; clear H; intro w4 v3 H
      generalize ([Value.int .u8 (((t2).toNat : Int))] ++ ([] : List Value)) = cs3 at H g3
      replace H : HS ⟨S, [], w⟩ S w4 [.osl (v3) (([t2] : List UInt8)).length 1 cs3 [] 5, .osl (v2) (s1.2).length 1 cs2 rs1 5] := H
      obtain ⟨y2, e2, hF2⟩ := bnd hF2
      refine p_of1 (a_appendX (k := 1) (v2 := v3) tn40 rfl H rfl rfl g2 rfl (H.slW (k := 0) rfl) g3 e2) ?_; clear H; rintro w5 v4 ⟨cs4, rs2, H, g4⟩
      replace H : HS ⟨S, [], w⟩ S w5 [.osl (v3) (([t2] : List UInt8)).length 1 cs3 [] 5, .osl (v4) (y2).length 1 cs4 rs2 5] := H
      replace H := H.sel [1] rfl
      replace H : HS ⟨S, [], w⟩ S w5 [.osl (v4) (y2).length 1 cs4 rs2 5] := H
      refine p_val (r_assign (v := v4) rfl) ?_
      refine wpList_nil ?_
      refine b_norm ?_
      refine x_norm ?_; refine hK7 _ _ ?_; clear hK7
      refine wp_region_lit ?_
      refine p_val (r_move (v := .int .i64 (s1.1)) q11) ?_
      refine p_val (r_add (r := w64 (s1.1 + 1)) rfl rfl rfl) ?_
      refine p_val (r_assign (v := .int .i64 ((w64 (s1.1 + 1)))) rfl) ?_
      refine wpList_nil ?_
      refine x_norm ?_
      replace H : HS ⟨S, [], w⟩ S w5 [.osl (v4) (y2).length 1 cs4 rs2 5] := H
      obtain rfl := Option.some.inj hF2
      exact ⟨((w64 (s1.1 + 1)), y2), _, rfl, (by (repeat (refine keep_cons rfl ?_)); refine keep_sub k6 rfl ?_; (repeat (refine keep_cons rfl ?_)); refine keep_name k5 ?_; (repeat (refine keep_cons rfl ?_)); refine keep_sub k3 rfl ?_; (repeat (refine keep_cons rfl ?_)); exact fun _ _ => rfl), ⟨_, _, _, rfl, rfl, H, g4⟩, hh1⟩
    refine wp_seq_k ?_; intro K10 hK10
    refine wp_region_lit ?_
    refine p_val (r_move (v := .int .u8 (((y1).toNat : Int))) (k5 9)) ?_
    refine p_val (r_move (v := .int .u8 (((x1).toNat : Int))) ((k5 1).trans q4)) ?_
    refine p_val (r_eql (t := (((y1).toNat : Int) == ((x1).toNat : Int))) rfl rfl rfl) ?_
    refine wpList_nil ?_
    refine x_norm ?_; refine hK10 _ _ ?_; clear hK10
    refine c_split (t := (((y1).toNat : Int) == ((x1).toNat : Int))) rfl (fun hc2 => ?_) (fun hc2 => ?_)
    · replace hE3 := cnd_t hE3 hc2
      refine wp_region_lit ?_
      refine p_val (r_move (v := .int .u8 (((x2).toNat : Int))) ((k5 2).trans q5)) ?_
      refine p_val (r_assign (v := .int .u8 (((x2).toNat : Int))) rfl) ?_
      refine wpList_nil ?_
      refine x_norm ?_
      replace H : HS ⟨S, [], w⟩ S w2 [.osl (v2) (s1.2).length 1 cs2 rs1 5] := H
      obtain rfl := Option.some.inj hE3
      exact J1 _ _ (by (repeat (refine keep_cons rfl ?_)); exact fun _ _ => rfl) rfl H
    · replace hE3 := cnd_f hE3 hc2
      refine wp_skip ?_
      refine x_norm ?_
      replace H : HS ⟨S, [], w⟩ S w2 [.osl (v2) (s1.2).length 1 cs2 rs1 5] := H
      obtain rfl := Option.some.inj hE3
      exact J1 _ _ (by (repeat (refine keep_cons rfl ?_)); exact fun _ _ => rfl) (k5 9) H
  · replace hb1 := cnd_f hb1 hc1
    refine wp_exit ?_
    refine x_exit ?_
    refine x_exit ?_
    refine b_hit ?_
    refine x_norm ?_
    replace H : HS ⟨S, [], w⟩ S w2 [.osl (v2) (s1.2).length 1 cs2 rs1 5] := H
    obtain rfl := Option.some.inj hb1
    obtain rfl := Option.some.inj hh1
    obtain rfl := Option.some.inj hE2
    exact J2 _ _ _ _ _ (by (repeat (refine keep_cons rfl ?_)); refine keep_sub k3 rfl ?_; (repeat (refine keep_cons rfl ?_)); refine keep_name k2 ?_; (repeat (refine keep_cons rfl ?_)); exact fun _ _ => rfl) (show _ = (v2 : Value) from q1) H g2
end Go.Proofs.YtdomaggikbmooaaDoor
