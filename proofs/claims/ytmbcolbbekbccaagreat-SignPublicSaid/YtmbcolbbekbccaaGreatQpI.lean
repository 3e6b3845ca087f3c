/- What some functions compute, and that they do. Conditions: as each theorem says. -/
import Derived.Test.YtmbcolbbekbccaaGreatQpH
namespace Go.Proofs.YtmbcolbbekbccaaGreat
open Go Go.RowKit
attribute [local irreducible] wpList wpT Code.wp Calls Code.rounds
theorem to9 : TOne Tryz.prog 9 := ⟨fun _ => by kernel_rfl, fun _ => by kernel_rfl⟩
theorem to99 : TOne Tryz.prog 99 := ⟨fun _ => by kernel_rfl, fun _ => by kernel_rfl⟩
theorem to101 : TOne Tryz.prog 101 := ⟨fun _ => by kernel_rfl, fun _ => by kernel_rfl⟩
theorem tz103 : TZero Tryz.prog 103 (.agg #[.slice none 0 0]) := fun _ => by kernel_rfl
theorem tz117 : TZero Tryz.prog 117 (.agg #[str [], str [], str [], .int .u64 0, .int .u64 0, .int .u64 0, .int .u64 0, .int .u32 0, .int .i32 0, .int .u32 0, .int .u64 0, .int .u64 0, .int .u64 0, .int .u64 0, .int .u64 0, .int .u64 0, .int .u64 0, .int .u64 0, .bool false]) := fun _ => by kernel_rfl
theorem u99 : Tryz.prog.underlying 99 = some (.pointer 117) := by kernel_rfl
theorem u101 : Tryz.prog.underlying 101 = some (.slice 99) := by kernel_rfl
theorem eg99 : Tryz.prog.eqGuardType Tryz.prog.depth 99 = false := by kernel_rfl
theorem is46 : IsFn Tryz.prog 46 := isFn Tryz.func46 (by kernel_rfl) (by kernel_rfl)
theorem is72 : IsFn Tryz.prog 72 := isFn Tryz.func72 (by kernel_rfl) (by kernel_rfl)
theorem is73 : IsFn Tryz.prog 73 := isFn Tryz.func73 (by kernel_rfl) (by kernel_rfl)
theorem is76 : IsFn Tryz.prog 76 := isFn Tryz.func76 (by kernel_rfl) (by kernel_rfl)
theorem is79 : IsFn Tryz.prog 79 := isFn Tryz.func79 (by kernel_rfl) (by kernel_rfl)
theorem is86 : IsFn Tryz.prog 86 := isFn Tryz.func86 (by kernel_rfl) (by kernel_rfl)
theorem is129 : IsFn Tryz.prog 129 := isFn Tryz.func129 (by kernel_rfl) (by kernel_rfl)
theorem tb103 : TBuild Tryz.prog 103 (.agg #[.slice none 0 0]) [(0, 1)] := tbuildS (fs := fieldsOf Tryz.prog 103) (by kernel_rfl) tz103 (fun _ => by kernel_rfl)
theorem tb117 : TBuild Tryz.prog 117 (.agg #[str [], str [], str [], .int .u64 0, .int .u64 0, .int .u64 0, .int .u64 0, .int .u32 0, .int .i32 0, .int .u32 0, .int .u64 0, .int .u64 0, .int .u64 0, .int .u64 0, .int .u64 0, .int .u64 0, .int .u64 0, .int .u64 0, .bool false]) [(0, 1), (1, 1), (2, 1), (3, 4), (7, 3), (10, 9)] := tbuildS (fs := fieldsOf Tryz.prog 117) (by kernel_rfl) tz117 (fun _ => by kernel_rfl)
theorem fa103_0 : TField Tryz.prog 103 0 0 := fun _ _ _ => by kernel_rfl
theorem fa117_1 : TField Tryz.prog 117 1 1 := fun _ _ _ => by kernel_rfl
theorem fa117_2 : TField Tryz.prog 117 2 2 := fun _ _ _ => by kernel_rfl
theorem tn40 : TSn Tryz.prog 40 9 (str []) [str []] 16 1 := TSn.mk' (by kernel_rfl) (by kernel_rfl) rfl rfl rfl rfl
theorem tn101 : TSn Tryz.prog 101 99 (.pointer none) [.pointer none] 8 1 := TSn.mk' (by kernel_rfl) (by kernel_rfl) rfl rfl rfl rfl
def cl117 (x : (List UInt8) × (List UInt8) × (List UInt8) × Qw × Onc × Qp) : List Value := [str (x.1)] ++ ([str (x.2.1)] ++ ([str (x.2.2.1)] ++ (cl24 x.2.2.2.1 ++ ((x.2.2.2.2.1).l ++ (cl26 x.2.2.2.2.2)))))
theorem rp117c {S : Mem} (x : (List UInt8) × (List UInt8) × (List UInt8) × Qw × Onc × Qp) : Rp.rep S (cl117 x) x := rpP (rpT) (rpP (rpT) (rpP (rpT) (rpP (rp24c _) (rpP (rpOnc _) (rp26c _)))))
theorem el117c {S : Mem} {c : List Value} {x : (List UInt8) × (List UInt8) × (List UInt8) × Qw × Onc × Qp} (h : Rp.rep S c x) : c = cl117 x := by
  obtain ⟨c0, d0, rfl, h0, k1⟩ := elP h; obtain rfl := elT h0
  obtain ⟨c1, d1, rfl, h1, k2⟩ := elP k1; obtain rfl := elT h1
  obtain ⟨c2, d2, rfl, h2, k3⟩ := elP k2; obtain rfl := elT h2
  obtain ⟨c3, d3, rfl, h3, k4⟩ := elP k3; obtain rfl := el24c h3
  obtain ⟨c4, d4, rfl, h4, k5⟩ := elP k4; obtain rfl := elOnc h4
  obtain rfl := el26c k5; rfl
theorem tsz99 : TSz Tryz.prog 99 1 := fun _ => by kernel_rfl
theorem tsz101 : TSz Tryz.prog 101 1 := fun _ => by kernel_rfl
def sign_Sign_p (x0 : Qw) (x1 : List UInt8) : Option ((List UInt8) × Int) :=
  Option.bind (sign_fine_p x0) fun y1 => bif (!y1) then (some ((([] : List UInt8), 80))) else (none)
theorem sign_Sign_c {S : Mem} {w : World} (hS : Sub S w) {x0 : Qw} {x1 : List UInt8} {r : (List UInt8) × Int} (hF : sign_Sign_p x0 x1 = some r) :
    Calls Tryz.prog 12 #[.agg ((cl24 x0)).toArray, str (x1)] w fun e w' => e = .returned (.tuple #[str (r.1), .int .i64 (r.2)]) ∧ Ext w w' := by
 refine enter (n := 99) Tryz.func12 rfl rfl rfl ?_
 have H := HS.start hS
 unfold sign_Sign_p at hF
 refine sr ?_; intro K1 hK1
 refine p_ofb (a_box (l := (cl24 x0)) H rfl) ?_; clear H; intro w1 b1 H
 refine p_as (v := str (([] : List UInt8))) rfl ?_
 refine p_as (v := .int .i64 (0)) rfl ?_
 refine xk hK1 ?_; clear hK1
 refine wp_seq_k ?_; intro K2 hK2
 refine sr ?_; intro K3 hK3
 refine p_val (h_load (l := (cl24 x0)) tg24 H rfl (k := 0) rfl rfl rfl) ?_
 obtain ⟨y1, e1, hF⟩ := bnd hF
 refine p_call (l := [.agg ((cl24 x0)).toArray]) is34 rfl ?_
 refine (sign_fine_c H.sub e1).mono ?_; rintro _ w2 ⟨rfl, hx⟩; replace H := H.ext hx; clear hx
 refine p_val (r_not (t := (!y1)) rfl rfl) ?_
 refine xk hK3 ?_; clear hK3
 refine c_split (t := (!y1)) rfl (fun hc1 => ?_) (fun hc1 => ?_)
 ·replace hF := cnd_t hF hc1
  refine sr ?_; intro K4 hK4
  refine p_as (v := str (([] : List UInt8))) rfl ?_
  refine p_as (v := .int .i64 (80)) rfl ?_
  refine xk hK4 ?_; clear hK4
  refine wp_ret ?_
  refine x_ret ?_
  obtain rfl := osi hF
  refine e_2 rfl (q_tmp (v := str (([] : List UInt8))) rfl) (q_tmp (v := .int .i64 (80)) rfl) ?_
  exact ⟨rfl, H.toExt⟩
 ·replace hF := cnd_f hF hc1
  refine wp_skip ?_
  refine xn hK2 ?_; clear hK2
  refine wp_seq_k ?_; intro K5 hK5
  exact nomatch hF
def sign_Verify_p (x0 : Qp) (x1 : List UInt8) (x2 : List UInt8) : Option (Bool) :=
  Option.bind (bif (((x2).length : Int) != 64) then (some (true)) else (some (x0.2.2))) (fun t1 => Option.bind (bif t1 then (some (true)) else (Option.bind (curve_On_p x0) fun y1 => some ((!y1)))) (fun t2 => bif t2 then (some (false)) else (none)))
theorem sign_Verify_c {S : Mem} {w : World} (hS : Sub S w) {x0 : Qp} {x1 : List UInt8} {x2 : List UInt8} {r : Bool} (hF : sign_Verify_p x0 x1 x2 = some r) :
    Calls Tryz.prog 14 #[.agg ((cl26 x0)).toArray, str (x1), str (x2)] w fun e w' => e = .returned (.bool (r)) ∧ Ext w w' := by
 refine enter (n := 93) Tryz.func14 rfl rfl rfl ?_
 have H := HS.start hS
 unfold sign_Verify_p at hF
 refine sr ?_; intro K1 hK1
 refine p_ofb (a_box (l := (cl26 x0)) H rfl) ?_; clear H; intro w1 b1 H
 refine p_as (v := .bool (false)) rfl ?_
 refine xk hK1 ?_; clear hK1
 refine wp_seq_k ?_; intro K2 hK2
 refine sr ?_; intro K3 hK3
 refine p_mv (v := str (x2)) rfl ?_
 refine p_val (r_lenT (N := (x2).length) u9 rfl rfl) ?_
 refine p_val (r_neqI rfl rfl) ?_
 refine p_mv (v := .bool ((((x2).length : Int) != 64))) rfl ?_
 refine nameL fun m1 k1 => ?_
 refine gs_at 3 fun K4 hK4 R2 hR2 => ?_
 obtain ⟨t1, hE1, hF1⟩ := bnd hF
 have J2 : ∀ (m2 : FM) (w2 : World), (∀ t, has [22, 23, 24] t = false → look m2 t = look m1 t) → look m2 24 = .bool (t1) → HS ⟨S, [], w⟩ S w2 [.blk b1 ((cl26 x0)) 26] → K4 m2 w2 := by
  clear H; intro m2 w2 k2 q1 H
  have q2 : look m2 1 = str (x1) := (k2 1 rfl).trans (k1 1)
  have q3 : look m2 2 = str (x2) := (k2 2 rfl).trans (k1 2)
  have q4 : look m2 3 = .pointer (some ⟨b1, 0, none⟩) := (k2 3 rfl).trans (k1 3)
  refine hK4 _ _ ?_
  refine p_mv q1 ?_
  refine nameL fun m3 k3 => ?_
  refine gs_at 4 fun K5 hK5 R3 hR3 => ?_
  obtain ⟨t2, hE2, hF2⟩ := bnd hF1
  have J1 : ∀ (m4 : FM) (w4 : World), (∀ t, has [26, 27, 28, 29] t = false → look m4 t = look m3 t) → look m4 29 = .bool (t2) → HS ⟨S, [], w⟩ S w4 [.blk b1 ((cl26 x0)) 26] → K5 m4 w4 := by
   clear H; intro m4 w4 k4 q5 H
   have q6 : look m4 1 = str (x1) := (k4 1 rfl).trans ((k3 1).trans q2)
   have q7 : look m4 2 = str (x2) := (k4 2 rfl).trans ((k3 2).trans q3)
   have q8 : look m4 3 = .pointer (some ⟨b1, 0, none⟩) := (k4 3 rfl).trans ((k3 3).trans q4)
   refine hK5 _ _ ?_
   refine xk hK3 ?_; clear hK3
   refine c_split (t := t2) q5 (fun hc1 => ?_) (fun hc1 => ?_)
   ·replace hF2 := cnd_t hF2 hc1
    refine sr ?_; intro K6 hK6
    refine p_as (v := .bool (false)) rfl ?_
    refine xk hK6 ?_; clear hK6
    refine wp_ret ?_
    refine x_ret ?_
    obtain rfl := osi hF2
    refine e_1 rfl (q_tmp (v := .bool (false)) rfl) ?_
    exact ⟨rfl, H.toExt⟩
   ·replace hF2 := cnd_f hF2 hc1
    refine wp_skip ?_
    refine xn hK2 ?_; clear hK2
    refine wp_seq_k ?_; intro K7 hK7
    exact nomatch hF2
  refine p_gs (j := 7) (gvl_at rfl rfl (k3 25)) (fun hb2 => ?_) (fun hb2 => ?_)
  ·replace hE2 := cnd_t hE2 hb2
   refine p_skip (gvl_at rfl rfl (k3 25)) hb2 ?_
   rw [put_fr]
   refine p_skip (gvl_at rfl rfl (k3 25)) hb2 ?_
   rw [put_fr]
   refine p_skip (gvl_at rfl rfl (k3 25)) hb2 ?_
   rw [put_fr]
   refine p_val (r_pickt (v := .bool (true)) (k3 25) hb2 rfl) ?_
   refine hR3 _ _ ?_
   replace H : HS ⟨S, [], w⟩ S w2 [.blk b1 ((cl26 x0)) 26] := H
   obtain rfl := osi hE2
   exact J1 _ _ kcx rfl H
  ·replace hE2 := cnd_f hE2 hb2
   refine p_want (gvl_at rfl rfl (k3 25)) hb2 ?_
   refine p_val (h_load (l := (cl26 x0)) tg26 H ((k3 3).trans q4) (k := 0) rfl rfl rfl) ?_
   refine p_want (gvl_at rfl rfl (k3 25)) hb2 ?_
   obtain ⟨y1, e1, hE2⟩ := bnd hE2
   refine p_call (l := [.agg ((cl26 x0)).toArray]) is60 rfl ?_
   refine (curve_On_c H.sub e1).mono ?_; rintro _ w3 ⟨rfl, hx⟩; replace H := H.ext hx; clear hx
   refine p_want (gvl_at rfl rfl (k3 25)) hb2 ?_
   refine p_val (r_not (t := (!y1)) rfl rfl) ?_
   refine p_val (r_pickf (v := .bool ((!y1))) (k3 25) hb2 rfl) ?_
   refine hR3 _ _ ?_
   replace H : HS ⟨S, [], w⟩ S w3 [.blk b1 ((cl26 x0)) 26] := H
   obtain rfl := osi hE2
   exact J1 _ _ kcx rfl H
 refine p_gs (j := 3) (gvl_at rfl rfl (k1 21)) (fun hb1 => ?_) (fun hb1 => ?_)
 ·replace hE1 := cnd_t hE1 hb1
  refine p_skip (gvl_at rfl rfl (k1 21)) hb1 ?_
  rw [put_fr]
  refine p_skip (gvl_at rfl rfl (k1 21)) hb1 ?_
  rw [put_fr]
  refine p_val (r_pickt (v := .bool (true)) (k1 21) hb1 rfl) ?_
  refine hR2 _ _ ?_
  replace H : HS ⟨S, [], w⟩ S w1 [.blk b1 ((cl26 x0)) 26] := H
  obtain rfl := osi hE1
  exact J2 _ _ kcx rfl H
 ·replace hE1 := cnd_f hE1 hb1
  refine p_want (gvl_at rfl rfl (k1 21)) hb1 ?_
  refine p_val (r_field fa26_2 (k1 3)) ?_
  refine p_want (gvl_at rfl rfl (k1 21)) hb1 ?_
  refine p_val (h_load1 (v := .bool (x0.2.2)) to4 H rfl (k := 0) rfl rfl) ?_
  refine p_val (r_pickf (v := .bool (x0.2.2)) (k1 21) hb1 rfl) ?_
  refine hR2 _ _ ?_
  replace H : HS ⟨S, [], w⟩ S w1 [.blk b1 ((cl26 x0)) 26] := H
  obtain rfl := osi hE1
  exact J2 _ _ kcx rfl H
noncomputable def sign_made_p (x0 : List UInt8) : Option ((Option ((List UInt8) × (List UInt8) × (List UInt8) × Qw × Onc × Qp))) :=
  Option.bind (hash_Mac_p ([107, 101, 121] : List UInt8) x0) fun y1 => Option.bind (field_Reduce_p 1 y1) fun y2 => Option.bind (Option.bind (sign_zero_p) fun y3 => bif ((y2 : Qw) == (y3 : Qw)) then (some (((1 : UInt64), (0 : UInt64), (0 : UInt64), (0 : UInt64)))) else (some ((y2.1, y2.2.1, y2.2.2.1, y2.2.2.2)))) (fun t1 => Option.bind (hash_Mac_p ([107, 105, 100] : List UInt8) x0) fun y4 => Option.bind (subH y4 9) fun y5 => Option.bind (codec_Base64_p y5) fun y6 => Option.bind (hash_Mac_p ([109, 97, 99] : List UInt8) x0) fun y7 => some ((some (x0, y6, y7, t1, onc0, (((0 : UInt64), (0 : UInt64), (0 : UInt64), (0 : UInt64)), ((0 : UInt64), (0 : UInt64), (0 : UInt64), (0 : UInt64)), false)))))
theorem sign_made_c {S : Mem} {w : World} (hS : Sub S w) {x0 : List UInt8} {r : (Option ((List UInt8) × (List UInt8) × (List UInt8) × Qw × Onc × Qp))} (hF : sign_made_p x0 = some r) :
    Calls Tryz.prog 72 #[str (x0)] w fun e w' => Ext w w' ∧ ∃ (v0' : Value), e = .returned (v0') ∧ Rp.rep (gr S w w') [v0'] r := by
 refine enter (n := 21) Tryz.func72 rfl rfl rfl ?_
 have H := HS.start hS
 unfold sign_made_p at hF
 refine sr ?_; intro K1 hK1
 refine p_as (v := .pointer none) rfl ?_
 refine xk hK1 ?_; clear hK1
 refine sr ?_; intro K2 hK2
 refine p_mv (v := str (x0)) rfl ?_
 obtain ⟨y1, e1, hF⟩ := bnd hF
 refine p_call (l := [str (([107, 101, 121] : List UInt8)), str (x0)]) is46 rfl ?_
 refine (hash_Mac_c H.sub e1).mono ?_; rintro _ w1 ⟨rfl, hx⟩; replace H := H.ext hx; clear hx
 obtain ⟨y2, e2, hF⟩ := bnd hF
 refine p_call (l := [.int .i64 (1), str (y1)]) is86 rfl ?_
 refine (field_Reduce_c H.sub e2).mono ?_; rintro _ w2 ⟨rfl, hx⟩; replace H := H.ext hx; clear hx
 refine p_ofb (a_alloc (l := (cl24 ((0 : UInt64), (0 : UInt64), (0 : UInt64), (0 : UInt64)))) H tz24 rfl) ?_; clear H; intro w3 b1 H
 refine p_ofs (a_store (k := 0) (v := .agg ((cl24 y2)).toArray) (l := (cl24 y2)) tsz24 H rfl rfl rfl (cells_agg _) rfl (fun u hu => List.all_eq_true.1 (rfl : ((cl24 y2)).all (·.oneCell') = true) u hu) rfl) ?_; clear H; intro w4 H
 replace H : HS ⟨S, [], w⟩ S w4 [.blk b1 ((cl24 y2)) 24] := H
 refine xk hK2 ?_; clear hK2
 refine wp_seq_k ?_; intro K3 hK3
 refine nameF fun m1 k1 => ?_
 obtain ⟨t1, hE1, hF1⟩ := bnd hF
 have J1 : ∀ (m2 : FM) (w7 : World), (∀ t, has [7, 8, 9, 10] t = false → look m2 t = look m1 t) → HS ⟨S, [], w⟩ S w7 [.blk b1 ((cl24 t1)) 24] → K3 (fr 21 m2) w7 := by
  clear H; intro m2 w7 k2 H
  have q1 : look m2 0 = str (x0) := (k2 0 rfl).trans (k1 0)
  have q2 : look m2 3 = .pointer (some ⟨b1, 0, none⟩) := (k2 3 rfl).trans (k1 3)
  refine hK3 _ _ ?_
  refine wp_seq_k ?_; intro K5 hK5
  obtain ⟨y4, e4, hF1⟩ := bnd hF1
  obtain ⟨y5, e5, hF1⟩ := bnd hF1
  obtain ⟨y6, e6, hF1⟩ := bnd hF1
  obtain ⟨y7, e7, hF1⟩ := bnd hF1
  apply wp_region_ext 9 (kindsF [(2, .inl (str (y4))), (4, .inl (str (y6))), (6, .inl (str (y7)))]) rfl rfl (by kernel_rfl); intro vs2
  simp only [tkS, tkZ, drS, drZ]
  replace H := H.drew
  refine t_v (fun w hx => r_move q1) ?_
  refine t_v (fun w hx => r_move q1) ?_
  refine t_call (l := [str (([107, 105, 100] : List UInt8)), str (x0)]) rfl rfl is46 rfl (fun w hx hF => (hash_Mac_c (H.ext hx).sub e4).mono (fun _ _ ⟨he, hx⟩ => ⟨he, hx⟩)) ?_
  refine t_v (fun w hx => r_sliceTH (h := (9 : Int).toNat) (r := y5) u9 rfl rfl (subH_some e5).1 (subH_some e5).2.1 (subH_some e5).2.2) ?_
  refine t_call (l := [str (y5)]) rfl rfl is129 rfl (fun w hx hF => (codec_Base64_c (H.ext hx).sub e6).mono (fun _ _ ⟨he, hx⟩ => ⟨he, hx⟩)) ?_
  refine t_v (fun w hx => r_move q1) ?_
  refine t_call (l := [str (([109, 97, 99] : List UInt8)), str (x0)]) rfl rfl is46 rfl (fun w hx hF => (hash_Mac_c (H.ext hx).sub e7).mono (fun _ _ ⟨he, hx⟩ => ⟨he, hx⟩)) ?_
  refine t_v (fun w hx => h_load (l := (cl24 t1)) tg24 (H.ext hx) q2 (k := 0) rfl rfl rfl) ?_
  refine t_v (fun w hx => r_build (vals := [(0, str (x0)), (1, str (y6)), (2, str (y7)), (3, .agg ((cl24 t1)).toArray)]) (l := (cl117 (x0, y6, y7, t1, onc0, (((0 : UInt64), (0 : UInt64), (0 : UInt64), (0 : UInt64)), ((0 : UInt64), (0 : UInt64), (0 : UInt64), (0 : UInt64)), false)))) tb117 rfl rfl) ?_
  refine t_nil (fun w8 hx hF hA => ?_)
  replace H := H.ext hx; clear hx hF hA
  refine p_ofb (a_box (l := (cl117 (x0, y6, y7, t1, onc0, (((0 : UInt64), (0 : UInt64), (0 : UInt64), (0 : UInt64)), ((0 : UInt64), (0 : UInt64), (0 : UInt64), (0 : UInt64)), false)))) H rfl) ?_; clear H; intro w9 b2 H
  refine p_as (v := .pointer (some ⟨b2, 0, none⟩)) rfl ?_
  refine wpList_nil ?_; refine on_norm ?_
  refine xn hK5 ?_; clear hK5
  refine wp_ret ?_
  obtain ⟨S1, hle1, ha1, H1⟩ := H.fixB (k := 0) rfl; clear H; have H := H1; clear H1
  have g1 : Rp.rep S1 [.pointer (some ⟨b2, 0, none⟩)] (some (x0, y6, y7, t1, onc0, (((0 : UInt64), (0 : UInt64), (0 : UInt64), (0 : UInt64)), ((0 : UInt64), (0 : UInt64), (0 : UInt64), (0 : UInt64)), false)) : Option ((List UInt8) × (List UInt8) × (List UInt8) × Qw × Onc × Qp)) := rpK (CellAt.whole ha1) (Rp.mono (rp117c _) hle1); clear ha1
  replace H : HS ⟨S, [], w⟩ S1 w9 [.blk b1 ((cl24 t1)) 24] := H
  obtain rfl := osi hF1
  refine e_1 rfl (q_tmp (v := .pointer (some ⟨b2, 0, none⟩)) rfl) ?_
  exact ⟨H.toExt, _, rfl, Rp.mono g1 H.gr⟩
 refine wp_seq_k ?_; intro K4 hK4
 obtain ⟨y3, e3, hE1⟩ := bnd hE1
 apply wp_region_ext 3 (kindsF [(1, .inl (.agg ((cl24 y3)).toArray))]) rfl rfl (by kernel_rfl); intro vs1
 simp only [tkS, tkZ, drS, drZ]
 replace H := H.drew
 refine t_v (fun w hx => h_load (l := (cl24 y2)) tg24 (H.ext hx) (k1 3) (k := 0) rfl rfl rfl) ?_
 refine t_call (l := []) rfl rfl is48 rfl (fun w hx hF => (sign_zero_c (H.ext hx).sub e3).mono (fun _ _ ⟨he, hx⟩ => ⟨he, hx⟩)) ?_
 refine t_v (fun w hx => r_eqR eg24 (by decide) (eqt24 y2 y3) rfl rfl) ?_
 refine t_nil (fun w5 hx hF hA => ?_)
 replace H := H.ext hx; clear hx hF hA
 refine wpList_nil ?_; refine on_norm ?_
 refine xn hK4 ?_; clear hK4
 refine c_split (t := ((y2 : Qw) == (y3 : Qw))) rfl (fun hc1 => ?_) (fun hc1 => ?_)
 ·replace hE1 := cnd_t hE1 hc1
  refine wp_region_lit ?_
  refine p_val (r_build (vals := [(0, .int .u64 (1))]) (l := (cl24 ((1 : UInt64), (0 : UInt64), (0 : UInt64), (0 : UInt64)))) tb24 rfl rfl) ?_
  refine p_ofs (a_store (k := 0) (v := .agg ((cl24 ((1 : UInt64), (0 : UInt64), (0 : UInt64), (0 : UInt64)))).toArray) (l := (cl24 ((1 : UInt64), (0 : UInt64), (0 : UInt64), (0 : UInt64)))) tsz24 H (k1 3) rfl rfl (cells_agg _) rfl (fun u hu => List.all_eq_true.1 (rfl : ((cl24 ((1 : UInt64), (0 : UInt64), (0 : UInt64), (0 : UInt64)))).all (·.oneCell') = true) u hu) rfl) ?_; clear H; intro w6 H
  replace H : HS ⟨S, [], w⟩ S w6 [.blk b1 ((cl24 ((1 : UInt64), (0 : UInt64), (0 : UInt64), (0 : UInt64)))) 24] := H
  refine wpList_nil ?_
  refine x_norm ?_
  replace H : HS ⟨S, [], w⟩ S w6 [.blk b1 ((cl24 ((1 : UInt64), (0 : UInt64), (0 : UInt64), (0 : UInt64)))) 24] := H
  obtain rfl := osi hE1
  exact J1 _ _ kcx H
 ·replace hE1 := cnd_f hE1 hc1
  refine wp_skip ?_
  refine x_norm ?_
  replace H : HS ⟨S, [], w⟩ S w5 [.blk b1 ((cl24 y2)) 24] := H
  obtain rfl := osi hE1
  exact J1 _ _ kcx H
noncomputable def sign_NewRing_p (x0 : List UInt8) : Option (((List (Option ((List UInt8) × (List UInt8) × (List UInt8) × Qw × Onc × Qp))))) :=
  Option.bind (sign_made_p x0) fun y1 => some (([y1] : List (Option ((List UInt8) × (List UInt8) × (List UInt8) × Qw × Onc × Qp))))
theorem sign_NewRing_c {S : Mem} {w : World} (H : HS ⟨S, keysR [], w⟩ S w []) {x0 : List UInt8} {r : ((List (Option ((List UInt8) × (List UInt8) × (List UInt8) × Qw × Onc × Qp))))} (hF : sign_NewRing_p x0 = some r) :
    Calls Tryz.prog 16 #[str (x0)] w fun e w' => ∃ (S2 : Mem) (pb2 : Nat) (pv2 : Value) (pcs2 prs2 : List Value), e = .returned (.pointer (some ⟨pb2, 0, none⟩)) ∧ HS ⟨S, keysR [], w⟩ S2 w' [.blk pb2 (([pv2])) 103, .osl (pv2) (r).length 1 pcs2 prs2 99] ∧ RL S2 pcs2 r := by
 refine enter (n := 8) Tryz.func16 rfl rfl rfl ?_
 unfold sign_NewRing_p at hF
 refine sr ?_; intro K1 hK1
 refine p_as (v := .pointer none) rfl ?_
 refine xk hK1 ?_; clear hK1
 refine sr ?_; intro K2 hK2
 refine p_mv (v := str (x0)) rfl ?_
 obtain ⟨y1, e1, hF⟩ := bnd hF
 refine p_call (l := [str (x0)]) is72 rfl ?_
 refine (sign_made_c H.sub e1).mono ?_; rintro _ w1 ⟨hx, v1, rfl, g1⟩
 have hle1 := gr_le (w' := w1) H.sub; replace H := H.call hx; clear hx; generalize gr S w w1 = S1 at hle1 H g1
 have g2 : RL S1 ([v1] ++ ([] : List Value)) ([y1] : List (Option ((List UInt8) × (List UInt8) × (List UInt8) × Qw × Onc × Qp))) := (RL.cons g1 RL.nil)
 refine p_of1 (a_bslice (N := 1) (vals := [(0, v1)]) (l := ([v1] ++ ([] : List Value))) tn101 H rfl (by simp only [fillL, lkp, List.replicate, List.flatten_cons, List.flatten_nil, cellsK g1]; rfl) rfl g2.len) ?_; clear H; intro w2 v2 H
 generalize ([v1] ++ ([] : List Value)) = cs1 at H g2
 replace H : HS ⟨S, keysR [], w⟩ S1 w2 [.osl (v2) (([y1] : List (Option ((List UInt8) × (List UInt8) × (List UInt8) × Qw × Onc × Qp)))).length 1 cs1 [] 99] := H
 refine p_val (r_build (vals := [(0, v2)]) (l := ([v2])) tb103 rfl (by simp only [fillL, lkp, HS.ownCells H (k := 0) rfl]; rfl)) ?_
 refine p_ofb (a_box (l := ([v2])) H rfl) ?_; clear H; intro w3 b1 H
 refine p_as (v := .pointer (some ⟨b1, 0, none⟩)) rfl ?_
 refine xk hK2 ?_; clear hK2
 refine wp_ret ?_
 obtain rfl := osi hF
 refine e_1 rfl (q_tmp (v := .pointer (some ⟨b1, 0, none⟩)) rfl) ?_
 replace H : HS ⟨S, keysR [], w⟩ S1 w3 [.blk b1 (([v2])) 103, .osl (v2) (([y1] : List (Option ((List UInt8) × (List UInt8) × (List UInt8) × Qw × Onc × Qp)))).length 1 cs1 [] 99] := H
 exact ⟨_, _, _, _, _, rfl, H, g2⟩
def sign_Ring_find_b0 (x1 : List UInt8) (y1 : (List (Option ((List UInt8) × (List UInt8) × (List UInt8) × Qw × Onc × Qp)))) (s1 : Int) : Option ((Int) ⊕ (((Option ((List UInt8) × (List UInt8) × (List UInt8) × Qw × Onc × Qp))) ⊕ (Unit))) :=
  bif decide (s1 < ((y1).length : Int)) then (Option.bind (idx y1 s1) fun y2 => Option.bind (y2) fun y3 => bif (y3.2.1 == x1) then (some (.inr (.inl (y2)))) else (some (.inl ((w64 (s1 + 1)))))) else (some (.inr (.inr (()))))
def sign_Ring_find_p (x0 : Option ((List (Option ((List UInt8) × (List UInt8) × (List UInt8) × Qw × Onc × Qp))))) (x1 : List UInt8) : Option ((Option ((List UInt8) × (List UInt8) × (List UInt8) × Qw × Onc × Qp))) :=
  jn (Option.bind (x0) fun y1 => Option.bind (iter (sign_Ring_find_b0 x1 y1) (0)) (fun e => jnO e (fun e1 => some (.inr (e1))) (fun e2 => some (.inl (e2))))) (fun t1 => some (none)) (fun e => some (e))
theorem sign_Ring_find_c {S : Mem} {w : World} (hS : Sub S w) {v0_ : Value} {x0 : Option ((List (Option ((List UInt8) × (List UInt8) × (List UInt8) × Qw × Onc × Qp))))} (h0_ : Rp.rep S [v0_] x0) {x1 : List UInt8} {r : (Option ((List UInt8) × (List UInt8) × (List UInt8) × Qw × Onc × Qp))} (hF : sign_Ring_find_p x0 x1 = some r) :
    Calls Tryz.prog 73 #[v0_, str (x1)] w fun e w' => Ext w w' ∧ ∃ (v0' : Value), e = .returned (v0') ∧ Rp.rep (gr S w w') [v0'] r := by
 refine enter (n := 24) Tryz.func73 rfl rfl rfl ?_
 have H := HS.start hS
 unfold sign_Ring_find_p at hF
 refine sr ?_; intro K1 hK1
 refine p_as (v := .pointer none) rfl ?_
 refine xk hK1 ?_; clear hK1
 refine wp_seq_k ?_; intro K2 hK2
 refine nameF fun m1 k1 => ?_
 obtain ⟨o1, hE1, hF1⟩ := jn_some hF
 have J1 : ∀ (t1 : Unit) (m4 : FM) (w2 : World), o1 = .inl t1 → (∀ t, has [4, 6, 7, 8, 9, 10, 11, 12, 13, 14, 15, 16, 17, 18, 19, 20, 21, 22, 23] t = false → look m4 t = look m1 t) → HS ⟨S, [], w⟩ S w2 [] → K2 (fr 24 m4) w2 := by
  clear H; intro t1 m4 w2 ho k5 H
  replace hF1 := jnO_l hF1 ho
  refine hK2 _ _ ?_
  refine sr ?_; intro K10 hK10
  refine p_as (v := .pointer none) rfl ?_
  refine xk hK10 ?_; clear hK10
  refine wp_ret ?_
  obtain rfl := osi hF1
  refine e_1 rfl (q_tmp (v := .pointer none) rfl) ?_
  exact ⟨H.toExt, _, rfl, Rp.mono rpK0 H.gr⟩
 refine sr ?_; intro K3 hK3
 refine p_mv (v := v0_) (k1 0) ?_
 obtain ⟨y1, e1, hE1⟩ := bnd hE1
 obtain ⟨b1, cs1, hv1, hc1, hr1⟩ := opK h0_ e1; subst hv1
 refine p_val (r_nilck rfl) ?_
 obtain ⟨v1, rfl, g1⟩ := elL hr1
 refine p_val (r_field fa103_0 rfl) ?_
 refine p_val (s_load1 (p := 0) (o := 0) (v := v1) to101 H.sub rfl hc1 rfl) ?_
 refine p_val (r_lenR' u101 rfl g1 H.sub) ?_
 refine p_mv (v := .int .i64 (0)) rfl ?_
 refine xk hK3 ?_; clear hK3
 refine wp_block ?_
 refine nameF fun m2 k2 => ?_
 obtain ⟨out1, hL1, hE2⟩ := bnd hE1
 replace H : HS ⟨S, [], w⟩ S w [] := H
 refine loopI [4, 6, 12, 13, 14, 15, 16, 17, 18, 19, 20, 21, 22, 23] (fun (s1 : Int) (m3 : FM) (w1 : World) => look m3 12 = .int .i64 (s1) ∧ HS ⟨S, [], w⟩ S w1 []) hL1 ⟨(k2 12), H⟩ ?_
 clear H; intro k4 s1 m3 w1 k3 hI1 o2 hb1 hh1; obtain ⟨q1, H⟩ := hI1
 have q2 : look m3 1 = str (x1) := (k3 1 rfl).trans ((k2 1).trans (k1 1))
 have q3 : look m3 10 = v1 := (k3 10 rfl).trans (k2 10)
 have q4 : look m3 11 = .int .i64 (((y1).length : Int)) := (k3 11 rfl).trans (k2 11)
 unfold sign_Ring_find_b0 at hb1
 refine sr ?_; intro K4 hK4
 refine p_val (r_lssI q1 q4) ?_
 refine xk hK4 ?_; clear hK4
 refine wp_seq_k ?_; intro K5 hK5
 refine c_split (t := decide (s1 < ((y1).length : Int))) rfl (fun hc2 => ?_) (fun hc2 => ?_)
 ·replace hb1 := cnd_t hb1 hc2
  refine wp_skip ?_
  refine xn hK5 ?_; clear hK5
  refine wp_seq_k ?_; intro K6 hK6
  refine wp_block ?_
  refine sr ?_; intro K7 hK7
  obtain ⟨y2, e2, hb1⟩ := bnd hb1
  obtain ⟨b2, o3, N1, c1, cs2, hv2, hi1, hc3, hr2⟩ := g1.get (idx_some e2).2
  refine p_val (r_addrV (i := (s1 : Int).toNat) u101 tsz99 q3 hv2 q1 (idx_some e2).1 hi1) ?_
  obtain ⟨v2, rfl, g2⟩ := elK hr2
  refine p_val (s_load1 (p := (o3 + (s1 : Int).toNat * 1)) (o := 0) (v := v2) to99 H.sub rfl hc3 rfl) ?_
  refine p_as (v := v2) rfl ?_
  refine xk hK7 ?_; clear hK7
  refine sr ?_; intro K8 hK8
  refine p_mv (v := v2) rfl ?_
  obtain ⟨y3, e3, hb1⟩ := bnd hb1
  obtain ⟨b3, cs3, hv3, hc4, hr3⟩ := opK g2 e3; subst hv3
  refine p_val (r_nilck rfl) ?_
  obtain rfl := el117c hr3
  refine p_val (r_field fa117_1 rfl) ?_
  refine p_val (s_load1 (p := 0) (o := 1) (v := str (y3.2.1)) to9 H.sub rfl hc4 rfl) ?_
  refine p_mv q2 ?_
  refine p_val (r_eqT (t := (y3.2.1 == x1)) rfl rfl rfl) ?_
  refine xk hK8 ?_; clear hK8
  refine c_split (t := (y3.2.1 == x1)) rfl (fun hc5 => ?_) (fun hc5 => ?_)
  ·replace hb1 := cnd_t hb1 hc5
   refine sr ?_; intro K9 hK9
   refine p_mv (v := .pointer (some ⟨b3, 0, none⟩)) rfl ?_
   refine p_as (v := .pointer (some ⟨b3, 0, none⟩)) rfl ?_
   refine xk hK9 ?_; clear hK9
   refine wp_ret ?_
   refine b_ret ?_
   refine x_ret ?_
   refine x_ret ?_
   refine b_ret ?_
   refine x_ret ?_
   obtain rfl := osi hb1
   obtain rfl := osi hh1
   obtain rfl := osi hE2
   obtain rfl := osi hF1
   refine e_1 rfl (q_tmp (v := .pointer (some ⟨b3, 0, none⟩)) rfl) ?_
   exact ⟨H.toExt, _, rfl, Rp.mono g2 H.gr⟩
  ·replace hb1 := cnd_f hb1 hc5
   refine wp_skip ?_
   refine b_norm ?_
   refine xn hK6 ?_; clear hK6
   refine wp_region_lit ?_
   refine p_val (r_addI q1 rfl) ?_
   refine p_mv (v := .int .i64 ((w64 (s1 + 1)))) rfl ?_
   refine wpList_nil ?_
   refine x_norm ?_
   replace H : HS ⟨S, [], w⟩ S w1 [] := H
   obtain rfl := osi hb1
   exact ⟨(w64 (s1 + 1)), _, rfl, (by (repeat (refine keep_cons rfl ?_)); refine keep_sub k3 rfl ?_; exact kcx), ⟨rfl, H⟩, hh1⟩
 ·replace hb1 := cnd_f hb1 hc2
  refine wp_exit ?_
  refine x_exit ?_
  refine x_exit ?_
  refine b_hit ?_
  refine x_norm ?_
  replace H : HS ⟨S, [], w⟩ S w1 [] := H
  obtain rfl := osi hb1
  obtain rfl := osi hh1
  obtain rfl := osi hE2
  exact J1 _ _ _ rfl (by (repeat (refine keep_cons rfl ?_)); refine keep_sub k3 rfl ?_; (repeat (refine keep_cons rfl ?_)); refine keep_name k2 ?_; exact kcx) H
def sign_Ring_newest_p (x0 : Option ((List (Option ((List UInt8) × (List UInt8) × (List UInt8) × Qw × Onc × Qp))))) : Option ((Option ((List UInt8) × (List UInt8) × (List UInt8) × Qw × Onc × Qp))) :=
  Option.bind (x0) fun y1 => Option.bind (x0) fun y2 => Option.bind (idx y1 (w64 (((y2).length : Int) - 1))) fun y3 => some (y3)
theorem sign_Ring_newest_c {S : Mem} {w : World} (hS : Sub S w) {v0_ : Value} {x0 : Option ((List (Option ((List UInt8) × (List UInt8) × (List UInt8) × Qw × Onc × Qp))))} (h0_ : Rp.rep S [v0_] x0) {r : (Option ((List UInt8) × (List UInt8) × (List UInt8) × Qw × Onc × Qp))} (hF : sign_Ring_newest_p x0 = some r) :
    Calls Tryz.prog 76 #[v0_] w fun e w' => Ext w w' ∧ ∃ (v0' : Value), e = .returned (v0') ∧ Rp.rep (gr S w w') [v0'] r := by
 refine enter (n := 15) Tryz.func76 rfl rfl rfl ?_
 have H := HS.start hS
 unfold sign_Ring_newest_p at hF
 refine sr ?_; intro K1 hK1
 refine p_as (v := .pointer none) rfl ?_
 refine xk hK1 ?_; clear hK1
 refine wp_seq_k ?_; intro K2 hK2
 obtain ⟨y1, e1, hF⟩ := bnd hF
 obtain ⟨b1, cs1, hv1, hc1, hr1⟩ := opK h0_ e1; subst hv1
 obtain ⟨v1, rfl, g1⟩ := elL hr1
 obtain ⟨y2, e2, hF⟩ := bnd hF
 obtain ⟨cs2, hc2, hr2⟩ := opK' h0_ e2
 obtain ⟨v2, rfl, g2⟩ := elL hr2
 obtain ⟨y3, e3, hF⟩ := bnd hF
 obtain ⟨b2, o1, N1, c1, cs3, hv2, hi1, hc3, hr3⟩ := g1.get (idx_some e3).2
 obtain ⟨v3, rfl, g3⟩ := elK hr3
 apply wp_region_ext 12 (kindsF []) rfl rfl (by kernel_rfl); intro vs1
 simp only [tkS, tkZ, drS, drZ]
 replace H := H.drew
 refine t_v (fun w hx => r_move (v := (.pointer (some ⟨b1, 0, none⟩))) rfl) ?_
 refine t_v (fun w hx => r_nilck rfl) ?_
 refine t_v (fun w hx => r_field fa103_0 rfl) ?_
 refine t_v (fun w hx => s_load1 (p := 0) (o := 0) (v := v1) to101 (H.ext hx).sub rfl hc1 rfl) ?_
 refine t_v (fun w hx => r_move (v := .pointer (some ⟨b1, 0, none⟩)) rfl) ?_
 refine t_v (fun w hx => r_nilck rfl) ?_
 refine t_v (fun w hx => r_field fa103_0 rfl) ?_
 refine t_v (fun w hx => s_load1 (p := 0) (o := 0) (v := v2) to101 (H.ext hx).sub rfl hc2 rfl) ?_
 refine t_v (fun w hx => r_lenR' u101 rfl g2 (H.ext hx).sub) ?_
 refine t_v (fun w hx => r_subI rfl rfl) ?_
 refine t_v (fun w hx => r_addrV (i := ((w64 (((y2).length : Int) - 1)) : Int).toNat) u101 tsz99 rfl hv2 rfl (idx_some e3).1 hi1) ?_
 refine t_v (fun w hx => s_load1 (p := (o1 + ((w64 (((y2).length : Int) - 1)) : Int).toNat * 1)) (o := 0) (v := v3) to99 (H.ext hx).sub rfl hc3 rfl) ?_
 refine t_nil (fun w1 hx hF hA => ?_)
 replace H := H.ext hx; clear hx hF hA
 refine p_as (v := v3) rfl ?_
 refine wpList_nil ?_; refine on_norm ?_
 refine xn hK2 ?_; clear hK2
 refine wp_ret ?_
 obtain rfl := osi hF
 refine e_1 rfl (q_tmp (v := v3) rfl) ?_
 exact ⟨H.toExt, _, rfl, Rp.mono g3 H.gr⟩
noncomputable def sign_Ring_Turn_p (x0 : (List (Option ((List UInt8) × (List UInt8) × (List UInt8) × Qw × Onc × Qp)))) (x1 : List UInt8) : Option (Int × ((List (Option ((List UInt8) × (List UInt8) × (List UInt8) × Qw × Onc × Qp))))) :=
  Option.bind (sign_made_p x1) fun y1 => Option.bind (y1) fun y2 => Option.bind (sign_Ring_find_p (some x0) y2.2.1) fun y3 => bif (!y3.isNone) then (some ((80, x0))) else (bif (((x0).length : Int) == 8) then (some ((82, x0))) else (Option.bind (app x0 ([y1] : List (Option ((List UInt8) × (List UInt8) × (List UInt8) × Qw × Onc × Qp)))) fun y4 => some ((0, y4))))
theorem sign_Ring_Turn_c {S : Mem} {w : World} {b0_ : Nat} {x0 : (List (Option ((List UInt8) × (List UInt8) × (List UInt8) × Qw × Onc × Qp)))} {pv1 : Value} {pcs1 prs1 : List Value} (H : HS ⟨S, keysR [.blk b0_ (([pv1])) 103, .osl (pv1) (x0).length 1 pcs1 prs1 99], w⟩ S w [.blk b0_ (([pv1])) 103, .osl (pv1) (x0).length 1 pcs1 prs1 99]) (pg1 : RL S pcs1 x0) {x1 : List UInt8} {r : Int × ((List (Option ((List UInt8) × (List UInt8) × (List UInt8) × Qw × Onc × Qp))))} (hF : sign_Ring_Turn_p x0 x1 = some r) :
    Calls Tryz.prog 17 #[.pointer (some ⟨b0_, 0, none⟩), str (x1)] w fun e w' => ∃ (S2 : Mem) (pv5 : Value) (pcs5 prs5 : List Value), e = .returned (.int .i64 (r.1)) ∧ HS ⟨S, keysR [.blk b0_ (([pv1])) 103, .osl (pv1) (x0).length 1 pcs1 prs1 99], w⟩ S2 w' [.blk b0_ (([pv5])) 103, .osl (pv5) (r.2).length 1 pcs5 prs5 99] ∧ RL S2 pcs5 r.2 := by
 refine enter (n := 33) Tryz.func17 rfl rfl rfl ?_
 unfold sign_Ring_Turn_p at hF
 refine sr ?_; intro K1 hK1
 refine p_as (v := .int .i64 (0)) rfl ?_
 refine xk hK1 ?_; clear hK1
 refine sr ?_; intro K2 hK2
 refine p_mv (v := str (x1)) rfl ?_
 obtain ⟨y1, e1, hF⟩ := bnd hF
 refine p_call (l := [str (x1)]) is72 rfl ?_
 refine (sign_made_c H.sub e1).mono ?_; rintro _ w1 ⟨hx, v1, rfl, g1⟩
 have hle1 := gr_le (w' := w1) H.sub; replace H := H.call hx; clear hx; generalize gr S w w1 = S1 at hle1 H g1
 replace pg1 := RL.mono pg1 hle1
 refine p_as (v := v1) rfl ?_
 refine xk hK2 ?_; clear hK2
 refine wp_seq_k ?_; intro K3 hK3
 refine wp_block ?_
 refine sr ?_; intro K4 hK4
 refine p_mv (v := .pointer (some ⟨b0_, 0, none⟩)) rfl ?_
 refine p_mv (v := v1) rfl ?_
 obtain ⟨y2, e2, hF⟩ := bnd hF
 obtain ⟨b1, cs1, hv1, hc1, hr1⟩ := opK g1 e2; subst hv1
 refine p_val (r_nilck rfl) ?_
 obtain rfl := el117c hr1
 refine p_val (r_field fa117_1 rfl) ?_
 refine p_val (s_load1 (p := 0) (o := 1) (v := str (y2.2.1)) to9 H.sub rfl hc1 rfl) ?_
 obtain ⟨y3, e3, hF⟩ := bnd hF
 refine p_call (l := [.pointer (some ⟨b0_, 0, none⟩), str (y2.2.1)]) is73 rfl ?_
 refine (sign_Ring_find_c (subMem w1) (rpK (HS.blkAt H (k := 0) rfl) (rpL (RdS.ofOwn H (k := 1) rfl pg1))) e3).mono ?_; rintro _ w2 ⟨hx, v2, rfl, g2⟩; replace H := H.ext hx; clear hx
 refine p_val (r_neK u99 eg99 rfl g2 rfl) ?_
 refine p_as (v := .bool ((!y3.isNone))) rfl ?_
 refine xk hK4 ?_; clear hK4
 refine c_split (t := (!y3.isNone)) rfl (fun hc2 => ?_) (fun hc2 => ?_)
 ·replace hF := cnd_t hF hc2
  refine sr ?_; intro K5 hK5
  refine p_as (v := .int .i64 (80)) rfl ?_
  refine xk hK5 ?_; clear hK5
  refine wp_ret ?_
  refine b_ret ?_
  refine x_ret ?_
  obtain rfl := osi hF
  refine e_1 rfl (q_tmp (v := .int .i64 (80)) rfl) ?_
  replace H : HS ⟨S, keysR [.blk b0_ (([pv1])) 103, .osl (pv1) (x0).length 1 pcs1 prs1 99], w⟩ S1 w2 [.blk b0_ (([pv1])) 103, .osl (pv1) (x0).length 1 pcs1 prs1 99] := H
  exact ⟨_, _, _, _, rfl, H, pg1⟩
 ·replace hF := cnd_f hF hc2
  refine sr ?_; intro K6 hK6
  refine p_mv (v := .pointer (some ⟨b0_, 0, none⟩)) rfl ?_
  refine p_val (r_nilck rfl) ?_
  refine p_val (r_field fa103_0 rfl) ?_
  refine p_val (h_load1 (v := pv1) to101 H rfl (k := 0) rfl rfl) ?_
  refine p_val (r_lenO u101 rfl H (k := 1) rfl rfl) ?_
  refine p_val (r_eqlI rfl rfl) ?_
  refine p_as (v := .bool ((((x0).length : Int) == 8))) rfl ?_
  refine xk hK6 ?_; clear hK6
  refine c_split (t := (((x0).length : Int) == 8)) rfl (fun hc3 => ?_) (fun hc3 => ?_)
  ·replace hF := cnd_t hF hc3
   refine sr ?_; intro K7 hK7
   refine p_as (v := .int .i64 (82)) rfl ?_
   refine xk hK7 ?_; clear hK7
   refine wp_ret ?_
   refine b_ret ?_
   refine x_ret ?_
   obtain rfl := osi hF
   refine e_1 rfl (q_tmp (v := .int .i64 (82)) rfl) ?_
   replace H : HS ⟨S, keysR [.blk b0_ (([pv1])) 103, .osl (pv1) (x0).length 1 pcs1 prs1 99], w⟩ S1 w2 [.blk b0_ (([pv1])) 103, .osl (pv1) (x0).length 1 pcs1 prs1 99] := H
   exact ⟨_, _, _, _, rfl, H, pg1⟩
  ·replace hF := cnd_f hF hc3
   refine wp_skip ?_
   refine b_norm ?_
   refine xn hK3 ?_; clear hK3
   refine sr ?_; intro K8 hK8
   refine p_mv (v := .pointer (some ⟨b0_, 0, none⟩)) rfl ?_
   refine p_mv (v := .pointer (some ⟨b0_, 0, none⟩)) rfl ?_
   refine p_val (r_nilck rfl) ?_
   refine p_val (r_field fa103_0 rfl) ?_
   refine p_val (h_load1 (v := pv1) to101 H rfl (k := 0) rfl rfl) ?_
   refine p_mv (v := .pointer (some ⟨b1, 0, none⟩)) rfl ?_
   have g3 : RL S1 ([Value.pointer (some ⟨b1, 0, none⟩)] ++ ([] : List Value)) ([y1] : List (Option ((List UInt8) × (List UInt8) × (List UInt8) × Qw × Onc × Qp))) := (RL.cons g1 RL.nil)
   refine p_of1 (a_bslice (N := 1) (vals := [(0, .pointer (some ⟨b1, 0, none⟩))]) (l := ([Value.pointer (some ⟨b1, 0, none⟩)] ++ ([] : List Value))) tn101 H rfl rfl rfl g3.len) ?_; clear H; intro w3 v3 H
   generalize ([Value.pointer (some ⟨b1, 0, none⟩)] ++ ([] : List Value)) = cs2 at H g3
   replace H : HS ⟨S, keysR [.blk b0_ (([pv1])) 103, .osl (pv1) (x0).length 1 pcs1 prs1 99], w⟩ S1 w3 [.osl (v3) (([y1] : List (Option ((List UInt8) × (List UInt8) × (List UInt8) × Qw × Onc × Qp)))).length 1 cs2 [] 99, .blk b0_ (([pv1])) 103, .osl (pv1) (x0).length 1 pcs1 prs1 99] := H
   obtain ⟨y4, e4, hF⟩ := bnd hF
   refine p_of1 (a_appendX (k := 2) (v2 := v3) tn101 rfl H rfl rfl pg1 rfl (H.slW (k := 0) rfl) g3 e4) ?_; clear H; rintro w4 v4 ⟨cs3, rs1, H, g4⟩
   replace H : HS ⟨S, keysR [.blk b0_ (([pv1])) 103, .osl (pv1) (x0).length 1 pcs1 prs1 99], w⟩ S1 w4 [.osl (v3) (([y1] : List (Option ((List UInt8) × (List UInt8) × (List UInt8) × Qw × Onc × Qp)))).length 1 cs2 [] 99, .blk b0_ (([pv1])) 103, .osl (v4) (y4).length 1 cs3 rs1 99] := H
   replace H := H.sel [1, 2] rfl
   replace H : HS ⟨S, keysR [.blk b0_ (([pv1])) 103, .osl (pv1) (x0).length 1 pcs1 prs1 99], w⟩ S1 w4 [.blk b0_ (([pv1])) 103, .osl (v4) (y4).length 1 cs3 rs1 99] := H
   refine p_val (r_nilck rfl) ?_
   refine p_val (r_field fa103_0 rfl) ?_
   refine p_ofs (a_store (k := 0) (v := v4) (l := [v4]) tsz101 H rfl rfl rfl (cells_one (HS.ownOne H (k := 1) rfl)) rfl (fun u hu => by rw [List.mem_singleton] at hu; rw [hu]; exact HS.ownOne H (k := 1) rfl) rfl) ?_; clear H; intro w5 H
   replace H : HS ⟨S, keysR [.blk b0_ (([pv1])) 103, .osl (pv1) (x0).length 1 pcs1 prs1 99], w⟩ S1 w5 [.blk b0_ (([v4])) 103, .osl (v4) (y4).length 1 cs3 rs1 99] := H
   refine xk hK8 ?_; clear hK8
   refine sr ?_; intro K9 hK9
   refine p_as (v := .int .i64 (0)) rfl ?_
   refine xk hK9 ?_; clear hK9
   refine wp_ret ?_
   obtain rfl := osi hF
   refine e_1 rfl (q_tmp (v := .int .i64 (0)) rfl) ?_
   replace H : HS ⟨S, keysR [.blk b0_ (([pv1])) 103, .osl (pv1) (x0).length 1 pcs1 prs1 99], w⟩ S1 w5 [.blk b0_ (([v4])) 103, .osl (v4) (y4).length 1 cs3 rs1 99] := H
   exact ⟨_, _, _, _, rfl, H, g4⟩
def sign_Ring_Kids_b0 (y1 : (List (Option ((List UInt8) × (List UInt8) × (List UInt8) × Qw × Onc × Qp)))) (s1 : (List (List UInt8)) × Int) : Option (((List (List UInt8)) × Int) ⊕ ((List (List UInt8)))) :=
  bif decide (s1.2 < ((y1).length : Int)) then (Option.bind (idx y1 s1.2) fun y2 => Option.bind (y2) fun y3 => Option.bind (app s1.1 ([y3.2.1] : List (List UInt8))) fun y4 => some (.inl ((y4, (w64 (s1.2 + 1)))))) else (some (.inr (s1.1)))
def sign_Ring_Kids_p (x0 : Option ((List (Option ((List UInt8) × (List UInt8) × (List UInt8) × Qw × Onc × Qp))))) : Option ((List (List UInt8))) :=
  Option.bind (Option.bind (x0) fun y1 => Option.bind (iter (sign_Ring_Kids_b0 y1) ((([] : List (List UInt8)), 0))) (fun e => some (e))) (fun t1 => some (t1))
theorem sign_Ring_Kids_c {S : Mem} {w : World} (H : HS ⟨S, keysR [], w⟩ S w []) {v0_ : Value} {x0 : Option ((List (Option ((List UInt8) × (List UInt8) × (List UInt8) × Qw × Onc × Qp))))} (h0_ : Rp.rep S [v0_] x0) {r : (List (List UInt8))} (hF : sign_Ring_Kids_p x0 = some r) :
    Calls Tryz.prog 26 #[v0_] w fun e w' => ∃ (S2 : Mem) (pv2 : Value) (pcs2 prs2 : List Value), e = .returned (pv2) ∧ HS ⟨S, keysR [], w⟩ S2 w' [.osl (pv2) (r).length 1 pcs2 prs2 9] ∧ RL S2 pcs2 r := by
 refine enter (n := 24) Tryz.func26 rfl rfl rfl ?_
 unfold sign_Ring_Kids_p at hF
 refine sr ?_; intro K1 hK1
 refine p_as (v := .slice none 0 0) rfl ?_
 refine xk hK1 ?_; clear hK1
 refine sr ?_; intro K2 hK2
 refine p_as (v := .slice none 0 0) rfl ?_
 refine xk hK2 ?_; clear hK2
 refine wp_seq_k ?_; intro K3 hK3
 refine nameF fun m1 k1 => ?_
 obtain ⟨t1, hE1, hF1⟩ := bnd hF
 have J1 : ∀ (v6 : Value) (cs7 rs3 : List Value) (m4 : FM) (w4 : World), (∀ t, has [3, 5, 6, 7, 8, 9, 10, 11, 12, 13, 14, 15, 16, 17, 18, 19, 20, 21, 22] t = false → look m4 t = look m1 t) → look m4 3 = v6 → HS ⟨S, keysR [], w⟩ S w4 [.osl (v6) (t1).length 1 cs7 rs3 9] → RL S cs7 t1 → K3 (fr 24 m4) w4 := by
  clear H; intro v6 cs7 rs3 m4 w4 k5 q5 H g7
  refine hK3 _ _ ?_
  refine sr ?_; intro K9 hK9
  refine p_mv (v := v6) q5 ?_
  refine p_as (v := v6) rfl ?_
  refine xk hK9 ?_; clear hK9
  refine wp_ret ?_
  obtain rfl := osi hF1
  refine e_1 rfl (q_tmp (v := v6) rfl) ?_
  replace H : HS ⟨S, keysR [], w⟩ S w4 [.osl (v6) (t1).length 1 cs7 rs3 9] := H
  exact ⟨_, _, _, _, rfl, H, g7⟩
 refine sr ?_; intro K4 hK4
 refine p_mv (v := v0_) (k1 0) ?_
 obtain ⟨y1, e1, hE1⟩ := bnd hE1
 obtain ⟨b1, cs1, hv1, hc1, hr1⟩ := opK h0_ e1; subst hv1
 refine p_val (r_nilck rfl) ?_
 obtain ⟨v1, rfl, g1⟩ := elL hr1
 refine p_val (r_field fa103_0 rfl) ?_
 refine p_val (s_load1 (p := 0) (o := 0) (v := v1) to101 H.sub rfl hc1 rfl) ?_
 refine p_val (r_lenR' u101 rfl g1 H.sub) ?_
 refine p_mv (v := .int .i64 (0)) rfl ?_
 refine xk hK4 ?_; clear hK4
 refine wp_block ?_
 refine nameF fun m2 k2 => ?_
 obtain ⟨out1, hL1, hE2⟩ := bnd hE1
 replace H := H.nilOwn 1 9; have g3 : RL S [] ([] : List (List UInt8)) := RL.nil
 replace H : HS ⟨S, keysR [], w⟩ S w [.osl (.slice none 0 0) (([] : List (List UInt8))).length 1 [] [] 9] := H
 refine loopI [3, 5, 11, 12, 13, 14, 15, 16, 17, 18, 19, 20, 21, 22] (fun (s1 : (List (List UInt8)) × Int) (m3 : FM) (w1 : World) => ∃ (v2 : Value) (cs2 rs1 : List Value), look m3 3 = v2 ∧ look m3 11 = .int .i64 (s1.2) ∧ HS ⟨S, keysR [], w⟩ S w1 [.osl (v2) (s1.1).length 1 cs2 rs1 9] ∧ RL S cs2 s1.1) hL1 ⟨_, _, _, (show _ = (.slice none 0 0 : Value) from ((k2 3).trans (k1 3))), (k2 11), H, g3⟩ ?_
 clear H; intro k4 s1 m3 w1 k3 hI1 o2 hb1 hh1; obtain ⟨v2, cs2, rs1, q1, q2, H, g2⟩ := hI1
 have q3 : look m3 9 = v1 := (k3 9 rfl).trans (k2 9)
 have q4 : look m3 10 = .int .i64 (((y1).length : Int)) := (k3 10 rfl).trans (k2 10)
 unfold sign_Ring_Kids_b0 at hb1
 refine sr ?_; intro K5 hK5
 refine p_val (r_lssI q2 q4) ?_
 refine xk hK5 ?_; clear hK5
 refine wp_seq_k ?_; intro K6 hK6
 refine c_split (t := decide (s1.2 < ((y1).length : Int))) rfl (fun hc2 => ?_) (fun hc2 => ?_)
 ·replace hb1 := cnd_t hb1 hc2
  refine wp_skip ?_
  refine xn hK6 ?_; clear hK6
  refine wp_seq_k ?_; intro K7 hK7
  refine wp_block ?_
  refine sr ?_; intro K8 hK8
  obtain ⟨y2, e2, hb1⟩ := bnd hb1
  obtain ⟨b2, o3, N1, c1, cs3, hv2, hi1, hc3, hr2⟩ := g1.get (idx_some e2).2
  refine p_val (r_addrV (i := (s1.2 : Int).toNat) u101 tsz99 q3 hv2 q2 (idx_some e2).1 hi1) ?_
  obtain ⟨v3, rfl, g4⟩ := elK hr2
  refine p_val (s_load1 (p := (o3 + (s1.2 : Int).toNat * 1)) (o := 0) (v := v3) to99 H.sub rfl hc3 rfl) ?_
  refine p_as (v := v3) rfl ?_
  refine xk hK8 ?_; clear hK8
  refine wp_region_lit ?_
  refine p_mv (v := v2) q1 ?_
  refine p_mv (v := v3) rfl ?_
  obtain ⟨y3, e3, hb1⟩ := bnd hb1
  obtain ⟨b3, cs4, hv3, hc4, hr3⟩ := opK g4 e3; subst hv3
  refine p_val (r_nilck rfl) ?_
  obtain rfl := el117c hr3
  refine p_val (r_field fa117_1 rfl) ?_
  refine p_val (s_load1 (p := 0) (o := 1) (v := str (y3.2.1)) to9 H.sub rfl hc4 rfl) ?_
  have g5 : RL S ([str (y3.2.1)] ++ ([] : List Value)) ([y3.2.1] : List (List UInt8)) := (RL.cons rpT RL.nil)
  refine p_of1 (a_bslice (N := 1) (vals := [(0, str (y3.2.1))]) (l := ([str (y3.2.1)] ++ ([] : List Value))) tn40 H rfl rfl rfl g5.len) ?_; clear H; intro w2 v4 H
  generalize ([str (y3.2.1)] ++ ([] : List Value)) = cs5 at H g5
  replace H : HS ⟨S, keysR [], w⟩ S w2 [.osl (v4) (([y3.2.1] : List (List UInt8))).length 1 cs5 [] 9, .osl (v2) (s1.1).length 1 cs2 rs1 9] := H
  obtain ⟨y4, e4, hb1⟩ := bnd hb1
  refine p_of1 (a_appendX (k := 1) (v2 := v4) tn40 rfl H rfl rfl g2 rfl (H.slW (k := 0) rfl) g5 e4) ?_; clear H; rintro w3 v5 ⟨cs6, rs2, H, g6⟩
  replace H : HS ⟨S, keysR [], w⟩ S w3 [.osl (v4) (([y3.2.1] : List (List UInt8))).length 1 cs5 [] 9, .osl (v5) (y4).length 1 cs6 rs2 9] := H
  replace H := H.sel [1] rfl
  replace H : HS ⟨S, keysR [], w⟩ S w3 [.osl (v5) (y4).length 1 cs6 rs2 9] := H
  refine p_as (v := v5) rfl ?_
  refine wpList_nil ?_
  refine b_norm ?_
  refine xn hK7 ?_; clear hK7
  refine wp_region_lit ?_
  refine p_val (r_addI q2 rfl) ?_
  refine p_mv (v := .int .i64 ((w64 (s1.2 + 1)))) rfl ?_
  refine wpList_nil ?_
  refine x_norm ?_
  replace H : HS ⟨S, keysR [], w⟩ S w3 [.osl (v5) (y4).length 1 cs6 rs2 9] := H
  obtain rfl := osi hb1
  exact ⟨(y4, (w64 (s1.2 + 1))), _, rfl, (by (repeat (refine keep_cons rfl ?_)); refine keep_sub k3 rfl ?_; exact kcx), ⟨_, _, _, rfl, rfl, H, g6⟩, hh1⟩
 ·replace hb1 := cnd_f hb1 hc2
  refine wp_exit ?_
  refine x_exit ?_
  refine x_exit ?_
  refine b_hit ?_
  refine x_norm ?_
  replace H : HS ⟨S, keysR [], w⟩ S w1 [.osl (v2) (s1.1).length 1 cs2 rs1 9] := H
  obtain rfl := osi hb1
  obtain rfl := osi hh1
  obtain rfl := osi hE2
  exact J1 _ _ _ _ _ (by (repeat (refine keep_cons rfl ?_)); refine keep_sub k3 rfl ?_; (repeat (refine keep_cons rfl ?_)); refine keep_name k2 ?_; exact kcx) (show _ = (v2 : Value) from q1) H g2
noncomputable def sign_Ring_Mac_p (x0 : Option ((List (Option ((List UInt8) × (List UInt8) × (List UInt8) × Qw × Onc × Qp))))) (x1 : List UInt8) : Option ((List UInt8) × (List UInt8)) :=
  Option.bind (sign_Ring_newest_p x0) fun y1 => Option.bind (y1) fun y2 => Option.bind (y1) fun y3 => Option.bind (hash_Mac_p y3.2.2.1 x1) fun y4 => some ((y2.2.1, y4))
theorem sign_Ring_Mac_c {S : Mem} {w : World} (hS : Sub S w) {v0_ : Value} {x0 : Option ((List (Option ((List UInt8) × (List UInt8) × (List UInt8) × Qw × Onc × Qp))))} (h0_ : Rp.rep S [v0_] x0) {x1 : List UInt8} {r : (List UInt8) × (List UInt8)} (hF : sign_Ring_Mac_p x0 x1 = some r) :
    Calls Tryz.prog 19 #[v0_, str (x1)] w fun e w' => e = .returned (.tuple #[str (r.1), str (r.2)]) ∧ Ext w w' := by
 refine enter (n := 19) Tryz.func19 rfl rfl rfl ?_
 have H := HS.start hS
 unfold sign_Ring_Mac_p at hF
 refine sr ?_; intro K1 hK1
 refine p_as (v := str (([] : List UInt8))) rfl ?_
 refine p_as (v := str (([] : List UInt8))) rfl ?_
 refine xk hK1 ?_; clear hK1
 refine sr ?_; intro K2 hK2
 refine p_mv (v := v0_) rfl ?_
 obtain ⟨y1, e1, hF⟩ := bnd hF
 refine p_call (l := [v0_]) is76 rfl ?_
 refine (sign_Ring_newest_c H.sub h0_ e1).mono ?_; rintro _ w1 ⟨hx, v1, rfl, g1⟩
 have hle1 := gr_le (w' := w1) H.sub; replace H := H.call hx; clear hx; generalize gr S w w1 = S1 at hle1 H g1
 replace h0_ := Rp.mono h0_ hle1
 refine p_as (v := v1) rfl ?_
 refine xk hK2 ?_; clear hK2
 refine wp_seq_k ?_; intro K3 hK3
 obtain ⟨y2, e2, hF⟩ := bnd hF
 obtain ⟨b1, cs1, hv1, hc1, hr1⟩ := opK g1 e2; subst hv1
 obtain rfl := el117c hr1
 obtain ⟨y3, e3, hF⟩ := bnd hF
 obtain ⟨cs2, hc2, hr2⟩ := opK' g1 e3
 obtain rfl := el117c hr2
 obtain ⟨y4, e4, hF⟩ := bnd hF
 apply wp_region_ext 10 (kindsF [(9, .inl (str (y4)))]) rfl rfl (by kernel_rfl); intro vs1
 simp only [tkS, tkZ, drS, drZ]
 replace H := H.drew
 refine t_v (fun w hx => r_move (v := (.pointer (some ⟨b1, 0, none⟩))) rfl) ?_
 refine t_v (fun w hx => r_nilck rfl) ?_
 refine t_v (fun w hx => r_field fa117_1 rfl) ?_
 refine t_v (fun w hx => s_load1 (p := 0) (o := 1) (v := str (y2.2.1)) to9 (H.ext hx).sub rfl hc1 rfl) ?_
 refine t_v (fun w hx => r_move (v := .pointer (some ⟨b1, 0, none⟩)) rfl) ?_
 refine t_v (fun w hx => r_nilck rfl) ?_
 refine t_v (fun w hx => r_field fa117_2 rfl) ?_
 refine t_v (fun w hx => s_load1 (p := 0) (o := 2) (v := str (y3.2.2.1)) to9 (H.ext hx).sub rfl hc2 rfl) ?_
 refine t_v (fun w hx => r_move (v := str (x1)) rfl) ?_
 refine t_call (l := [str (y3.2.2.1), str (x1)]) rfl rfl is46 rfl (fun w hx hF => (hash_Mac_c (H.ext hx).sub e4).mono (fun _ _ ⟨he, hx⟩ => ⟨he, hx⟩)) ?_
 refine t_nil (fun w2 hx hF hA => ?_)
 replace H := H.ext hx; clear hx hF hA
 refine p_as (v := str (y2.2.1)) rfl ?_
 refine p_as (v := str (y4)) rfl ?_
 refine wpList_nil ?_; refine on_norm ?_
 refine xn hK3 ?_; clear hK3
 refine wp_ret ?_
 obtain rfl := osi hF
 refine e_2 rfl (q_tmp (v := str (y2.2.1)) rfl) (q_tmp (v := str (y4)) rfl) ?_
 exact ⟨rfl, H.toExt⟩
noncomputable def sign_Ring_Vouch_p (x0 : Option ((List (Option ((List UInt8) × (List UInt8) × (List UInt8) × Qw × Onc × Qp))))) (x1 : List UInt8) (x2 : List UInt8) (x3 : List UInt8) : Option (Bool) :=
  Option.bind (sign_Ring_find_p x0 x1) fun y1 => Option.bind (bif (!y1.isNone) then (Option.bind (y1) fun y2 => Option.bind (hash_Mac_p y2.2.2.1 x2) fun y3 => Option.bind (hash_Same_p y3 x3) fun y4 => some (y4)) else (some (false))) (fun t1 => some (t1))
theorem sign_Ring_Vouch_c {S : Mem} {w : World} (hS : Sub S w) {v0_ : Value} {x0 : Option ((List (Option ((List UInt8) × (List UInt8) × (List UInt8) × Qw × Onc × Qp))))} (h0_ : Rp.rep S [v0_] x0) {x1 : List UInt8} {x2 : List UInt8} {x3 : List UInt8} {r : Bool} (hF : sign_Ring_Vouch_p x0 x1 x2 x3 = some r) :
    Calls Tryz.prog 21 #[v0_, str (x1), str (x2), str (x3)] w fun e w' => e = .returned (.bool (r)) ∧ Ext w w' := by
 refine enter (n := 25) Tryz.func21 rfl rfl rfl ?_
 have H := HS.start hS
 unfold sign_Ring_Vouch_p at hF
 refine sr ?_; intro K1 hK1
 refine p_as (v := .bool (false)) rfl ?_
 refine xk hK1 ?_; clear hK1
 refine sr ?_; intro K2 hK2
 refine p_mv (v := v0_) rfl ?_
 refine p_mv (v := str (x1)) rfl ?_
 obtain ⟨y1, e1, hF⟩ := bnd hF
 refine p_call (l := [v0_, str (x1)]) is73 rfl ?_
 refine (sign_Ring_find_c H.sub h0_ e1).mono ?_; rintro _ w1 ⟨hx, v1, rfl, g1⟩
 have hle1 := gr_le (w' := w1) H.sub; replace H := H.call hx; clear hx; generalize gr S w w1 = S1 at hle1 H g1
 replace h0_ := Rp.mono h0_ hle1
 refine p_as (v := v1) rfl ?_
 refine xk hK2 ?_; clear hK2
 refine sr ?_; intro K3 hK3
 refine p_mv (v := v1) rfl ?_
 refine p_val (r_neK u99 eg99 rfl g1 rfl) ?_
 refine p_mv (v := .bool ((!y1.isNone))) rfl ?_
 refine nameL fun m1 k1 => ?_
 refine gs_at 9 fun K4 hK4 R1 hR1 => ?_
 obtain ⟨t1, hE1, hF1⟩ := bnd hF
 have J1 : ∀ (m2 : FM) (w4 : World), (∀ t, has [16, 17, 18, 19, 20, 21, 22, 23, 24] t = false → look m2 t = look m1 t) → look m2 24 = .bool (t1) → HS ⟨S, [], w⟩ S1 w4 [] → K4 m2 w4 := by
  clear H; intro m2 w4 k2 q1 H
  refine hK4 _ _ ?_
  refine p_as q1 ?_
  refine xk hK3 ?_; clear hK3
  refine wp_ret ?_
  obtain rfl := osi hF1
  refine e_1 rfl (q_tmp (v := .bool (t1)) rfl) ?_
  exact ⟨rfl, H.toExt⟩
 refine p_gs (j := 2) (gvl_at rfl rfl (k1 15)) (fun hb1 => ?_) (fun hb1 => ?_)
 ·replace hE1 := cnd_t hE1 hb1
  refine p_want (gvl_at rfl rfl (k1 15)) hb1 ?_
  refine p_mv (v := v1) (k1 9) ?_
  refine p_want (gvl_at rfl rfl (k1 15)) hb1 ?_
  obtain ⟨y2, e2, hE1⟩ := bnd hE1
  obtain ⟨b1, cs1, hv1, hc1, hr1⟩ := opK g1 e2; subst hv1
  refine p_val (r_nilck rfl) ?_
  obtain rfl := el117c hr1
  refine p_want (gvl_at rfl rfl (k1 15)) hb1 ?_
  refine p_val (r_field fa117_2 rfl) ?_
  refine p_want (gvl_at rfl rfl (k1 15)) hb1 ?_
  refine p_val (s_load1 (p := 0) (o := 2) (v := str (y2.2.2.1)) to9 H.sub rfl hc1 rfl) ?_
  refine p_want (gvl_at rfl rfl (k1 15)) hb1 ?_
  refine p_mv (k1 2) ?_
  refine p_want (gvl_at rfl rfl (k1 15)) hb1 ?_
  obtain ⟨y3, e3, hE1⟩ := bnd hE1
  refine p_call (l := [str (y2.2.2.1), str (x2)]) is46 rfl ?_
  refine (hash_Mac_c H.sub e3).mono ?_; rintro _ w2 ⟨rfl, hx⟩; replace H := H.ext hx; clear hx
  refine p_want (gvl_at rfl rfl (k1 15)) hb1 ?_
  refine p_mv (k1 3) ?_
  refine p_want (gvl_at rfl rfl (k1 15)) hb1 ?_
  obtain ⟨y4, e4, hE1⟩ := bnd hE1
  refine p_call (l := [str (y3), str (x3)]) is79 rfl ?_
  refine (hash_Same_c H.sub e4).mono ?_; rintro _ w3 ⟨rfl, hx⟩; replace H := H.ext hx; clear hx
  refine p_val (r_pickt (v := .bool (y4)) (k1 15) hb1 rfl) ?_
  refine hR1 _ _ ?_
  replace H : HS ⟨S, [], w⟩ S1 w3 [] := H
  obtain rfl := osi hE1
  exact J1 _ _ kcx rfl H
 ·replace hE1 := cnd_f hE1 hb1
  refine p_skip (gvl_at rfl rfl (k1 15)) hb1 ?_
  rw [put_fr]
  refine p_skip (gvl_at rfl rfl (k1 15)) hb1 ?_
  rw [put_fr]
  refine p_skip (gvl_at rfl rfl (k1 15)) hb1 ?_
  rw [put_fr]
  refine p_skip (gvl_at rfl rfl (k1 15)) hb1 ?_
  rw [put_fr]
  refine p_skip (gvl_at rfl rfl (k1 15)) hb1 ?_
  rw [put_fr]
  refine p_skip (gvl_at rfl rfl (k1 15)) hb1 ?_
  rw [put_fr]
  refine p_skip (gvl_at rfl rfl (k1 15)) hb1 ?_
  rw [put_fr]
  refine p_skip (gvl_at rfl rfl (k1 15)) hb1 ?_
  rw [put_fr]
  refine p_val (r_pickf (v := .bool (false)) (k1 15) hb1 rfl) ?_
  refine hR1 _ _ ?_
  replace H : HS ⟨S, [], w⟩ S1 w1 [] := H
  obtain rfl := osi hE1
  exact J1 _ _ kcx rfl H
end Go.Proofs.YtmbcolbbekbccaaGreat
