/- What some functions compute, and that they do. Conditions: as each theorem says. -/
import Derived.Test.YtmbcolbbekbccaaQfI
namespace Go.Proofs.Ytmbcolbbekbccaa
open Go Go.RowKit
attribute [local irreducible] wpList wpT Code.wp Calls Code.rounds
theorem to71 : TOne Try.prog 71 := ⟨fun _ => by kernel_rfl, fun _ => by kernel_rfl⟩
theorem to73 : TOne Try.prog 73 := ⟨fun _ => by kernel_rfl, fun _ => by kernel_rfl⟩
theorem tz75 : TZero Try.prog 75 (.agg #[.slice none 0 0]) := fun _ => by kernel_rfl
theorem tz90 : TZero Try.prog 90 (.agg #[str [], str [], str [], .int .u64 0, .int .u64 0, .int .u64 0, .int .u64 0, .int .u32 0, .int .i32 0, .int .u32 0, .int .u64 0, .int .u64 0, .int .u64 0, .int .u64 0, .int .u64 0, .int .u64 0, .int .u64 0, .int .u64 0, .bool false]) := fun _ => by kernel_rfl
theorem u71 : Try.prog.underlying 71 = some (.pointer 90) := by kernel_rfl
theorem u73 : Try.prog.underlying 73 = some (.slice 71) := by kernel_rfl
theorem eg71 : Try.prog.eqGuardType Try.prog.depth 71 = false := by kernel_rfl
theorem is37 : IsFn Try.prog 37 := isFn Try.func37 (by kernel_rfl) (by kernel_rfl)
theorem is38 : IsFn Try.prog 38 := isFn Try.func38 (by kernel_rfl) (by kernel_rfl)
theorem is54 : IsFn Try.prog 54 := isFn Try.func54 (by kernel_rfl) (by kernel_rfl)
theorem is55 : IsFn Try.prog 55 := isFn Try.func55 (by kernel_rfl) (by kernel_rfl)
theorem is66 : IsFn Try.prog 66 := isFn Try.func66 (by kernel_rfl) (by kernel_rfl)
theorem tb75 : TBuild Try.prog 75 (.agg #[.slice none 0 0]) [(0, 1)] := tbuildS (fs := fieldsOf Try.prog 75) (by kernel_rfl) tz75 (fun _ => by kernel_rfl)
theorem tb90 : TBuild Try.prog 90 (.agg #[str [], str [], str [], .int .u64 0, .int .u64 0, .int .u64 0, .int .u64 0, .int .u32 0, .int .i32 0, .int .u32 0, .int .u64 0, .int .u64 0, .int .u64 0, .int .u64 0, .int .u64 0, .int .u64 0, .int .u64 0, .int .u64 0, .bool false]) [(0, 1), (1, 1), (2, 1), (3, 4), (7, 3), (10, 9)] := tbuildS (fs := fieldsOf Try.prog 90) (by kernel_rfl) tz90 (fun _ => by kernel_rfl)
theorem fa75_0 : TField Try.prog 75 0 0 := fun _ _ _ => by kernel_rfl
theorem fa90_1 : TField Try.prog 90 1 1 := fun _ _ _ => by kernel_rfl
theorem fa90_2 : TField Try.prog 90 2 2 := fun _ _ _ => by kernel_rfl
theorem tn43 : TSn Try.prog 43 9 (str []) [str []] 16 1 := TSn.mk' (by kernel_rfl) (by kernel_rfl) rfl rfl rfl rfl
theorem tn73 : TSn Try.prog 73 71 (.pointer none) [.pointer none] 8 1 := TSn.mk' (by kernel_rfl) (by kernel_rfl) rfl rfl rfl rfl
def cl90 (x : (List UInt8) × (List UInt8) × (List UInt8) × (UInt64 × UInt64 × UInt64 × UInt64) × Onc × ((UInt64 × UInt64 × UInt64 × UInt64) × (UInt64 × UInt64 × UInt64 × UInt64) × Bool)) : List Value := [str (x.1)] ++ ([str (x.2.1)] ++ ([str (x.2.2.1)] ++ (cl24 x.2.2.2.1 ++ ((x.2.2.2.2.1).l ++ (cl29 x.2.2.2.2.2)))))
theorem rp90c {S : Mem} (x : (List UInt8) × (List UInt8) × (List UInt8) × (UInt64 × UInt64 × UInt64 × UInt64) × Onc × ((UInt64 × UInt64 × UInt64 × UInt64) × (UInt64 × UInt64 × UInt64 × UInt64) × Bool)) : Rp.rep S (cl90 x) x := rpP (rpT) (rpP (rpT) (rpP (rpT) (rpP (rp24c _) (rpP (rpOnc _) (rp29c _)))))
theorem el90c {S : Mem} {c : List Value} {x : (List UInt8) × (List UInt8) × (List UInt8) × (UInt64 × UInt64 × UInt64 × UInt64) × Onc × ((UInt64 × UInt64 × UInt64 × UInt64) × (UInt64 × UInt64 × UInt64 × UInt64) × Bool)} (h : Rp.rep S c x) : c = cl90 x := by
  obtain ⟨c0, d0, rfl, h0, k1⟩ := elP h; obtain rfl := elT h0
  obtain ⟨c1, d1, rfl, h1, k2⟩ := elP k1; obtain rfl := elT h1
  obtain ⟨c2, d2, rfl, h2, k3⟩ := elP k2; obtain rfl := elT h2
  obtain ⟨c3, d3, rfl, h3, k4⟩ := elP k3; obtain rfl := el24c h3
  obtain ⟨c4, d4, rfl, h4, k5⟩ := elP k4; obtain rfl := elOnc h4
  obtain rfl := el29c k5; rfl
theorem tsz71 : TSz Try.prog 71 1 := fun _ => by kernel_rfl
theorem tsz73 : TSz Try.prog 73 1 := fun _ => by kernel_rfl
noncomputable def sign_made_p (x0 : List UInt8) : Option ((Option ((List UInt8) × (List UInt8) × (List UInt8) × (UInt64 × UInt64 × UInt64 × UInt64) × Onc × ((UInt64 × UInt64 × UInt64 × UInt64) × (UInt64 × UInt64 × UInt64 × UInt64) × Bool)))) :=
  Option.bind (hash_Mac_p ([107, 101, 121] : List UInt8) x0) fun y1 => Option.bind (field_Reduce_p 1 y1) fun y2 => Option.bind (Option.bind (sign_zero_p) fun y3 => bif ((y2 : UInt64 × UInt64 × UInt64 × UInt64) == (y3 : UInt64 × UInt64 × UInt64 × UInt64)) then (some (((1 : UInt64), (0 : UInt64), (0 : UInt64), (0 : UInt64)))) else (some ((y2.1, y2.2.1, y2.2.2.1, y2.2.2.2)))) (fun t1 => Option.bind (hash_Mac_p ([107, 105, 100] : List UInt8) x0) fun y4 => Option.bind (subH y4 9) fun y5 => Option.bind (codec_Base64_p y5) fun y6 => Option.bind (hash_Mac_p ([109, 97, 99] : List UInt8) x0) fun y7 => some ((some (x0, y6, y7, t1, onc0, (((0 : UInt64), (0 : UInt64), (0 : UInt64), (0 : UInt64)), ((0 : UInt64), (0 : UInt64), (0 : UInt64), (0 : UInt64)), false)))))
theorem sign_made_c {S : Mem} {w : World} (hS : Sub S w) {x0 : List UInt8} {r : (Option ((List UInt8) × (List UInt8) × (List UInt8) × (UInt64 × UInt64 × UInt64 × UInt64) × Onc × ((UInt64 × UInt64 × UInt64 × UInt64) × (UInt64 × UInt64 × UInt64 × UInt64) × Bool)))} (hF : sign_made_p x0 = some r) :
    Calls Try.prog 37 #[str (x0)] w fun e w' => Ext w w' ∧ ∃ (v0' : Value), e = .returned (v0') ∧ Rp.rep (gr S w w') [v0'] r := by
 refine enter (n := 21) Try.func37 rfl rfl rfl ?_
 have H := HS.start hS
 unfold sign_made_p at hF
 refine sr ?_; intro K1 hK1
 refine p_as (v := .pointer none) rfl ?_
 refine xk hK1 ?_; clear hK1
 refine sr ?_; intro K2 hK2
 refine p_mv (v := str (x0)) rfl ?_
 obtain ⟨y1, e1, hF⟩ := bnd hF
 refine p_call (l := [str (([107, 101, 121] : List UInt8)), str (x0)]) is15 rfl ?_
 refine (hash_Mac_c H.sub e1).mono ?_; rintro _ w1 ⟨rfl, hx⟩; replace H := H.ext hx; clear hx
 obtain ⟨y2, e2, hF⟩ := bnd hF
 refine p_call (l := [.int .i64 (1), str (y1)]) is42 rfl ?_
 refine (field_Reduce_c H.sub e2).mono ?_; rintro _ w2 ⟨rfl, hx⟩; replace H := H.ext hx; clear hx
 refine p_ofb (a_alloc (l := (cl24 ((0 : UInt64), (0 : UInt64), (0 : UInt64), (0 : UInt64)))) H tz24 rfl) ?_; clear H; intro w3 b1 H
 refine p_ofs (a_store (k := 0) (v := .agg ((cl24 y2)).toArray) (l := (cl24 y2)) tsz24 H rfl rfl rfl (cells_agg _) rfl (fun u hu => List.all_eq_true.1 (rfl : ((cl24 y2)).all (·.oneCell') = true) u hu) rfl) ?_; clear H; intro w4 H
 replace H : HS ⟨S, [], w⟩ S w4 [.blk b1 ((cl24 y2)) 24] := H
 refine xk hK2 ?_; clear hK2
 refine wp_seq_k ?_; intro K3 hK3
 refine nameF fun m1 k1 => ?_
 obtain ⟨t1, hE1, hF1⟩ := bnd hF
 have J1 : ∀ (m2 : FM) (w7 : World), (∀ t, has [7, 8, 9, 10] t = false → look m2 t = look m1 t) → HS ⟨S, [], w⟩ S w7 [.blk b1 ((cl24 t1)) 24] → K3 (fr 21 m2) w7 := by
  clear H; intro m2 w7 k2 H
  have q1 : look m2 0 = str (x0) := (k2 0 rfl).trans (k1 0)
  have q2 : look m2 3 = .pointer (some ⟨b1, 0, none⟩) := (k2 3 rfl).trans (k1 3)
  refine hK3 _ _ ?_
  refine wp_seq_k ?_; intro K5 hK5
  obtain ⟨y4, e4, hF1⟩ := bnd hF1
  obtain ⟨y5, e5, hF1⟩ := bnd hF1
  obtain ⟨y6, e6, hF1⟩ := bnd hF1
  obtain ⟨y7, e7, hF1⟩ := bnd hF1
  apply wp_region_ext 9 (kindsF [(2, .inl (str (y4))), (4, .inl (str (y6))), (6, .inl (str (y7)))]) rfl rfl (by kernel_rfl); intro vs2
  simp only [List.take_succ_cons, List.take_zero, List.drop_succ_cons, List.drop_zero]
  replace H := H.drew
  refine t_v (fun w hx => r_move q1) ?_
  refine t_v (fun w hx => r_move q1) ?_
  refine t_call (l := [str (([107, 105, 100] : List UInt8)), str (x0)]) rfl rfl is15 rfl (fun w hx hF => (hash_Mac_c (H.ext hx).sub e4).mono (fun _ _ ⟨he, hx⟩ => ⟨he, hx⟩)) ?_
  refine t_v (fun w hx => r_sliceTH (h := (9 : Int).toNat) (r := y5) u9 rfl rfl (subH_some e5).1 (subH_some e5).2.1 (subH_some e5).2.2) ?_
  refine t_call (l := [str (y5)]) rfl rfl is66 rfl (fun w hx hF => (codec_Base64_c (H.ext hx).sub e6).mono (fun _ _ ⟨he, hx⟩ => ⟨he, hx⟩)) ?_
  refine t_v (fun w hx => r_move q1) ?_
  refine t_call (l := [str (([109, 97, 99] : List UInt8)), str (x0)]) rfl rfl is15 rfl (fun w hx hF => (hash_Mac_c (H.ext hx).sub e7).mono (fun _ _ ⟨he, hx⟩ => ⟨he, hx⟩)) ?_
  refine t_v (fun w hx => h_load (l := (cl24 t1)) tg24 (H.ext hx) q2 (k := 0) rfl rfl rfl) ?_
  refine t_v (fun w hx => r_build (vals := [(0, str (x0)), (1, str (y6)), (2, str (y7)), (3, .agg ((cl24 t1)).toArray)]) (l := (cl90 (x0, y6, y7, t1, onc0, (((0 : UInt64), (0 : UInt64), (0 : UInt64), (0 : UInt64)), ((0 : UInt64), (0 : UInt64), (0 : UInt64), (0 : UInt64)), false)))) tb90 rfl rfl) ?_
  refine t_nil (fun w8 hx hF hA => ?_)
  replace H := H.ext hx; clear hx hF hA
  refine p_ofb (a_box (l := (cl90 (x0, y6, y7, t1, onc0, (((0 : UInt64), (0 : UInt64), (0 : UInt64), (0 : UInt64)), ((0 : UInt64), (0 : UInt64), (0 : UInt64), (0 : UInt64)), false)))) H rfl) ?_; clear H; intro w9 b2 H
  refine p_as (v := .pointer (some ⟨b2, 0, none⟩)) rfl ?_
  refine wpList_nil ?_; refine on_norm ?_
  refine xn hK5 ?_; clear hK5
  refine wp_ret ?_
  obtain ⟨S1, hle1, ha1, H1⟩ := H.fixB (k := 0) rfl; clear H; have H := H1; clear H1
  have g1 : Rp.rep S1 [.pointer (some ⟨b2, 0, none⟩)] (some (x0, y6, y7, t1, onc0, (((0 : UInt64), (0 : UInt64), (0 : UInt64), (0 : UInt64)), ((0 : UInt64), (0 : UInt64), (0 : UInt64), (0 : UInt64)), false)) : Option ((List UInt8) × (List UInt8) × (List UInt8) × (UInt64 × UInt64 × UInt64 × UInt64) × Onc × ((UInt64 × UInt64 × UInt64 × UInt64) × (UInt64 × UInt64 × UInt64 × UInt64) × Bool))) := rpK (CellAt.whole ha1) (Rp.mono (rp90c _) hle1); clear ha1
  replace H : HS ⟨S, [], w⟩ S1 w9 [.blk b1 ((cl24 t1)) 24] := H
  obtain rfl := Option.some.inj hF1
  refine e_1 rfl (q_tmp (v := .pointer (some ⟨b2, 0, none⟩)) rfl) ?_
  exact ⟨H.toExt, _, rfl, Rp.mono g1 H.gr⟩
 refine wp_seq_k ?_; intro K4 hK4
 obtain ⟨y3, e3, hE1⟩ := bnd hE1
 apply wp_region_ext 3 (kindsF [(1, .inl (.agg ((cl24 y3)).toArray))]) rfl rfl (by kernel_rfl); intro vs1
 simp only [List.take_succ_cons, List.take_zero, List.drop_succ_cons, List.drop_zero]
 replace H := H.drew
 refine t_v (fun w hx => h_load (l := (cl24 y2)) tg24 (H.ext hx) (k1 3) (k := 0) rfl rfl rfl) ?_
 refine t_call (l := []) rfl rfl is21 rfl (fun w hx hF => (sign_zero_c (H.ext hx).sub e3).mono (fun _ _ ⟨he, hx⟩ => ⟨he, hx⟩)) ?_
 refine t_v (fun w hx => r_eqR eg24 (by decide) (eqt24 y2 y3) rfl rfl) ?_
 refine t_nil (fun w5 hx hF hA => ?_)
 replace H := H.ext hx; clear hx hF hA
 refine wpList_nil ?_; refine on_norm ?_
 refine xn hK4 ?_; clear hK4
 refine c_split (t := ((y2 : UInt64 × UInt64 × UInt64 × UInt64) == (y3 : UInt64 × UInt64 × UInt64 × UInt64))) rfl (fun hc1 => ?_) (fun hc1 => ?_)
 ·replace hE1 := cnd_t hE1 hc1
  refine wp_region_lit ?_
  refine p_val (r_build (vals := [(0, .int .u64 (1))]) (l := (cl24 ((1 : UInt64), (0 : UInt64), (0 : UInt64), (0 : UInt64)))) tb24 rfl rfl) ?_
  refine p_ofs (a_store (k := 0) (v := .agg ((cl24 ((1 : UInt64), (0 : UInt64), (0 : UInt64), (0 : UInt64)))).toArray) (l := (cl24 ((1 : UInt64), (0 : UInt64), (0 : UInt64), (0 : UInt64)))) tsz24 H (k1 3) rfl rfl (cells_agg _) rfl (fun u hu => List.all_eq_true.1 (rfl : ((cl24 ((1 : UInt64), (0 : UInt64), (0 : UInt64), (0 : UInt64)))).all (·.oneCell') = true) u hu) rfl) ?_; clear H; intro w6 H
  replace H : HS ⟨S, [], w⟩ S w6 [.blk b1 ((cl24 ((1 : UInt64), (0 : UInt64), (0 : UInt64), (0 : UInt64)))) 24] := H
  refine wpList_nil ?_
  refine x_norm ?_
  replace H : HS ⟨S, [], w⟩ S w6 [.blk b1 ((cl24 ((1 : UInt64), (0 : UInt64), (0 : UInt64), (0 : UInt64)))) 24] := H
  obtain rfl := Option.some.inj hE1
  exact J1 _ _ (by (repeat (refine keep_cons rfl ?_)); exact fun _ _ => rfl) H
 ·replace hE1 := cnd_f hE1 hc1
  refine wp_skip ?_
  refine x_norm ?_
  replace H : HS ⟨S, [], w⟩ S w5 [.blk b1 ((cl24 y2)) 24] := H
  obtain rfl := Option.some.inj hE1
  exact J1 _ _ (by (repeat (refine keep_cons rfl ?_)); exact fun _ _ => rfl) H
noncomputable def sign_NewRing_p (x0 : List UInt8) : Option (((List (Option ((List UInt8) × (List UInt8) × (List UInt8) × (UInt64 × UInt64 × UInt64 × UInt64) × Onc × ((UInt64 × UInt64 × UInt64 × UInt64) × (UInt64 × UInt64 × UInt64 × UInt64) × Bool)))))) :=
  Option.bind (sign_made_p x0) fun y1 => some (([y1] : List (Option ((List UInt8) × (List UInt8) × (List UInt8) × (UInt64 × UInt64 × UInt64 × UInt64) × Onc × ((UInt64 × UInt64 × UInt64 × UInt64) × (UInt64 × UInt64 × UInt64 × UInt64) × Bool)))))
theorem sign_NewRing_c {S : Mem} {w : World} (H : HS ⟨S, keysR [], w⟩ S w []) {x0 : List UInt8} {r : ((List (Option ((List UInt8) × (List UInt8) × (List UInt8) × (UInt64 × UInt64 × UInt64 × UInt64) × Onc × ((UInt64 × UInt64 × UInt64 × UInt64) × (UInt64 × UInt64 × UInt64 × UInt64) × Bool)))))} (hF : sign_NewRing_p x0 = some r) :
    Calls Try.prog 12 #[str (x0)] w fun e w' => ∃ (S2 : Mem) (pb2 : Nat) (pv2 : Value) (pcs2 prs2 : List Value), e = .returned (.pointer (some ⟨pb2, 0, none⟩)) ∧ HS ⟨S, keysR [], w⟩ S2 w' [.blk pb2 (([pv2])) 75, .osl (pv2) (r).length 1 pcs2 prs2 71] ∧ RL S2 pcs2 r := by
 refine enter (n := 8) Try.func12 rfl rfl rfl ?_
 unfold sign_NewRing_p at hF
 refine sr ?_; intro K1 hK1
 refine p_as (v := .pointer none) rfl ?_
 refine xk hK1 ?_; clear hK1
 refine sr ?_; intro K2 hK2
 refine p_mv (v := str (x0)) rfl ?_
 obtain ⟨y1, e1, hF⟩ := bnd hF
 refine p_call (l := [str (x0)]) is37 rfl ?_
 refine (sign_made_c H.sub e1).mono ?_; rintro _ w1 ⟨hx, v1, rfl, g1⟩
 have hle1 := gr_le (w' := w1) H.sub; replace H := H.call hx; clear hx; generalize gr S w w1 = S1 at hle1 H g1
 have g2 : RL S1 ([v1] ++ ([] : List Value)) ([y1] : List (Option ((List UInt8) × (List UInt8) × (List UInt8) × (UInt64 × UInt64 × UInt64 × UInt64) × Onc × ((UInt64 × UInt64 × UInt64 × UInt64) × (UInt64 × UInt64 × UInt64 × UInt64) × Bool)))) := (RL.cons g1 RL.nil)
 refine p_of1 (a_bslice (N := 1) (vals := [(0, v1)]) (l := ([v1] ++ ([] : List Value))) tn73 H rfl (by simp only [fillL, lkp, List.replicate, List.flatten_cons, List.flatten_nil, cellsK g1]; rfl) rfl g2.len) ?_; clear H; intro w2 v2 H
 generalize ([v1] ++ ([] : List Value)) = cs1 at H g2
 replace H : HS ⟨S, keysR [], w⟩ S1 w2 [.osl (v2) (([y1] : List (Option ((List UInt8) × (List UInt8) × (List UInt8) × (UInt64 × UInt64 × UInt64 × UInt64) × Onc × ((UInt64 × UInt64 × UInt64 × UInt64) × (UInt64 × UInt64 × UInt64 × UInt64) × Bool))))).length 1 cs1 [] 71] := H
 refine p_val (r_build (vals := [(0, v2)]) (l := ([v2])) tb75 rfl (by simp only [fillL, lkp, HS.ownCells H (k := 0) rfl]; rfl)) ?_
 refine p_ofb (a_box (l := ([v2])) H rfl) ?_; clear H; intro w3 b1 H
 refine p_as (v := .pointer (some ⟨b1, 0, none⟩)) rfl ?_
 refine xk hK2 ?_; clear hK2
 refine wp_ret ?_
 obtain rfl := Option.some.inj hF
 refine e_1 rfl (q_tmp (v := .pointer (some ⟨b1, 0, none⟩)) rfl) ?_
 replace H : HS ⟨S, keysR [], w⟩ S1 w3 [.blk b1 (([v2])) 75, .osl (v2) (([y1] : List (Option ((List UInt8) × (List UInt8) × (List UInt8) × (UInt64 × UInt64 × UInt64 × UInt64) × Onc × ((UInt64 × UInt64 × UInt64 × UInt64) × (UInt64 × UInt64 × UInt64 × UInt64) × Bool))))).length 1 cs1 [] 71] := H
 exact ⟨_, _, _, _, _, rfl, H, g2⟩
def sign_Ring_find_b0 (x1 : List UInt8) (y1 : (List (Option ((List UInt8) × (List UInt8) × (List UInt8) × (UInt64 × UInt64 × UInt64 × UInt64) × Onc × ((UInt64 × UInt64 × UInt64 × UInt64) × (UInt64 × UInt64 × UInt64 × UInt64) × Bool))))) (s1 : Int) : Option ((Int) ⊕ (((Option ((List UInt8) × (List UInt8) × (List UInt8) × (UInt64 × UInt64 × UInt64 × UInt64) × Onc × ((UInt64 × UInt64 × UInt64 × UInt64) × (UInt64 × UInt64 × UInt64 × UInt64) × Bool)))) ⊕ (Unit))) :=
  bif decide (s1 < ((y1).length : Int)) then (Option.bind (idx y1 s1) fun y2 => Option.bind (y2) fun y3 => bif (y3.2.1 == x1) then (some (.inr (.inl (y2)))) else (some (.inl ((w64 (s1 + 1)))))) else (some (.inr (.inr (()))))
def sign_Ring_find_p (x0 : Option ((List (Option ((List UInt8) × (List UInt8) × (List UInt8) × (UInt64 × UInt64 × UInt64 × UInt64) × Onc × ((UInt64 × UInt64 × UInt64 × UInt64) × (UInt64 × UInt64 × UInt64 × UInt64) × Bool)))))) (x1 : List UInt8) : Option ((Option ((List UInt8) × (List UInt8) × (List UInt8) × (UInt64 × UInt64 × UInt64 × UInt64) × Onc × ((UInt64 × UInt64 × UInt64 × UInt64) × (UInt64 × UInt64 × UInt64 × UInt64) × Bool)))) :=
  jn (Option.bind (x0) fun y1 => Option.bind (iter (sign_Ring_find_b0 x1 y1) (0)) (fun e => jnO e (fun e1 => some (.inr (e1))) (fun e2 => some (.inl (e2))))) (fun t1 => some (none)) (fun e => some (e))
theorem sign_Ring_find_c {S : Mem} {w : World} (hS : Sub S w) {v0_ : Value} {x0 : Option ((List (Option ((List UInt8) × (List UInt8) × (List UInt8) × (UInt64 × UInt64 × UInt64 × UInt64) × Onc × ((UInt64 × UInt64 × UInt64 × UInt64) × (UInt64 × UInt64 × UInt64 × UInt64) × Bool)))))} (h0_ : Rp.rep S [v0_] x0) {x1 : List UInt8} {r : (Option ((List UInt8) × (List UInt8) × (List UInt8) × (UInt64 × UInt64 × UInt64 × UInt64) × Onc × ((UInt64 × UInt64 × UInt64 × UInt64) × (UInt64 × UInt64 × UInt64 × UInt64) × Bool)))} (hF : sign_Ring_find_p x0 x1 = some r) :
    Calls Try.prog 54 #[v0_, str (x1)] w fun e w' => Ext w w' ∧ ∃ (v0' : Value), e = .returned (v0') ∧ Rp.rep (gr S w w') [v0'] r := by
 refine enter (n := 24) Try.func54 rfl rfl rfl ?_
 have H := HS.start hS
 unfold sign_Ring_find_p at hF
 refine sr ?_; intro K1 hK1
 refine p_as (v := .pointer none) rfl ?_
 refine xk hK1 ?_; clear hK1
 refine wp_seq_k ?_; intro K2 hK2
 refine nameF fun m1 k1 => ?_
 obtain ⟨o1, hE1, hF1⟩ := jn_some hF
 have J1 : ∀ (t1 : Unit) (m4 : FM) (w2 : World), o1 = .inl t1 → (∀ t, has [4, 6, 7, 8, 9, 10, 11, 12, 13, 14, 15, 16, 17, 18, 19, 20, 21, 22, 23] t = false → look m4 t = look m1 t) → HS ⟨S, [], w⟩ S w2 [] → K2 (fr 24 m4) w2 := by
  clear H; intro t1 m4 w2 ho k5 H
  replace hF1 := jnO_l hF1 ho
  refine hK2 _ _ ?_
  refine sr ?_; intro K10 hK10
  refine p_as (v := .pointer none) rfl ?_
  refine xk hK10 ?_; clear hK10
  refine wp_ret ?_
  obtain rfl := Option.some.inj hF1
  refine e_1 rfl (q_tmp (v := .pointer none) rfl) ?_
  exact ⟨H.toExt, _, rfl, Rp.mono rpK0 H.gr⟩
 refine sr ?_; intro K3 hK3
 refine p_mv (v := v0_) (k1 0) ?_
 obtain ⟨y1, e1, hE1⟩ := bnd hE1
 obtain ⟨b1, cs1, hv1, hc1, hr1⟩ := opK h0_ e1; subst hv1
 refine p_val (r_nilck rfl) ?_
 obtain ⟨v1, rfl, g1⟩ := elL hr1
 refine p_val (r_field fa75_0 rfl) ?_
 refine p_val (s_load1 (p := 0) (o := 0) (v := v1) to73 H.sub rfl hc1 rfl) ?_
 refine p_val (r_lenR' u73 rfl g1 H.sub) ?_
 refine p_mv (v := .int .i64 (0)) rfl ?_
 refine xk hK3 ?_; clear hK3
 refine wp_block ?_
 refine nameF fun m2 k2 => ?_
 obtain ⟨out1, hL1, hE2⟩ := bnd hE1
 replace H : HS ⟨S, [], w⟩ S w [] := H
 refine loopI [4, 6, 12, 13, 14, 15, 16, 17, 18, 19, 20, 21, 22, 23] (fun (s1 : Int) (m3 : FM) (w1 : World) => look m3 12 = .int .i64 (s1) ∧ HS ⟨S, [], w⟩ S w1 []) hL1 ⟨(k2 12), H⟩ ?_
 clear H; intro k4 s1 m3 w1 k3 hI1 o2 hb1 hh1; obtain ⟨q1, H⟩ := hI1
 have q2 : look m3 1 = str (x1) := (k3 1 rfl).trans ((k2 1).trans (k1 1))
 have q3 : look m3 10 = v1 := (k3 10 rfl).trans (k2 10)
 have q4 : look m3 11 = .int .i64 (((y1).length : Int)) := (k3 11 rfl).trans (k2 11)
 unfold sign_Ring_find_b0 at hb1
 refine sr ?_; intro K4 hK4
 refine p_val (r_lssI q1 q4) ?_
 refine xk hK4 ?_; clear hK4
 refine wp_seq_k ?_; intro K5 hK5
 refine c_split (t := decide (s1 < ((y1).length : Int))) rfl (fun hc2 => ?_) (fun hc2 => ?_)
 ·replace hb1 := cnd_t hb1 hc2
  refine wp_skip ?_
  refine xn hK5 ?_; clear hK5
  refine wp_seq_k ?_; intro K6 hK6
  refine wp_block ?_
  refine sr ?_; intro K7 hK7
  obtain ⟨y2, e2, hb1⟩ := bnd hb1
  obtain ⟨b2, o3, N1, c1, cs2, hv2, hi1, hc3, hr2⟩ := g1.get (idx_some e2).2
  refine p_val (r_addrV (i := (s1 : Int).toNat) u73 tsz71 q3 hv2 q1 (idx_some e2).1 hi1) ?_
  obtain ⟨v2, rfl, g2⟩ := elK hr2
  refine p_val (s_load1 (p := (o3 + (s1 : Int).toNat * 1)) (o := 0) (v := v2) to71 H.sub rfl hc3 rfl) ?_
  refine p_as (v := v2) rfl ?_
  refine xk hK7 ?_; clear hK7
  refine sr ?_; intro K8 hK8
  refine p_mv (v := v2) rfl ?_
  obtain ⟨y3, e3, hb1⟩ := bnd hb1
  obtain ⟨b3, cs3, hv3, hc4, hr3⟩ := opK g2 e3; subst hv3
  refine p_val (r_nilck rfl) ?_
  obtain rfl := el90c hr3
  refine p_val (r_field fa90_1 rfl) ?_
  refine p_val (s_load1 (p := 0) (o := 1) (v := str (y3.2.1)) to9 H.sub rfl hc4 rfl) ?_
  refine p_mv q2 ?_
  refine p_val (r_eqT (t := (y3.2.1 == x1)) rfl rfl rfl) ?_
  refine xk hK8 ?_; clear hK8
  refine c_split (t := (y3.2.1 == x1)) rfl (fun hc5 => ?_) (fun hc5 => ?_)
  ·replace hb1 := cnd_t hb1 hc5
   refine sr ?_; intro K9 hK9
   refine p_mv (v := .pointer (some ⟨b3, 0, none⟩)) rfl ?_
   refine p_as (v := .pointer (some ⟨b3, 0, none⟩)) rfl ?_
   refine xk hK9 ?_; clear hK9
   refine wp_ret ?_
   refine b_ret ?_
   refine x_ret ?_
   refine x_ret ?_
   refine b_ret ?_
   refine x_ret ?_
   obtain rfl := Option.some.inj hb1
   obtain rfl := Option.some.inj hh1
   obtain rfl := Option.some.inj hE2
   obtain rfl := Option.some.inj hF1
   refine e_1 rfl (q_tmp (v := .pointer (some ⟨b3, 0, none⟩)) rfl) ?_
   exact ⟨H.toExt, _, rfl, Rp.mono g2 H.gr⟩
  ·replace hb1 := cnd_f hb1 hc5
   refine wp_skip ?_
   refine b_norm ?_
   refine xn hK6 ?_; clear hK6
   refine wp_region_lit ?_
   refine p_val (r_addI q1 rfl) ?_
   refine p_mv (v := .int .i64 ((w64 (s1 + 1)))) rfl ?_
   refine wpList_nil ?_
   refine x_norm ?_
   replace H : HS ⟨S, [], w⟩ S w1 [] := H
   obtain rfl := Option.some.inj hb1
   exact ⟨(w64 (s1 + 1)), _, rfl, (by (repeat (refine keep_cons rfl ?_)); refine keep_sub k3 rfl ?_; (repeat (refine keep_cons rfl ?_)); exact fun _ _ => rfl), ⟨rfl, H⟩, hh1⟩
 ·replace hb1 := cnd_f hb1 hc2
  refine wp_exit ?_
  refine x_exit ?_
  refine x_exit ?_
  refine b_hit ?_
  refine x_norm ?_
  replace H : HS ⟨S, [], w⟩ S w1 [] := H
  obtain rfl := Option.some.inj hb1
  obtain rfl := Option.some.inj hh1
  obtain rfl := Option.some.inj hE2
  exact J1 _ _ _ rfl (by (repeat (refine keep_cons rfl ?_)); refine keep_sub k3 rfl ?_; (repeat (refine keep_cons rfl ?_)); refine keep_name k2 ?_; (repeat (refine keep_cons rfl ?_)); exact fun _ _ => rfl) H
def sign_Ring_newest_p (x0 : Option ((List (Option ((List UInt8) × (List UInt8) × (List UInt8) × (UInt64 × UInt64 × UInt64 × UInt64) × Onc × ((UInt64 × UInt64 × UInt64 × UInt64) × (UInt64 × UInt64 × UInt64 × UInt64) × Bool)))))) : Option ((Option ((List UInt8) × (List UInt8) × (List UInt8) × (UInt64 × UInt64 × UInt64 × UInt64) × Onc × ((UInt64 × UInt64 × UInt64 × UInt64) × (UInt64 × UInt64 × UInt64 × UInt64) × Bool)))) :=
  Option.bind (x0) fun y1 => Option.bind (x0) fun y2 => Option.bind (idx y1 (w64 (((y2).length : Int) - 1))) fun y3 => some (y3)
theorem sign_Ring_newest_c {S : Mem} {w : World} (hS : Sub S w) {v0_ : Value} {x0 : Option ((List (Option ((List UInt8) × (List UInt8) × (List UInt8) × (UInt64 × UInt64 × UInt64 × UInt64) × Onc × ((UInt64 × UInt64 × UInt64 × UInt64) × (UInt64 × UInt64 × UInt64 × UInt64) × Bool)))))} (h0_ : Rp.rep S [v0_] x0) {r : (Option ((List UInt8) × (List UInt8) × (List UInt8) × (UInt64 × UInt64 × UInt64 × UInt64) × Onc × ((UInt64 × UInt64 × UInt64 × UInt64) × (UInt64 × UInt64 × UInt64 × UInt64) × Bool)))} (hF : sign_Ring_newest_p x0 = some r) :
    Calls Try.prog 38 #[v0_] w fun e w' => Ext w w' ∧ ∃ (v0' : Value), e = .returned (v0') ∧ Rp.rep (gr S w w') [v0'] r := by
 refine enter (n := 15) Try.func38 rfl rfl rfl ?_
 have H := HS.start hS
 unfold sign_Ring_newest_p at hF
 refine sr ?_; intro K1 hK1
 refine p_as (v := .pointer none) rfl ?_
 refine xk hK1 ?_; clear hK1
 refine wp_seq_k ?_; intro K2 hK2
 obtain ⟨y1, e1, hF⟩ := bnd hF
 obtain ⟨b1, cs1, hv1, hc1, hr1⟩ := opK h0_ e1; subst hv1
 obtain ⟨v1, rfl, g1⟩ := elL hr1
 obtain ⟨y2, e2, hF⟩ := bnd hF
 obtain ⟨cs2, hc2, hr2⟩ := opK' h0_ e2
 obtain ⟨v2, rfl, g2⟩ := elL hr2
 obtain ⟨y3, e3, hF⟩ := bnd hF
 obtain ⟨b2, o1, N1, c1, cs3, hv2, hi1, hc3, hr3⟩ := g1.get (idx_some e3).2
 obtain ⟨v3, rfl, g3⟩ := elK hr3
 apply wp_region_ext 12 (kindsF []) rfl rfl (by kernel_rfl); intro vs1
 simp only [List.take_succ_cons, List.take_zero, List.drop_succ_cons, List.drop_zero]
 replace H := H.drew
 refine t_v (fun w hx => r_move (v := (.pointer (some ⟨b1, 0, none⟩))) rfl) ?_
 refine t_v (fun w hx => r_nilck rfl) ?_
 refine t_v (fun w hx => r_field fa75_0 rfl) ?_
 refine t_v (fun w hx => s_load1 (p := 0) (o := 0) (v := v1) to73 (H.ext hx).sub rfl hc1 rfl) ?_
 refine t_v (fun w hx => r_move (v := .pointer (some ⟨b1, 0, none⟩)) rfl) ?_
 refine t_v (fun w hx => r_nilck rfl) ?_
 refine t_v (fun w hx => r_field fa75_0 rfl) ?_
 refine t_v (fun w hx => s_load1 (p := 0) (o := 0) (v := v2) to73 (H.ext hx).sub rfl hc2 rfl) ?_
 refine t_v (fun w hx => r_lenR' u73 rfl g2 (H.ext hx).sub) ?_
 refine t_v (fun w hx => r_subI rfl rfl) ?_
 refine t_v (fun w hx => r_addrV (i := ((w64 (((y2).length : Int) - 1)) : Int).toNat) u73 tsz71 rfl hv2 rfl (idx_some e3).1 hi1) ?_
 refine t_v (fun w hx => s_load1 (p := (o1 + ((w64 (((y2).length : Int) - 1)) : Int).toNat * 1)) (o := 0) (v := v3) to71 (H.ext hx).sub rfl hc3 rfl) ?_
 refine t_nil (fun w1 hx hF hA => ?_)
 replace H := H.ext hx; clear hx hF hA
 refine p_as (v := v3) rfl ?_
 refine wpList_nil ?_; refine on_norm ?_
 refine xn hK2 ?_; clear hK2
 refine wp_ret ?_
 obtain rfl := Option.some.inj hF
 refine e_1 rfl (q_tmp (v := v3) rfl) ?_
 exact ⟨H.toExt, _, rfl, Rp.mono g3 H.gr⟩
noncomputable def sign_Ring_Turn_p (x0 : (List (Option ((List UInt8) × (List UInt8) × (List UInt8) × (UInt64 × UInt64 × UInt64 × UInt64) × Onc × ((UInt64 × UInt64 × UInt64 × UInt64) × (UInt64 × UInt64 × UInt64 × UInt64) × Bool))))) (x1 : List UInt8) : Option (Int × ((List (Option ((List UInt8) × (List UInt8) × (List UInt8) × (UInt64 × UInt64 × UInt64 × UInt64) × Onc × ((UInt64 × UInt64 × UInt64 × UInt64) × (UInt64 × UInt64 × UInt64 × UInt64) × Bool)))))) :=
  Option.bind (sign_made_p x1) fun y1 => Option.bind (y1) fun y2 => Option.bind (sign_Ring_find_p (some x0) y2.2.1) fun y3 => bif (!y3.isNone) then (some ((80, x0))) else (bif (((x0).length : Int) == 8) then (some ((82, x0))) else (Option.bind (app x0 ([y1] : List (Option ((List UInt8) × (List UInt8) × (List UInt8) × (UInt64 × UInt64 × UInt64 × UInt64) × Onc × ((UInt64 × UInt64 × UInt64 × UInt64) × (UInt64 × UInt64 × UInt64 × UInt64) × Bool))))) fun y4 => some ((0, y4))))
theorem sign_Ring_Turn_c {S : Mem} {w : World} {b0_ : Nat} {x0 : (List (Option ((List UInt8) × (List UInt8) × (List UInt8) × (UInt64 × UInt64 × UInt64 × UInt64) × Onc × ((UInt64 × UInt64 × UInt64 × UInt64) × (UInt64 × UInt64 × UInt64 × UInt64) × Bool))))} {pv1 : Value} {pcs1 prs1 : List Value} (H : HS ⟨S, keysR [.blk b0_ (([pv1])) 75, .osl (pv1) (x0).length 1 pcs1 prs1 71], w⟩ S w [.blk b0_ (([pv1])) 75, .osl (pv1) (x0).length 1 pcs1 prs1 71]) (pg1 : RL S pcs1 x0) {x1 : List UInt8} {r : Int × ((List (Option ((List UInt8) × (List UInt8) × (List UInt8) × (UInt64 × UInt64 × UInt64 × UInt64) × Onc × ((UInt64 × UInt64 × UInt64 × UInt64) × (UInt64 × UInt64 × UInt64 × UInt64) × Bool)))))} (hF : sign_Ring_Turn_p x0 x1 = some r) :
    Calls Try.prog 27 #[.pointer (some ⟨b0_, 0, none⟩), str (x1)] w fun e w' => ∃ (S2 : Mem) (pv5 : Value) (pcs5 prs5 : List Value), e = .returned (.int .i64 (r.1)) ∧ HS ⟨S, keysR [.blk b0_ (([pv1])) 75, .osl (pv1) (x0).length 1 pcs1 prs1 71], w⟩ S2 w' [.blk b0_ (([pv5])) 75, .osl (pv5) (r.2).length 1 pcs5 prs5 71] ∧ RL S2 pcs5 r.2 := by
 refine enter (n := 33) Try.func27 rfl rfl rfl ?_
 unfold sign_Ring_Turn_p at hF
 refine sr ?_; intro K1 hK1
 refine p_as (v := .int .i64 (0)) rfl ?_
 refine xk hK1 ?_; clear hK1
 refine sr ?_; intro K2 hK2
 refine p_mv (v := str (x1)) rfl ?_
 obtain ⟨y1, e1, hF⟩ := bnd hF
 refine p_call (l := [str (x1)]) is37 rfl ?_
 refine (sign_made_c H.sub e1).mono ?_; rintro _ w1 ⟨hx, v1, rfl, g1⟩
 have hle1 := gr_le (w' := w1) H.sub; replace H := H.call hx; clear hx; generalize gr S w w1 = S1 at hle1 H g1
 replace pg1 := RL.mono pg1 hle1
 refine p_as (v := v1) rfl ?_
 refine xk hK2 ?_; clear hK2
 refine wp_seq_k ?_; intro K3 hK3
 refine wp_block ?_
 refine sr ?_; intro K4 hK4
 refine p_mv (v := .pointer (some ⟨b0_, 0, none⟩)) rfl ?_
 refine p_mv (v := v1) rfl ?_
 obtain ⟨y2, e2, hF⟩ := bnd hF
 obtain ⟨b1, cs1, hv1, hc1, hr1⟩ := opK g1 e2; subst hv1
 refine p_val (r_nilck rfl) ?_
 obtain rfl := el90c hr1
 refine p_val (r_field fa90_1 rfl) ?_
 refine p_val (s_load1 (p := 0) (o := 1) (v := str (y2.2.1)) to9 H.sub rfl hc1 rfl) ?_
 obtain ⟨y3, e3, hF⟩ := bnd hF
 refine p_call (l := [.pointer (some ⟨b0_, 0, none⟩), str (y2.2.1)]) is54 rfl ?_
 refine (sign_Ring_find_c (subMem w1) (rpK (HS.blkAt H (k := 0) rfl) (rpL (RdS.ofOwn H (k := 1) rfl pg1))) e3).mono ?_; rintro _ w2 ⟨hx, v2, rfl, g2⟩; replace H := H.ext hx; clear hx
 refine p_val (r_neK u71 eg71 rfl g2 rfl) ?_
 refine p_as (v := .bool ((!y3.isNone))) rfl ?_
 refine xk hK4 ?_; clear hK4
 refine c_split (t := (!y3.isNone)) rfl (fun hc2 => ?_) (fun hc2 => ?_)
 ·replace hF := cnd_t hF hc2
  refine sr ?_; intro K5 hK5
  refine p_as (v := .int .i64 (80)) rfl ?_
  refine xk hK5 ?_; clear hK5
  refine wp_ret ?_
  refine b_ret ?_
  refine x_ret ?_
  obtain rfl := Option.some.inj hF
  refine e_1 rfl (q_tmp (v := .int .i64 (80)) rfl) ?_
  replace H : HS ⟨S, keysR [.blk b0_ (([pv1])) 75, .osl (pv1) (x0).length 1 pcs1 prs1 71], w⟩ S1 w2 [.blk b0_ (([pv1])) 75, .osl (pv1) (x0).length 1 pcs1 prs1 71] := H
  exact ⟨_, _, _, _, rfl, H, pg1⟩
 ·replace hF := cnd_f hF hc2
  refine sr ?_; intro K6 hK6
  refine p_mv (v := .pointer (some ⟨b0_, 0, none⟩)) rfl ?_
  refine p_val (r_nilck rfl) ?_
  refine p_val (r_field fa75_0 rfl) ?_
  refine p_val (h_load1 (v := pv1) to73 H rfl (k := 0) rfl rfl) ?_
  refine p_val (r_lenO u73 rfl H (k := 1) rfl rfl) ?_
  refine p_val (r_eqlI rfl rfl) ?_
  refine p_as (v := .bool ((((x0).length : Int) == 8))) rfl ?_
  refine xk hK6 ?_; clear hK6
  refine c_split (t := (((x0).length : Int) == 8)) rfl (fun hc3 => ?_) (fun hc3 => ?_)
  ·replace hF := cnd_t hF hc3
   refine sr ?_; intro K7 hK7
   refine p_as (v := .int .i64 (82)) rfl ?_
   refine xk hK7 ?_; clear hK7
   refine wp_ret ?_
   refine b_ret ?_
   refine x_ret ?_
   obtain rfl := Option.some.inj hF
   refine e_1 rfl (q_tmp (v := .int .i64 (82)) rfl) ?_
   replace H : HS ⟨S, keysR [.blk b0_ (([pv1])) 75, .osl (pv1) (x0).length 1 pcs1 prs1 71], w⟩ S1 w2 [.blk b0_ (([pv1])) 75, .osl (pv1) (x0).length 1 pcs1 prs1 71] := H
   exact ⟨_, _, _, _, rfl, H, pg1⟩
  ·replace hF := cnd_f hF hc3
   refine wp_skip ?_
   refine b_norm ?_
   refine xn hK3 ?_; clear hK3
   refine sr ?_; intro K8 hK8
   refine p_mv (v := .pointer (some ⟨b0_, 0, none⟩)) rfl ?_
   refine p_mv (v := .pointer (some ⟨b0_, 0, none⟩)) rfl ?_
   refine p_val (r_nilck rfl) ?_
   refine p_val (r_field fa75_0 rfl) ?_
   refine p_val (h_load1 (v := pv1) to73 H rfl (k := 0) rfl rfl) ?_
   refine p_mv (v := .pointer (some ⟨b1, 0, none⟩)) rfl ?_
   have g3 : RL S1 ([Value.pointer (some ⟨b1, 0, none⟩)] ++ ([] : List Value)) ([y1] : List (Option ((List UInt8) × (List UInt8) × (List UInt8) × (UInt64 × UInt64 × UInt64 × UInt64) × Onc × ((UInt64 × UInt64 × UInt64 × UInt64) × (UInt64 × UInt64 × UInt64 × UInt64) × Bool)))) := (RL.cons g1 RL.nil)
   refine p_of1 (a_bslice (N := 1) (vals := [(0, .pointer (some ⟨b1, 0, none⟩))]) (l := ([Value.pointer (some ⟨b1, 0, none⟩)] ++ ([] : List Value))) tn73 H rfl rfl rfl g3.len) ?_; clear H; intro w3 v3 H
   generalize ([Value.pointer (some ⟨b1, 0, none⟩)] ++ ([] : List Value)) = cs2 at H g3
   replace H : HS ⟨S, keysR [.blk b0_ (([pv1])) 75, .osl (pv1) (x0).length 1 pcs1 prs1 71], w⟩ S1 w3 [.osl (v3) (([y1] : List (Option ((List UInt8) × (List UInt8) × (List UInt8) × (UInt64 × UInt64 × UInt64 × UInt64) × Onc × ((UInt64 × UInt64 × UInt64 × UInt64) × (UInt64 × UInt64 × UInt64 × UInt64) × Bool))))).length 1 cs2 [] 71, .blk b0_ (([pv1])) 75, .osl (pv1) (x0).length 1 pcs1 prs1 71] := H
   obtain ⟨y4, e4, hF⟩ := bnd hF
   refine p_of1 (a_appendX (k := 2) (v2 := v3) tn73 rfl H rfl rfl pg1 rfl (H.slW (k := 0) rfl) g3 e4) ?_; clear H; rintro w4 v4 ⟨cs3, rs1, H, g4⟩
   replace H : HS ⟨S, keysR [.blk b0_ (([pv1])) 75, .osl (pv1) (x0).length 1 pcs1 prs1 71], w⟩ S1 w4 [.osl (v3) (([y1] : List (Option ((List UInt8) × (List UInt8) × (List UInt8) × (UInt64 × UInt64 × UInt64 × UInt64) × Onc × ((UInt64 × UInt64 × UInt64 × UInt64) × (UInt64 × UInt64 × UInt64 × UInt64) × Bool))))).length 1 cs2 [] 71, .blk b0_ (([pv1])) 75, .osl (v4) (y4).length 1 cs3 rs1 71] := H
   replace H := H.sel [1, 2] rfl
   replace H : HS ⟨S, keysR [.blk b0_ (([pv1])) 75, .osl (pv1) (x0).length 1 pcs1 prs1 71], w⟩ S1 w4 [.blk b0_ (([pv1])) 75, .osl (v4) (y4).length 1 cs3 rs1 71] := H
   refine p_val (r_nilck rfl) ?_
   refine p_val (r_field fa75_0 rfl) ?_
   refine p_ofs (a_store (k := 0) (v := v4) (l := [v4]) tsz73 H rfl rfl rfl (cells_one (HS.ownOne H (k := 1) rfl)) rfl (fun u hu => by rw [List.mem_singleton] at hu; rw [hu]; exact HS.ownOne H (k := 1) rfl) rfl) ?_; clear H; intro w5 H
   replace H : HS ⟨S, keysR [.blk b0_ (([pv1])) 75, .osl (pv1) (x0).length 1 pcs1 prs1 71], w⟩ S1 w5 [.blk b0_ (([v4])) 75, .osl (v4) (y4).length 1 cs3 rs1 71] := H
   refine xk hK8 ?_; clear hK8
   refine sr ?_; intro K9 hK9
   refine p_as (v := .int .i64 (0)) rfl ?_
   refine xk hK9 ?_; clear hK9
   refine wp_ret ?_
   obtain rfl := Option.some.inj hF
   refine e_1 rfl (q_tmp (v := .int .i64 (0)) rfl) ?_
   replace H : HS ⟨S, keysR [.blk b0_ (([pv1])) 75, .osl (pv1) (x0).length 1 pcs1 prs1 71], w⟩ S1 w5 [.blk b0_ (([v4])) 75, .osl (v4) (y4).length 1 cs3 rs1 71] := H
   exact ⟨_, _, _, _, rfl, H, g4⟩
def sign_Ring_Kids_b0 (y1 : (List (Option ((List UInt8) × (List UInt8) × (List UInt8) × (UInt64 × UInt64 × UInt64 × UInt64) × Onc × ((UInt64 × UInt64 × UInt64 × UInt64) × (UInt64 × UInt64 × UInt64 × UInt64) × Bool))))) (s1 : (List (List UInt8)) × Int) : Option (((List (List UInt8)) × Int) ⊕ ((List (List UInt8)))) :=
  bif decide (s1.2 < ((y1).length : Int)) then (Option.bind (idx y1 s1.2) fun y2 => Option.bind (y2) fun y3 => Option.bind (app s1.1 ([y3.2.1] : List (List UInt8))) fun y4 => some (.inl ((y4, (w64 (s1.2 + 1)))))) else (some (.inr (s1.1)))
def sign_Ring_Kids_p (x0 : Option ((List (Option ((List UInt8) × (List UInt8) × (List UInt8) × (UInt64 × UInt64 × UInt64 × UInt64) × Onc × ((UInt64 × UInt64 × UInt64 × UInt64) × (UInt64 × UInt64 × UInt64 × UInt64) × Bool)))))) : Option ((List (List UInt8))) :=
  Option.bind (Option.bind (x0) fun y1 => Option.bind (iter (sign_Ring_Kids_b0 y1) ((([] : List (List UInt8)), 0))) (fun e => some (e))) (fun t1 => some (t1))
theorem sign_Ring_Kids_c {S : Mem} {w : World} (H : HS ⟨S, keysR [], w⟩ S w []) {v0_ : Value} {x0 : Option ((List (Option ((List UInt8) × (List UInt8) × (List UInt8) × (UInt64 × UInt64 × UInt64 × UInt64) × Onc × ((UInt64 × UInt64 × UInt64 × UInt64) × (UInt64 × UInt64 × UInt64 × UInt64) × Bool)))))} (h0_ : Rp.rep S [v0_] x0) {r : (List (List UInt8))} (hF : sign_Ring_Kids_p x0 = some r) :
    Calls Try.prog 14 #[v0_] w fun e w' => ∃ (S2 : Mem) (pv2 : Value) (pcs2 prs2 : List Value), e = .returned (pv2) ∧ HS ⟨S, keysR [], w⟩ S2 w' [.osl (pv2) (r).length 1 pcs2 prs2 9] ∧ RL S2 pcs2 r := by
 refine enter (n := 24) Try.func14 rfl rfl rfl ?_
 unfold sign_Ring_Kids_p at hF
 refine sr ?_; intro K1 hK1
 refine p_as (v := .slice none 0 0) rfl ?_
 refine xk hK1 ?_; clear hK1
 refine sr ?_; intro K2 hK2
 refine p_as (v := .slice none 0 0) rfl ?_
 refine xk hK2 ?_; clear hK2
 refine wp_seq_k ?_; intro K3 hK3
 refine nameF fun m1 k1 => ?_
 obtain ⟨t1, hE1, hF1⟩ := bnd hF
 have J1 : ∀ (v6 : Value) (cs7 rs3 : List Value) (m4 : FM) (w4 : World), (∀ t, has [3, 5, 6, 7, 8, 9, 10, 11, 12, 13, 14, 15, 16, 17, 18, 19, 20, 21, 22] t = false → look m4 t = look m1 t) → look m4 3 = v6 → HS ⟨S, keysR [], w⟩ S w4 [.osl (v6) (t1).length 1 cs7 rs3 9] → RL S cs7 t1 → K3 (fr 24 m4) w4 := by
  clear H; intro v6 cs7 rs3 m4 w4 k5 q5 H g7
  refine hK3 _ _ ?_
  refine sr ?_; intro K9 hK9
  refine p_mv (v := v6) q5 ?_
  refine p_as (v := v6) rfl ?_
  refine xk hK9 ?_; clear hK9
  refine wp_ret ?_
  obtain rfl := Option.some.inj hF1
  refine e_1 rfl (q_tmp (v := v6) rfl) ?_
  replace H : HS ⟨S, keysR [], w⟩ S w4 [.osl (v6) (t1).length 1 cs7 rs3 9] := H
  exact ⟨_, _, _, _, rfl, H, g7⟩
 refine sr ?_; intro K4 hK4
 refine p_mv (v := v0_) (k1 0) ?_
 obtain ⟨y1, e1, hE1⟩ := bnd hE1
 obtain ⟨b1, cs1, hv1, hc1, hr1⟩ := opK h0_ e1; subst hv1
 refine p_val (r_nilck rfl) ?_
 obtain ⟨v1, rfl, g1⟩ := elL hr1
 refine p_val (r_field fa75_0 rfl) ?_
 refine p_val (s_load1 (p := 0) (o := 0) (v := v1) to73 H.sub rfl hc1 rfl) ?_
 refine p_val (r_lenR' u73 rfl g1 H.sub) ?_
 refine p_mv (v := .int .i64 (0)) rfl ?_
 refine xk hK4 ?_; clear hK4
 refine wp_block ?_
 refine nameF fun m2 k2 => ?_
 obtain ⟨out1, hL1, hE2⟩ := bnd hE1
 replace H := H.nilOwn 1 9; have g3 : RL S [] ([] : List (List UInt8)) := RL.nil
 replace H : HS ⟨S, keysR [], w⟩ S w [.osl (.slice none 0 0) (([] : List (List UInt8))).length 1 [] [] 9] := H
 refine loopI [3, 5, 11, 12, 13, 14, 15, 16, 17, 18, 19, 20, 21, 22] (fun (s1 : (List (List UInt8)) × Int) (m3 : FM) (w1 : World) => ∃ (v2 : Value) (cs2 rs1 : List Value), look m3 3 = v2 ∧ look m3 11 = .int .i64 (s1.2) ∧ HS ⟨S, keysR [], w⟩ S w1 [.osl (v2) (s1.1).length 1 cs2 rs1 9] ∧ RL S cs2 s1.1) hL1 ⟨_, _, _, (show _ = (.slice none 0 0 : Value) from ((k2 3).trans (k1 3))), (k2 11), H, g3⟩ ?_
 clear H; intro k4 s1 m3 w1 k3 hI1 o2 hb1 hh1; obtain ⟨v2, cs2, rs1, q1, q2, H, g2⟩ := hI1
 have q3 : look m3 9 = v1 := (k3 9 rfl).trans (k2 9)
 have q4 : look m3 10 = .int .i64 (((y1).length : Int)) := (k3 10 rfl).trans (k2 10)
 unfold sign_Ring_Kids_b0 at hb1
 refine sr ?_; intro K5 hK5
 refine p_val (r_lssI q2 q4) ?_
 refine xk hK5 ?_; clear hK5
 refine wp_seq_k ?_; intro K6 hK6
 refine c_split (t := decide (s1.2 < ((y1).length : Int))) rfl (fun hc2 => ?_) (fun hc2 => ?_)
 ·replace hb1 := cnd_t hb1 hc2
  refine wp_skip ?_
  refine xn hK6 ?_; clear hK6
  refine wp_seq_k ?_; intro K7 hK7
  refine wp_block ?_
  refine sr ?_; intro K8 hK8
  obtain ⟨y2, e2, hb1⟩ := bnd hb1
  obtain ⟨b2, o3, N1, c1, cs3, hv2, hi1, hc3, hr2⟩ := g1.get (idx_some e2).2
  refine p_val (r_addrV (i := (s1.2 : Int).toNat) u73 tsz71 q3 hv2 q2 (idx_some e2).1 hi1) ?_
  obtain ⟨v3, rfl, g4⟩ := elK hr2
  refine p_val (s_load1 (p := (o3 + (s1.2 : Int).toNat * 1)) (o := 0) (v := v3) to71 H.sub rfl hc3 rfl) ?_
  refine p_as (v := v3) rfl ?_
  refine xk hK8 ?_; clear hK8
  refine wp_region_lit ?_
  refine p_mv (v := v2) q1 ?_
  refine p_mv (v := v3) rfl ?_
  obtain ⟨y3, e3, hb1⟩ := bnd hb1
  obtain ⟨b3, cs4, hv3, hc4, hr3⟩ := opK g4 e3; subst hv3
  refine p_val (r_nilck rfl) ?_
  obtain rfl := el90c hr3
  refine p_val (r_field fa90_1 rfl) ?_
  refine p_val (s_load1 (p := 0) (o := 1) (v := str (y3.2.1)) to9 H.sub rfl hc4 rfl) ?_
  have g5 : RL S ([str (y3.2.1)] ++ ([] : List Value)) ([y3.2.1] : List (List UInt8)) := (RL.cons rpT RL.nil)
  refine p_of1 (a_bslice (N := 1) (vals := [(0, str (y3.2.1))]) (l := ([str (y3.2.1)] ++ ([] : List Value))) tn43 H rfl rfl rfl g5.len) ?_; clear H; intro w2 v4 H
  generalize ([str (y3.2.1)] ++ ([] : List Value)) = cs5 at H g5
  replace H : HS ⟨S, keysR [], w⟩ S w2 [.osl (v4) (([y3.2.1] : List (List UInt8))).length 1 cs5 [] 9, .osl (v2) (s1.1).length 1 cs2 rs1 9] := H
  obtain ⟨y4, e4, hb1⟩ := bnd hb1
  refine p_of1 (a_appendX (k := 1) (v2 := v4) tn43 rfl H rfl rfl g2 rfl (H.slW (k := 0) rfl) g5 e4) ?_; clear H; rintro w3 v5 ⟨cs6, rs2, H, g6⟩
  replace H : HS ⟨S, keysR [], w⟩ S w3 [.osl (v4) (([y3.2.1] : List (List UInt8))).length 1 cs5 [] 9, .osl (v5) (y4).length 1 cs6 rs2 9] := H
  replace H := H.sel [1] rfl
  replace H : HS ⟨S, keysR [], w⟩ S w3 [.osl (v5) (y4).length 1 cs6 rs2 9] := H
  refine p_as (v := v5) rfl ?_
  refine wpList_nil ?_
  refine b_norm ?_
  refine xn hK7 ?_; clear hK7
  refine wp_region_lit ?_
  refine p_val (r_addI q2 rfl) ?_
  refine p_mv (v := .int .i64 ((w64 (s1.2 + 1)))) rfl ?_
  refine wpList_nil ?_
  refine x_norm ?_
  replace H : HS ⟨S, keysR [], w⟩ S w3 [.osl (v5) (y4).length 1 cs6 rs2 9] := H
  obtain rfl := Option.some.inj hb1
  exact ⟨(y4, (w64 (s1.2 + 1))), _, rfl, (by (repeat (refine keep_cons rfl ?_)); refine keep_sub k3 rfl ?_; (repeat (refine keep_cons rfl ?_)); exact fun _ _ => rfl), ⟨_, _, _, rfl, rfl, H, g6⟩, hh1⟩
 ·replace hb1 := cnd_f hb1 hc2
  refine wp_exit ?_
  refine x_exit ?_
  refine x_exit ?_
  refine b_hit ?_
  refine x_norm ?_
  replace H : HS ⟨S, keysR [], w⟩ S w1 [.osl (v2) (s1.1).length 1 cs2 rs1 9] := H
  obtain rfl := Option.some.inj hb1
  obtain rfl := Option.some.inj hh1
  obtain rfl := Option.some.inj hE2
  exact J1 _ _ _ _ _ (by (repeat (refine keep_cons rfl ?_)); refine keep_sub k3 rfl ?_; (repeat (refine keep_cons rfl ?_)); refine keep_name k2 ?_; (repeat (refine keep_cons rfl ?_)); exact fun _ _ => rfl) (show _ = (v2 : Value) from q1) H g2
noncomputable def sign_Ring_Mac_p (x0 : Option ((List (Option ((List UInt8) × (List UInt8) × (List UInt8) × (UInt64 × UInt64 × UInt64 × UInt64) × Onc × ((UInt64 × UInt64 × UInt64 × UInt64) × (UInt64 × UInt64 × UInt64 × UInt64) × Bool)))))) (x1 : List UInt8) : Option ((List UInt8) × (List UInt8)) :=
  Option.bind (sign_Ring_newest_p x0) fun y1 => Option.bind (y1) fun y2 => Option.bind (y1) fun y3 => Option.bind (hash_Mac_p y3.2.2.1 x1) fun y4 => some ((y2.2.1, y4))
theorem sign_Ring_Mac_c {S : Mem} {w : World} (hS : Sub S w) {v0_ : Value} {x0 : Option ((List (Option ((List UInt8) × (List UInt8) × (List UInt8) × (UInt64 × UInt64 × UInt64 × UInt64) × Onc × ((UInt64 × UInt64 × UInt64 × UInt64) × (UInt64 × UInt64 × UInt64 × UInt64) × Bool)))))} (h0_ : Rp.rep S [v0_] x0) {x1 : List UInt8} {r : (List UInt8) × (List UInt8)} (hF : sign_Ring_Mac_p x0 x1 = some r) :
    Calls Try.prog 13 #[v0_, str (x1)] w fun e w' => e = .returned (.tuple #[str (r.1), str (r.2)]) ∧ Ext w w' := by
 refine enter (n := 19) Try.func13 rfl rfl rfl ?_
 have H := HS.start hS
 unfold sign_Ring_Mac_p at hF
 refine sr ?_; intro K1 hK1
 refine p_as (v := str (([] : List UInt8))) rfl ?_
 refine p_as (v := str (([] : List UInt8))) rfl ?_
 refine xk hK1 ?_; clear hK1
 refine sr ?_; intro K2 hK2
 refine p_mv (v := v0_) rfl ?_
 obtain ⟨y1, e1, hF⟩ := bnd hF
 refine p_call (l := [v0_]) is38 rfl ?_
 refine (sign_Ring_newest_c H.sub h0_ e1).mono ?_; rintro _ w1 ⟨hx, v1, rfl, g1⟩
 have hle1 := gr_le (w' := w1) H.sub; replace H := H.call hx; clear hx; generalize gr S w w1 = S1 at hle1 H g1
 replace h0_ := Rp.mono h0_ hle1
 refine p_as (v := v1) rfl ?_
 refine xk hK2 ?_; clear hK2
 refine wp_seq_k ?_; intro K3 hK3
 obtain ⟨y2, e2, hF⟩ := bnd hF
 obtain ⟨b1, cs1, hv1, hc1, hr1⟩ := opK g1 e2; subst hv1
 obtain rfl := el90c hr1
 obtain ⟨y3, e3, hF⟩ := bnd hF
 obtain ⟨cs2, hc2, hr2⟩ := opK' g1 e3
 obtain rfl := el90c hr2
 obtain ⟨y4, e4, hF⟩ := bnd hF
 apply wp_region_ext 10 (kindsF [(9, .inl (str (y4)))]) rfl rfl (by kernel_rfl); intro vs1
 simp only [List.take_succ_cons, List.take_zero, List.drop_succ_cons, List.drop_zero]
 replace H := H.drew
 refine t_v (fun w hx => r_move (v := (.pointer (some ⟨b1, 0, none⟩))) rfl) ?_
 refine t_v (fun w hx => r_nilck rfl) ?_
 refine t_v (fun w hx => r_field fa90_1 rfl) ?_
 refine t_v (fun w hx => s_load1 (p := 0) (o := 1) (v := str (y2.2.1)) to9 (H.ext hx).sub rfl hc1 rfl) ?_
 refine t_v (fun w hx => r_move (v := .pointer (some ⟨b1, 0, none⟩)) rfl) ?_
 refine t_v (fun w hx => r_nilck rfl) ?_
 refine t_v (fun w hx => r_field fa90_2 rfl) ?_
 refine t_v (fun w hx => s_load1 (p := 0) (o := 2) (v := str (y3.2.2.1)) to9 (H.ext hx).sub rfl hc2 rfl) ?_
 refine t_v (fun w hx => r_move (v := str (x1)) rfl) ?_
 refine t_call (l := [str (y3.2.2.1), str (x1)]) rfl rfl is15 rfl (fun w hx hF => (hash_Mac_c (H.ext hx).sub e4).mono (fun _ _ ⟨he, hx⟩ => ⟨he, hx⟩)) ?_
 refine t_nil (fun w2 hx hF hA => ?_)
 replace H := H.ext hx; clear hx hF hA
 refine p_as (v := str (y2.2.1)) rfl ?_
 refine p_as (v := str (y4)) rfl ?_
 refine wpList_nil ?_; refine on_norm ?_
 refine xn hK3 ?_; clear hK3
 refine wp_ret ?_
 obtain rfl := Option.some.inj hF
 refine e_2 rfl (q_tmp (v := str (y2.2.1)) rfl) (q_tmp (v := str (y4)) rfl) ?_
 exact ⟨rfl, H.toExt⟩
noncomputable def sign_Ring_Vouch_p (x0 : Option ((List (Option ((List UInt8) × (List UInt8) × (List UInt8) × (UInt64 × UInt64 × UInt64 × UInt64) × Onc × ((UInt64 × UInt64 × UInt64 × UInt64) × (UInt64 × UInt64 × UInt64 × UInt64) × Bool)))))) (x1 : List UInt8) (x2 : List UInt8) (x3 : List UInt8) : Option (Bool) :=
  Option.bind (sign_Ring_find_p x0 x1) fun y1 => Option.bind (bif (!y1.isNone) then (Option.bind (y1) fun y2 => Option.bind (hash_Mac_p y2.2.2.1 x2) fun y3 => Option.bind (hash_Same_p y3 x3) fun y4 => some (y4)) else (some (false))) (fun t1 => some (t1))
theorem sign_Ring_Vouch_c {S : Mem} {w : World} (hS : Sub S w) {v0_ : Value} {x0 : Option ((List (Option ((List UInt8) × (List UInt8) × (List UInt8) × (UInt64 × UInt64 × UInt64 × UInt64) × Onc × ((UInt64 × UInt64 × UInt64 × UInt64) × (UInt64 × UInt64 × UInt64 × UInt64) × Bool)))))} (h0_ : Rp.rep S [v0_] x0) {x1 : List UInt8} {x2 : List UInt8} {x3 : List UInt8} {r : Bool} (hF : sign_Ring_Vouch_p x0 x1 x2 x3 = some r) :
    Calls Try.prog 29 #[v0_, str (x1), str (x2), str (x3)] w fun e w' => e = .returned (.bool (r)) ∧ Ext w w' := by
 refine enter (n := 25) Try.func29 rfl rfl rfl ?_
 have H := HS.start hS
 unfold sign_Ring_Vouch_p at hF
 refine sr ?_; intro K1 hK1
 refine p_as (v := .bool (false)) rfl ?_
 refine xk hK1 ?_; clear hK1
 refine sr ?_; intro K2 hK2
 refine p_mv (v := v0_) rfl ?_
 refine p_mv (v := str (x1)) rfl ?_
 obtain ⟨y1, e1, hF⟩ := bnd hF
 refine p_call (l := [v0_, str (x1)]) is54 rfl ?_
 refine (sign_Ring_find_c H.sub h0_ e1).mono ?_; rintro _ w1 ⟨hx, v1, rfl, g1⟩
 have hle1 := gr_le (w' := w1) H.sub; replace H := H.call hx; clear hx; generalize gr S w w1 = S1 at hle1 H g1
 replace h0_ := Rp.mono h0_ hle1
 refine p_as (v := v1) rfl ?_
 refine xk hK2 ?_; clear hK2
 refine sr ?_; intro K3 hK3
 refine p_mv (v := v1) rfl ?_
 refine p_val (r_neK u71 eg71 rfl g1 rfl) ?_
 refine p_mv (v := .bool ((!y1.isNone))) rfl ?_
 refine nameL fun m1 k1 => ?_
 refine gs_at 9 fun K4 hK4 R1 hR1 => ?_
 obtain ⟨t1, hE1, hF1⟩ := bnd hF
 have J1 : ∀ (m2 : FM) (w4 : World), (∀ t, has [16, 17, 18, 19, 20, 21, 22, 23, 24] t = false → look m2 t = look m1 t) → look m2 24 = .bool (t1) → HS ⟨S, [], w⟩ S1 w4 [] → K4 m2 w4 := by
  clear H; intro m2 w4 k2 q1 H
  refine hK4 _ _ ?_
  refine p_as q1 ?_
  refine xk hK3 ?_; clear hK3
  refine wp_ret ?_
  obtain rfl := Option.some.inj hF1
  refine e_1 rfl (q_tmp (v := .bool (t1)) rfl) ?_
  exact ⟨rfl, H.toExt⟩
 refine p_gs (j := 2) (gvl_at rfl rfl (k1 15)) (fun hb1 => ?_) (fun hb1 => ?_)
 ·replace hE1 := cnd_t hE1 hb1
  refine p_want (gvl_at rfl rfl (k1 15)) hb1 ?_
  refine p_mv (v := v1) (k1 9) ?_
  refine p_want (gvl_at rfl rfl (k1 15)) hb1 ?_
  obtain ⟨y2, e2, hE1⟩ := bnd hE1
  obtain ⟨b1, cs1, hv1, hc1, hr1⟩ := opK g1 e2; subst hv1
  refine p_val (r_nilck rfl) ?_
  obtain rfl := el90c hr1
  refine p_want (gvl_at rfl rfl (k1 15)) hb1 ?_
  refine p_val (r_field fa90_2 rfl) ?_
  refine p_want (gvl_at rfl rfl (k1 15)) hb1 ?_
  refine p_val (s_load1 (p := 0) (o := 2) (v := str (y2.2.2.1)) to9 H.sub rfl hc1 rfl) ?_
  refine p_want (gvl_at rfl rfl (k1 15)) hb1 ?_
  refine p_mv (k1 2) ?_
  refine p_want (gvl_at rfl rfl (k1 15)) hb1 ?_
  obtain ⟨y3, e3, hE1⟩ := bnd hE1
  refine p_call (l := [str (y2.2.2.1), str (x2)]) is15 rfl ?_
  refine (hash_Mac_c H.sub e3).mono ?_; rintro _ w2 ⟨rfl, hx⟩; replace H := H.ext hx; clear hx
  refine p_want (gvl_at rfl rfl (k1 15)) hb1 ?_
  refine p_mv (k1 3) ?_
  refine p_want (gvl_at rfl rfl (k1 15)) hb1 ?_
  obtain ⟨y4, e4, hE1⟩ := bnd hE1
  refine p_call (l := [str (y3), str (x3)]) is55 rfl ?_
  refine (hash_Same_c H.sub e4).mono ?_; rintro _ w3 ⟨rfl, hx⟩; replace H := H.ext hx; clear hx
  refine p_val (r_pickt (v := .bool (y4)) (k1 15) hb1 rfl) ?_
  refine hR1 _ _ ?_
  replace H : HS ⟨S, [], w⟩ S1 w3 [] := H
  obtain rfl := Option.some.inj hE1
  exact J1 _ _ (by (repeat (refine keep_cons rfl ?_)); exact fun _ _ => rfl) rfl H
 ·replace hE1 := cnd_f hE1 hb1
  refine p_skip (gvl_at rfl rfl (k1 15)) hb1 ?_
  rw [put_fr]
  refine p_skip (gvl_at rfl rfl (k1 15)) hb1 ?_
  rw [put_fr]
  refine p_skip (gvl_at rfl rfl (k1 15)) hb1 ?_
  rw [put_fr]
  refine p_skip (gvl_at rfl rfl (k1 15)) hb1 ?_
  rw [put_fr]
  refine p_skip (gvl_at rfl rfl (k1 15)) hb1 ?_
  rw [put_fr]
  refine p_skip (gvl_at rfl rfl (k1 15)) hb1 ?_
  rw [put_fr]
  refine p_skip (gvl_at rfl rfl (k1 15)) hb1 ?_
  rw [put_fr]
  refine p_skip (gvl_at rfl rfl (k1 15)) hb1 ?_
  rw [put_fr]
  refine p_val (r_pickf (v := .bool (false)) (k1 15) hb1 rfl) ?_
  refine hR1 _ _ ?_
  replace H : HS ⟨S, [], w⟩ S1 w1 [] := H
  obtain rfl := Option.some.inj hE1
  exact J1 _ _ (by (repeat (refine keep_cons rfl ?_)); exact fun _ _ => rfl) rfl H
end Go.Proofs.Ytmbcolbbekbccaa
namespace Go.Proofs.Ytmbcolbbekbccaa
open Go Go.RowKit
attribute [local irreducible] wpList wpT Code.wp Calls Code.rounds
theorem u39 : Try.prog.underlying 39 = some (.pointer 75) := by kernel_rfl
theorem u43 : Try.prog.underlying 43 = some (.slice 9) := by kernel_rfl
theorem eg39 : Try.prog.eqGuardType Try.prog.depth 39 = false := by kernel_rfl
theorem is5 : IsFn Try.prog 5 := isFn Try.func5 (by kernel_rfl) (by kernel_rfl)
theorem is6 : IsFn Try.prog 6 := isFn Try.func6 (by kernel_rfl) (by kernel_rfl)
theorem is7 : IsFn Try.prog 7 := isFn Try.func7 (by kernel_rfl) (by kernel_rfl)
theorem is8 : IsFn Try.prog 8 := isFn Try.func8 (by kernel_rfl) (by kernel_rfl)
theorem is12 : IsFn Try.prog 12 := isFn Try.func12 (by kernel_rfl) (by kernel_rfl)
theorem is13 : IsFn Try.prog 13 := isFn Try.func13 (by kernel_rfl) (by kernel_rfl)
theorem is14 : IsFn Try.prog 14 := isFn Try.func14 (by kernel_rfl) (by kernel_rfl)
theorem is27 : IsFn Try.prog 27 := isFn Try.func27 (by kernel_rfl) (by kernel_rfl)
theorem is29 : IsFn Try.prog 29 := isFn Try.func29 (by kernel_rfl) (by kernel_rfl)
theorem eqt29 (x y : (UInt64 × UInt64 × UInt64 × UInt64) × (UInt64 × UInt64 × UInt64 × UInt64) × Bool) : EqR Try.prog 3 29 (.agg (cl29 x).toArray) (.agg (cl29 y).toArray) (x == y) :=
  EqR.str (fs := fieldsOf Try.prog 29) (by kernel_rfl) (by kernel_rfl) (by kernel_rfl) (l := [(24, 0), (24, 4), (4, 8)]) (by kernel_rfl) (EqL.cons (partA tg24 rfl) (partA tg24 rfl) (eqt24 x.1 y.1) (EqL.cons (partA tg24 rfl) (partA tg24 rfl) (eqt24 x.2.1 y.2.1) (EqL.last (part1 (v := Value.bool (x.2.2)) to4 rfl) (part1 (v := Value.bool (y.2.2)) to4 rfl) ((eqB u4).le 2 (Nat.le_of_ble_eq_true rfl)))))
noncomputable def seneschallaw08_fixed_p  : Option (Bool) :=
  Option.bind (sign_Public_p ((1 : UInt64), (0 : UInt64), (0 : UInt64), (0 : UInt64))) fun y1 => Option.bind (sign_Public_p ((0 : UInt64), (0 : UInt64), (0 : UInt64), (0 : UInt64))) fun y2 => Option.bind (field_Modulus_p 1) fun y3 => Option.bind (sign_Sign_p y3 ([] : List UInt8)) fun y4 => Option.bind (sign_NewRing_p ([97] : List UInt8)) fun y5 => Option.bind (sign_Ring_Turn_p y5 ([97] : List UInt8)) fun y6 => Option.bind (bif (y6.1 != 80) then (some ((true, y6.2))) else (Option.bind (sign_Ring_Turn_p y6.2 ([98] : List UInt8)) fun y7 => some (((y7.1 != 0), y7.2)))) (fun t1 => Option.bind (bif t1.1 then (some (true)) else (Option.bind (sign_Ring_Kids_p (some t1.2)) fun y8 => some ((((y8).length : Int) != 2)))) (fun t2 => bif t2 then (some (false)) else (Option.bind (sign_Ring_Mac_p (some t1.2) ([115] : List UInt8)) fun y9 => Option.bind (curve_Base_p) fun y10 => bif ((y1.1 : (UInt64 × UInt64 × UInt64 × UInt64) × (UInt64 × UInt64 × UInt64 × UInt64) × Bool) == (y10 : (UInt64 × UInt64 × UInt64 × UInt64) × (UInt64 × UInt64 × UInt64 × UInt64) × Bool)) then (bif (y1.2 == 0) then (bif (y2.2 == 80) then (bif (y4.2 == 80) then (Option.bind (sign_Ring_Vouch_p (some t1.2) y9.1 ([115] : List UInt8) y9.2) fun y11 => bif y11 then (Option.bind (sign_Ring_Vouch_p (some t1.2) ([] : List UInt8) ([115] : List UInt8) y9.2) fun y12 => bif (!y12) then (Option.bind (sign_Verify_p y1.1 ([] : List UInt8) ([] : List UInt8)) fun y13 => some ((bif (bif (bif (bif (!y13) then true else false) then true else false) then true else false) then true else false))) else (some (false))) else (some (false))) else (some (false))) else (some (false))) else (some (false))) else (some (false)))))
set_option maxRecDepth 20000 in
set_option maxHeartbeats 2000000 in
theorem seneschallaw08_fixed_c {S : Mem} {w : World} (hS : Sub S w)  {r : Bool} (hF : seneschallaw08_fixed_p = some r) :
    Calls Try.prog 7 #[] w fun e w' => e = .returned (.bool (r)) ∧ Ext w w' := by
 refine enter (n := 89) Try.func7 rfl rfl rfl ?_
 have H := HS.start hS
 unfold seneschallaw08_fixed_p at hF
 refine sr ?_; intro K1 hK1
 refine p_as (v := .bool (false)) rfl ?_
 refine xk hK1 ?_; clear hK1
 refine sr ?_; intro K2 hK2
 refine p_val (r_build (vals := [(0, .int .u64 (1))]) (l := (cl24 ((1 : UInt64), (0 : UInt64), (0 : UInt64), (0 : UInt64)))) tb24 rfl rfl) ?_
 obtain ⟨y1, e1, hF⟩ := bnd hF
 refine p_call (l := [.agg ((cl24 ((1 : UInt64), (0 : UInt64), (0 : UInt64), (0 : UInt64)))).toArray]) is6 rfl ?_
 refine (sign_Public_c H.sub e1).mono ?_; rintro _ w1 ⟨rfl, hx⟩; replace H := H.ext hx; clear hx
 refine p_mv (v := .tuple #[.agg ((cl29 y1.1)).toArray, .int .i64 (y1.2)]) rfl ?_
 refine p_val (r_extract (v := .agg ((cl29 y1.1)).toArray) rfl rfl) ?_
 refine p_val (r_extract (v := .int .i64 (y1.2)) rfl rfl) ?_
 refine p_ofb (a_alloc (l := (cl29 (((0 : UInt64), (0 : UInt64), (0 : UInt64), (0 : UInt64)), ((0 : UInt64), (0 : UInt64), (0 : UInt64), (0 : UInt64)), false))) H tz29 rfl) ?_; clear H; intro w2 b1 H
 refine p_ofs (a_store (k := 0) (v := .agg ((cl29 y1.1)).toArray) (l := (cl29 y1.1)) tsz29 H rfl rfl rfl (cells_agg _) rfl (fun u hu => List.all_eq_true.1 (rfl : ((cl29 y1.1)).all (·.oneCell') = true) u hu) rfl) ?_; clear H; intro w3 H
 replace H : HS ⟨S, [], w⟩ S w3 [.blk b1 ((cl29 y1.1)) 29] := H
 refine p_as (v := .int .i64 (y1.2)) rfl ?_
 refine xk hK2 ?_; clear hK2
 refine sr ?_; intro K3 hK3
 refine p_val (r_build (vals := []) (l := (cl24 ((0 : UInt64), (0 : UInt64), (0 : UInt64), (0 : UInt64)))) tb24 rfl rfl) ?_
 obtain ⟨y2, e2, hF⟩ := bnd hF
 refine p_call (l := [.agg ((cl24 ((0 : UInt64), (0 : UInt64), (0 : UInt64), (0 : UInt64)))).toArray]) is6 rfl ?_
 refine (sign_Public_c H.sub e2).mono ?_; rintro _ w4 ⟨rfl, hx⟩; replace H := H.ext hx; clear hx
 refine p_mv (v := .tuple #[.agg ((cl29 y2.1)).toArray, .int .i64 (y2.2)]) rfl ?_
 refine p_val (r_extract (v := .agg ((cl29 y2.1)).toArray) rfl rfl) ?_
 refine p_val (r_extract (v := .int .i64 (y2.2)) rfl rfl) ?_
 refine p_ofb (a_alloc (l := (cl29 (((0 : UInt64), (0 : UInt64), (0 : UInt64), (0 : UInt64)), ((0 : UInt64), (0 : UInt64), (0 : UInt64), (0 : UInt64)), false))) H tz29 rfl) ?_; clear H; intro w5 b2 H
 refine p_ofs (a_store (k := 0) (v := .agg ((cl29 y2.1)).toArray) (l := (cl29 y2.1)) tsz29 H rfl rfl rfl (cells_agg _) rfl (fun u hu => List.all_eq_true.1 (rfl : ((cl29 y2.1)).all (·.oneCell') = true) u hu) rfl) ?_; clear H; intro w6 H
 replace H : HS ⟨S, [], w⟩ S w6 [.blk b2 ((cl29 y2.1)) 29, .blk b1 ((cl29 y1.1)) 29] := H
 refine p_as (v := .int .i64 (y2.2)) rfl ?_
 refine xk hK3 ?_; clear hK3
 refine sr ?_; intro K4 hK4
 obtain ⟨y3, e3, hF⟩ := bnd hF
 refine p_call (l := [.int .i64 (1)]) is26 rfl ?_
 refine (field_Modulus_c H.sub e3).mono ?_; rintro _ w7 ⟨rfl, hx⟩; replace H := H.ext hx; clear hx
 obtain ⟨y4, e4, hF⟩ := bnd hF
 refine p_call (l := [.agg ((cl24 y3)).toArray, str (([] : List UInt8))]) is5 rfl ?_
 refine (sign_Sign_c H.sub e4).mono ?_; rintro _ w8 ⟨rfl, hx⟩; replace H := H.ext hx; clear hx
 refine p_mv (v := .tuple #[str (y4.1), .int .i64 (y4.2)]) rfl ?_
 refine p_val (r_extract (v := str (y4.1)) rfl rfl) ?_
 refine p_val (r_extract (v := .int .i64 (y4.2)) rfl rfl) ?_
 refine p_as (v := str (y4.1)) rfl ?_
 refine p_as (v := .int .i64 (y4.2)) rfl ?_
 refine xk hK4 ?_; clear hK4
 refine sr ?_; intro K5 hK5
 obtain ⟨y5, e5, hF⟩ := bnd hF
 refine p_call (l := [str (([97] : List UInt8))]) is12 rfl ?_
 refine (sign_NewRing_c (H.hand [] rfl) e5).mono ?_; rintro _ w9 ⟨S1, pb1, pv1, pcs1, prs1, rfl, H2, pg1⟩
 obtain ⟨H1, hle1⟩ := H.frame [] [0, 1] rfl H2; clear H H2; have H := H1; clear H1
 replace H : HS ⟨S, [], w⟩ S1 w9 [.blk pb1 (([pv1])) 75, .osl (pv1) (y5).length 1 pcs1 prs1 71, .blk b2 ((cl29 y2.1)) 29, .blk b1 ((cl29 y1.1)) 29] := H
 refine p_as (v := .pointer (some ⟨pb1, 0, none⟩)) rfl ?_
 refine xk hK5 ?_; clear hK5
 refine wp_seq_k ?_; intro K6 hK6
 refine sr ?_; intro K7 hK7
 refine p_mv (v := .pointer (some ⟨pb1, 0, none⟩)) rfl ?_
 refine p_val (r_eqPn u39 eg39 rfl rfl) ?_
 refine p_mv (v := .bool (false)) rfl ?_
 refine p_want rfl rfl ?_
 refine p_mv (v := .pointer (some ⟨pb1, 0, none⟩)) rfl ?_
 refine p_want rfl rfl ?_
 obtain ⟨y6, e6, hF⟩ := bnd hF
 refine p_call (l := [.pointer (some ⟨pb1, 0, none⟩), str (([97] : List UInt8))]) is27 rfl ?_
 refine (sign_Ring_Turn_c (H.hand [0, 1] rfl) pg1 e6).mono ?_; rintro _ w10 ⟨S2, pv2, pcs2, prs2, rfl, H2, pg2⟩
 obtain ⟨H1, hle2⟩ := H.frame [0, 1] [2, 3] rfl H2; clear H H2; have H := H1; clear H1
 replace H : HS ⟨S, [], w⟩ S2 w10 [.blk pb1 (([pv2])) 75, .osl (pv2) (y6.2).length 1 pcs2 prs2 71, .blk b2 ((cl29 y2.1)) 29, .blk b1 ((cl29 y1.1)) 29] := H
 refine p_want rfl rfl ?_
 refine p_val (r_neqI rfl rfl) ?_
 refine p_val (r_pickf (v := .bool ((y6.1 != 80))) rfl rfl rfl) ?_
 refine p_mv (v := .bool ((y6.1 != 80))) rfl ?_
 refine nameL fun m1 k1 => ?_
 refine gs_at 4 fun K8 hK8 R6 hR6 => ?_
 obtain ⟨t1, hE1, hF1⟩ := bnd hF
 have J2 : ∀ (v1 : Value) (cs1 rs1 : List Value) (S4 : Mem) (m2 : FM) (w12 : World), (∀ t, has [34, 35, 36, 37] t = false → look m2 t = look m1 t) → look m2 37 = .bool (t1.1) → Mem.le S2 S4 → HS ⟨S, [], w⟩ S4 w12 [.blk pb1 (([v1])) 75, .osl (v1) (t1.2).length 1 cs1 rs1 71, .blk b2 ((cl29 y2.1)) 29, .blk b1 ((cl29 y1.1)) 29] → RL S4 cs1 t1.2 → K8 m2 w12 := by
  clear H; intro v1 cs1 rs1 S4 m2 w12 k2 q1 hle4 H g1
  have q2 : look m2 1 = .pointer (some ⟨b1, 0, none⟩) := (k2 1 rfl).trans (k1 1)
  have q3 : look m2 2 = .int .i64 (y1.2) := (k2 2 rfl).trans (k1 2)
  have q4 : look m2 4 = .int .i64 (y2.2) := (k2 4 rfl).trans (k1 4)
  have q5 : look m2 6 = .int .i64 (y4.2) := (k2 6 rfl).trans (k1 6)
  have q6 : look m2 7 = .pointer (some ⟨pb1, 0, none⟩) := (k2 7 rfl).trans (k1 7)
  refine hK8 _ _ ?_
  refine p_mv q1 ?_
  refine nameL fun m3 k3 => ?_
  refine gs_at 5 fun K9 hK9 R8 hR8 => ?_
  obtain ⟨t2, hE2, hF2⟩ := bnd hF1
  have J1 : ∀ (m4 : FM) (w14 : World), (∀ t, has [39, 40, 41, 42, 43] t = false → look m4 t = look m3 t) → look m4 43 = .bool (t2) → HS ⟨S, [], w⟩ S4 w14 [.blk pb1 (([v1])) 75, .osl (v1) (t1.2).length 1 cs1 rs1 71, .blk b2 ((cl29 y2.1)) 29, .blk b1 ((cl29 y1.1)) 29] → K9 m4 w14 := by
   clear H; intro m4 w14 k4 q7 H
   have q8 : look m4 1 = .pointer (some ⟨b1, 0, none⟩) := (k4 1 rfl).trans ((k3 1).trans q2)
   have q9 : look m4 2 = .int .i64 (y1.2) := (k4 2 rfl).trans ((k3 2).trans q3)
   have q10 : look m4 4 = .int .i64 (y2.2) := (k4 4 rfl).trans ((k3 4).trans q4)
   have q11 : look m4 6 = .int .i64 (y4.2) := (k4 6 rfl).trans ((k3 6).trans q5)
   have q12 : look m4 7 = .pointer (some ⟨pb1, 0, none⟩) := (k4 7 rfl).trans ((k3 7).trans q6)
   refine hK9 _ _ ?_
   refine xk hK7 ?_; clear hK7
   refine c_split (t := t2) q7 (fun hc1 => ?_) (fun hc1 => ?_)
   ·replace hF2 := cnd_t hF2 hc1
    refine sr ?_; intro K10 hK10
    refine p_as (v := .bool (false)) rfl ?_
    refine xk hK10 ?_; clear hK10
    refine wp_ret ?_
    refine x_ret ?_
    obtain rfl := Option.some.inj hF2
    refine e_1 rfl (q_tmp (v := .bool (false)) rfl) ?_
    exact ⟨rfl, H.toExt⟩
   ·replace hF2 := cnd_f hF2 hc1
    refine wp_skip ?_
    refine xn hK6 ?_; clear hK6
    refine sr ?_; intro K11 hK11
    refine p_mv (v := .pointer (some ⟨pb1, 0, none⟩)) q12 ?_
    obtain ⟨y9, e9, hF2⟩ := bnd hF2
    refine p_call (l := [.pointer (some ⟨pb1, 0, none⟩), str (([115] : List UInt8))]) is13 rfl ?_
    refine (sign_Ring_Mac_c (subMem w14) (rpK (HS.blkAt H (k := 0) rfl) (rpL (RdS.ofOwn H (k := 1) rfl g1))) e9).mono ?_; rintro _ w15 ⟨rfl, hx⟩; replace H := H.ext hx; clear hx
    refine p_mv (v := .tuple #[str (y9.1), str (y9.2)]) rfl ?_
    refine p_val (r_extract (v := str (y9.1)) rfl rfl) ?_
    refine p_val (r_extract (v := str (y9.2)) rfl rfl) ?_
    refine p_as (v := str (y9.1)) rfl ?_
    refine p_as (v := str (y9.2)) rfl ?_
    refine xk hK11 ?_; clear hK11
    refine wp_seq_k ?_; intro K12 hK12
    obtain ⟨y10, e10, hF2⟩ := bnd hF2
    rcases Bool.eq_false_or_eq_true (((y1.1 : (UInt64 × UInt64 × UInt64 × UInt64) × (UInt64 × UInt64 × UInt64 × UInt64) × Bool) == (y10 : (UInt64 × UInt64 × UInt64 × UInt64) × (UInt64 × UInt64 × UInt64 × UInt64) × Bool))) with hb3 | hb3
    ·replace hF2 := cnd_t hF2 hb3
     rcases Bool.eq_false_or_eq_true ((y1.2 == 0)) with hb4 | hb4
     ·replace hF2 := cnd_t hF2 hb4
      rcases Bool.eq_false_or_eq_true ((y2.2 == 80)) with hb5 | hb5
      ·replace hF2 := cnd_t hF2 hb5
       rcases Bool.eq_false_or_eq_true ((y4.2 == 80)) with hb6 | hb6
       ·replace hF2 := cnd_t hF2 hb6
        obtain ⟨y11, e11, hF2⟩ := bnd hF2
        rcases Bool.eq_false_or_eq_true (y11) with hb7 | hb7
        ·replace hF2 := cnd_t hF2 hb7
         obtain ⟨y12, e12, hF2⟩ := bnd hF2
         rcases Bool.eq_false_or_eq_true ((!y12)) with hb8 | hb8
         ·replace hF2 := cnd_t hF2 hb8
          obtain ⟨y13, e13, hF2⟩ := bnd hF2
          apply wp_region_ext 40 (kindsF [(1, .inl (.agg ((cl29 y10)).toArray)), (19, .inl (.bool (y11))), (24, .inl (.bool (y12))), (29, .inl (.bool (y13)))]) rfl rfl (by kernel_rfl); intro vs1
          simp only [List.take_succ_cons, List.take_zero, List.drop_succ_cons, List.drop_zero]
          replace H := H.drew
          refine t_v (fun w hx => h_load (l := (cl29 y1.1)) tg29 (H.ext hx) q8 (k := 3) rfl rfl rfl) ?_
          refine t_call (l := []) rfl rfl is28 rfl (fun w hx hF => (curve_Base_c (H.ext hx).sub e10).mono (fun _ _ ⟨he, hx⟩ => ⟨he, hx⟩)) ?_
          refine t_v (fun w hx => r_eqR eg29 (by decide) (eqt29 y1.1 y10) rfl rfl) ?_
          refine t_v (fun w hx => r_move (v := .bool (((y1.1 : (UInt64 × UInt64 × UInt64 × UInt64) × (UInt64 × UInt64 × UInt64 × UInt64) × Bool) == (y10 : (UInt64 × UInt64 × UInt64 × UInt64) × (UInt64 × UInt64 × UInt64 × UInt64) × Bool)))) rfl) ?_
          refine t_valG rfl hb3 (fun w hx => r_move q9) rfl rfl ?_
          refine t_valG rfl hb3 (fun w hx => r_eqlI rfl rfl) rfl rfl ?_
          refine t_v (fun w hx => r_pickt (v := .bool ((y1.2 == 0))) rfl hb3 rfl) ?_
          refine t_v (fun w hx => r_move (v := .bool ((y1.2 == 0))) rfl) ?_
          refine t_valG rfl hb4 (fun w hx => r_move q10) rfl rfl ?_
          refine t_valG rfl hb4 (fun w hx => r_eqlI rfl rfl) rfl rfl ?_
          refine t_v (fun w hx => r_pickt (v := .bool ((y2.2 == 80))) rfl hb4 rfl) ?_
          refine t_v (fun w hx => r_move (v := .bool ((y2.2 == 80))) rfl) ?_
          refine t_valG rfl hb5 (fun w hx => r_move q11) rfl rfl ?_
          refine t_valG rfl hb5 (fun w hx => r_eqlI rfl rfl) rfl rfl ?_
          refine t_v (fun w hx => r_pickt (v := .bool ((y4.2 == 80))) rfl hb5 rfl) ?_
          refine t_v (fun w hx => r_move (v := .bool ((y4.2 == 80))) rfl) ?_
          refine t_valG rfl hb6 (fun w hx => r_move (v := .pointer (some ⟨pb1, 0, none⟩)) q12) rfl rfl ?_
          refine t_valG rfl hb6 (fun w hx => r_move (v := str (y9.1)) rfl) rfl rfl ?_
          refine t_valG rfl hb6 (fun w hx => r_move (v := str (y9.2)) rfl) rfl rfl ?_
          refine t_callG rfl hb6 (l := [.pointer (some ⟨pb1, 0, none⟩), str (y9.1), str (([115] : List UInt8)), str (y9.2)]) rfl rfl is29 rfl (fun w hx hF => (sign_Ring_Vouch_c (subMem w) (rpK (HS.blkAt (H.ext hx) (k := 0) rfl) (rpL (RdS.ofOwn (H.ext hx) (k := 1) rfl g1))) e11).mono (fun _ _ ⟨he, hx⟩ => ⟨he, hx⟩)) ?_
          refine t_v (fun w hx => r_pickt (v := .bool (y11)) rfl hb6 rfl) ?_
          refine t_v (fun w hx => r_move (v := .bool (y11)) rfl) ?_
          refine t_valG rfl hb7 (fun w hx => r_move (v := .pointer (some ⟨pb1, 0, none⟩)) q12) rfl rfl ?_
          refine t_valG rfl hb7 (fun w hx => r_move (v := str (y9.2)) rfl) rfl rfl ?_
          refine t_callG rfl hb7 (l := [.pointer (some ⟨pb1, 0, none⟩), str (([] : List UInt8)), str (([115] : List UInt8)), str (y9.2)]) rfl rfl is29 rfl (fun w hx hF => (sign_Ring_Vouch_c (subMem w) (rpK (HS.blkAt (H.ext hx) (k := 0) rfl) (rpL (RdS.ofOwn (H.ext hx) (k := 1) rfl g1))) e12).mono (fun _ _ ⟨he, hx⟩ => ⟨he, hx⟩)) ?_
          refine t_valG rfl hb7 (fun w hx => r_not (t := (!y12)) rfl rfl) rfl rfl ?_
          refine t_v (fun w hx => r_pickt (v := .bool ((!y12))) rfl hb7 rfl) ?_
          refine t_v (fun w hx => r_move (v := .bool ((!y12))) rfl) ?_
          refine t_valG rfl hb8 (fun w hx => h_load (l := (cl29 y1.1)) tg29 (H.ext hx) q8 (k := 3) rfl rfl rfl) rfl rfl ?_
          refine t_callG rfl hb8 (l := [.agg ((cl29 y1.1)).toArray, str (([] : List UInt8)), str (([] : List UInt8))]) rfl rfl is8 rfl (fun w hx hF => (sign_Verify_c (H.ext hx).sub e13).mono (fun _ _ ⟨he, hx⟩ => ⟨he, hx⟩)) ?_
          refine t_valG rfl hb8 (fun w hx => r_not (t := (!y13)) rfl rfl) rfl rfl ?_
          refine t_v (fun w hx => r_pickt (v := .bool ((!y13))) rfl hb8 rfl) ?_
          refine t_v (fun w hx => r_move (v := .bool ((!y13))) rfl) ?_
          refine t_v (fun w hx => r_pick (t := (bif (!y13) then true else false)) rfl rfl rfl rfl) ?_
          refine t_v (fun w hx => r_move (v := .bool ((bif (!y13) then true else false))) rfl) ?_
          refine t_v (fun w hx => r_pick (t := (bif (bif (!y13) then true else false) then true else false)) rfl rfl rfl rfl) ?_
          refine t_v (fun w hx => r_move (v := .bool ((bif (bif (!y13) then true else false) then true else false))) rfl) ?_
          refine t_v (fun w hx => r_pick (t := (bif (bif (bif (!y13) then true else false) then true else false) then true else false)) rfl rfl rfl rfl) ?_
          refine t_v (fun w hx => r_move (v := .bool ((bif (bif (bif (!y13) then true else false) then true else false) then true else false))) rfl) ?_
          refine t_v (fun w hx => r_pick (t := (bif (bif (bif (bif (!y13) then true else false) then true else false) then true else false) then true else false)) rfl rfl rfl rfl) ?_
          refine t_nil (fun w16 hx hF hA => ?_)
          replace H := H.ext hx; clear hx hF hA
          refine p_as (v := .bool ((bif (bif (bif (bif (!y13) then true else false) then true else false) then true else false) then true else false))) rfl ?_
          refine wpList_nil ?_; refine on_norm ?_
          refine xn hK12 ?_; clear hK12
          refine wp_ret ?_
          obtain rfl := Option.some.inj hF2
          refine e_1 rfl (q_tmp (v := .bool ((bif (bif (bif (bif (!y13) then true else false) then true else false) then true else false) then true else false))) rfl) ?_
          exact ⟨rfl, H.toExt⟩
         ·replace hF2 := cnd_f hF2 hb8
          apply wp_region_ext 40 (kindsF [(1, .inl (.agg ((cl29 y10)).toArray)), (19, .inl (.bool (y11))), (24, .inl (.bool (y12)))]) rfl rfl (by kernel_rfl); intro vs1
          simp only [List.take_succ_cons, List.take_zero, List.drop_succ_cons, List.drop_zero]
          replace H := H.drew
          refine t_v (fun w hx => h_load (l := (cl29 y1.1)) tg29 (H.ext hx) q8 (k := 3) rfl rfl rfl) ?_
          refine t_call (l := []) rfl rfl is28 rfl (fun w hx hF => (curve_Base_c (H.ext hx).sub e10).mono (fun _ _ ⟨he, hx⟩ => ⟨he, hx⟩)) ?_
          refine t_v (fun w hx => r_eqR eg29 (by decide) (eqt29 y1.1 y10) rfl rfl) ?_
          refine t_v (fun w hx => r_move (v := .bool (((y1.1 : (UInt64 × UInt64 × UInt64 × UInt64) × (UInt64 × UInt64 × UInt64 × UInt64) × Bool) == (y10 : (UInt64 × UInt64 × UInt64 × UInt64) × (UInt64 × UInt64 × UInt64 × UInt64) × Bool)))) rfl) ?_
          refine t_valG rfl hb3 (fun w hx => r_move q9) rfl rfl ?_
          refine t_valG rfl hb3 (fun w hx => r_eqlI rfl rfl) rfl rfl ?_
          refine t_v (fun w hx => r_pickt (v := .bool ((y1.2 == 0))) rfl hb3 rfl) ?_
          refine t_v (fun w hx => r_move (v := .bool ((y1.2 == 0))) rfl) ?_
          refine t_valG rfl hb4 (fun w hx => r_move q10) rfl rfl ?_
          refine t_valG rfl hb4 (fun w hx => r_eqlI rfl rfl) rfl rfl ?_
          refine t_v (fun w hx => r_pickt (v := .bool ((y2.2 == 80))) rfl hb4 rfl) ?_
          refine t_v (fun w hx => r_move (v := .bool ((y2.2 == 80))) rfl) ?_
          refine t_valG rfl hb5 (fun w hx => r_move q11) rfl rfl ?_
          refine t_valG rfl hb5 (fun w hx => r_eqlI rfl rfl) rfl rfl ?_
          refine t_v (fun w hx => r_pickt (v := .bool ((y4.2 == 80))) rfl hb5 rfl) ?_
          refine t_v (fun w hx => r_move (v := .bool ((y4.2 == 80))) rfl) ?_
          refine t_valG rfl hb6 (fun w hx => r_move (v := .pointer (some ⟨pb1, 0, none⟩)) q12) rfl rfl ?_
          refine t_valG rfl hb6 (fun w hx => r_move (v := str (y9.1)) rfl) rfl rfl ?_
          refine t_valG rfl hb6 (fun w hx => r_move (v := str (y9.2)) rfl) rfl rfl ?_
          refine t_callG rfl hb6 (l := [.pointer (some ⟨pb1, 0, none⟩), str (y9.1), str (([115] : List UInt8)), str (y9.2)]) rfl rfl is29 rfl (fun w hx hF => (sign_Ring_Vouch_c (subMem w) (rpK (HS.blkAt (H.ext hx) (k := 0) rfl) (rpL (RdS.ofOwn (H.ext hx) (k := 1) rfl g1))) e11).mono (fun _ _ ⟨he, hx⟩ => ⟨he, hx⟩)) ?_
          refine t_v (fun w hx => r_pickt (v := .bool (y11)) rfl hb6 rfl) ?_
          refine t_v (fun w hx => r_move (v := .bool (y11)) rfl) ?_
          refine t_valG rfl hb7 (fun w hx => r_move (v := .pointer (some ⟨pb1, 0, none⟩)) q12) rfl rfl ?_
          refine t_valG rfl hb7 (fun w hx => r_move (v := str (y9.2)) rfl) rfl rfl ?_
          refine t_callG rfl hb7 (l := [.pointer (some ⟨pb1, 0, none⟩), str (([] : List UInt8)), str (([115] : List UInt8)), str (y9.2)]) rfl rfl is29 rfl (fun w hx hF => (sign_Ring_Vouch_c (subMem w) (rpK (HS.blkAt (H.ext hx) (k := 0) rfl) (rpL (RdS.ofOwn (H.ext hx) (k := 1) rfl g1))) e12).mono (fun _ _ ⟨he, hx⟩ => ⟨he, hx⟩)) ?_
          refine t_valG rfl hb7 (fun w hx => r_not (t := (!y12)) rfl rfl) rfl rfl ?_
          refine t_v (fun w hx => r_pickt (v := .bool ((!y12))) rfl hb7 rfl) ?_
          refine t_v (fun w hx => r_move (v := .bool ((!y12))) rfl) ?_
          refine t_skip rfl hb8 rfl ?_
          rw [put_fr]
          refine t_skip rfl hb8 rfl ?_
          rw [put_fr]
          refine t_skip rfl hb8 rfl ?_
          rw [put_fr]
          refine t_v (fun w hx => r_pickf (v := .bool (false)) rfl hb8 rfl) ?_
          refine t_v (fun w hx => r_move (v := .bool (false)) rfl) ?_
          refine t_v (fun w hx => r_pickf (v := .bool (false)) rfl rfl rfl) ?_
          refine t_v (fun w hx => r_move (v := .bool (false)) rfl) ?_
          refine t_v (fun w hx => r_pickf (v := .bool (false)) rfl rfl rfl) ?_
          refine t_v (fun w hx => r_move (v := .bool (false)) rfl) ?_
          refine t_v (fun w hx => r_pickf (v := .bool (false)) rfl rfl rfl) ?_
          refine t_v (fun w hx => r_move (v := .bool (false)) rfl) ?_
          refine t_v (fun w hx => r_pickf (v := .bool (false)) rfl rfl rfl) ?_
          refine t_nil (fun w17 hx hF hA => ?_)
          replace H := H.ext hx; clear hx hF hA
          refine p_as (v := .bool (false)) rfl ?_
          refine wpList_nil ?_; refine on_norm ?_
          refine xn hK12 ?_; clear hK12
          refine wp_ret ?_
          obtain rfl := Option.some.inj hF2
          refine e_1 rfl (q_tmp (v := .bool (false)) rfl) ?_
          exact ⟨rfl, H.toExt⟩
        ·replace hF2 := cnd_f hF2 hb7
         apply wp_region_ext 40 (kindsF [(1, .inl (.agg ((cl29 y10)).toArray)), (19, .inl (.bool (y11)))]) rfl rfl (by kernel_rfl); intro vs1
         simp only [List.take_succ_cons, List.take_zero, List.drop_succ_cons, List.drop_zero]
         replace H := H.drew
         refine t_v (fun w hx => h_load (l := (cl29 y1.1)) tg29 (H.ext hx) q8 (k := 3) rfl rfl rfl) ?_
         refine t_call (l := []) rfl rfl is28 rfl (fun w hx hF => (curve_Base_c (H.ext hx).sub e10).mono (fun _ _ ⟨he, hx⟩ => ⟨he, hx⟩)) ?_
         refine t_v (fun w hx => r_eqR eg29 (by decide) (eqt29 y1.1 y10) rfl rfl) ?_
         refine t_v (fun w hx => r_move (v := .bool (((y1.1 : (UInt64 × UInt64 × UInt64 × UInt64) × (UInt64 × UInt64 × UInt64 × UInt64) × Bool) == (y10 : (UInt64 × UInt64 × UInt64 × UInt64) × (UInt64 × UInt64 × UInt64 × UInt64) × Bool)))) rfl) ?_
         refine t_valG rfl hb3 (fun w hx => r_move q9) rfl rfl ?_
         refine t_valG rfl hb3 (fun w hx => r_eqlI rfl rfl) rfl rfl ?_
         refine t_v (fun w hx => r_pickt (v := .bool ((y1.2 == 0))) rfl hb3 rfl) ?_
         refine t_v (fun w hx => r_move (v := .bool ((y1.2 == 0))) rfl) ?_
         refine t_valG rfl hb4 (fun w hx => r_move q10) rfl rfl ?_
         refine t_valG rfl hb4 (fun w hx => r_eqlI rfl rfl) rfl rfl ?_
         refine t_v (fun w hx => r_pickt (v := .bool ((y2.2 == 80))) rfl hb4 rfl) ?_
         refine t_v (fun w hx => r_move (v := .bool ((y2.2 == 80))) rfl) ?_
         refine t_valG rfl hb5 (fun w hx => r_move q11) rfl rfl ?_
         refine t_valG rfl hb5 (fun w hx => r_eqlI rfl rfl) rfl rfl ?_
         refine t_v (fun w hx => r_pickt (v := .bool ((y4.2 == 80))) rfl hb5 rfl) ?_
         refine t_v (fun w hx => r_move (v := .bool ((y4.2 == 80))) rfl) ?_
         refine t_valG rfl hb6 (fun w hx => r_move (v := .pointer (some ⟨pb1, 0, none⟩)) q12) rfl rfl ?_
         refine t_valG rfl hb6 (fun w hx => r_move (v := str (y9.1)) rfl) rfl rfl ?_
         refine t_valG rfl hb6 (fun w hx => r_move (v := str (y9.2)) rfl) rfl rfl ?_
         refine t_callG rfl hb6 (l := [.pointer (some ⟨pb1, 0, none⟩), str (y9.1), str (([115] : List UInt8)), str (y9.2)]) rfl rfl is29 rfl (fun w hx hF => (sign_Ring_Vouch_c (subMem w) (rpK (HS.blkAt (H.ext hx) (k := 0) rfl) (rpL (RdS.ofOwn (H.ext hx) (k := 1) rfl g1))) e11).mono (fun _ _ ⟨he, hx⟩ => ⟨he, hx⟩)) ?_
         refine t_v (fun w hx => r_pickt (v := .bool (y11)) rfl hb6 rfl) ?_
         refine t_v (fun w hx => r_move (v := .bool (y11)) rfl) ?_
         refine t_skip rfl hb7 rfl ?_
         rw [put_fr]
         refine t_skip rfl hb7 rfl ?_
         rw [put_fr]
         refine t_skip rfl hb7 rfl ?_
         rw [put_fr]
         refine t_skip rfl hb7 rfl ?_
         rw [put_fr]
         refine t_v (fun w hx => r_pickf (v := .bool (false)) rfl hb7 rfl) ?_
         refine t_v (fun w hx => r_move (v := .bool (false)) rfl) ?_
         refine t_skip rfl rfl rfl ?_
         rw [put_fr]
         refine t_skip rfl rfl rfl ?_
         rw [put_fr]
         refine t_skip rfl rfl rfl ?_
         rw [put_fr]
         refine t_v (fun w hx => r_pickf (v := .bool (false)) rfl rfl rfl) ?_
         refine t_v (fun w hx => r_move (v := .bool (false)) rfl) ?_
         refine t_v (fun w hx => r_pickf (v := .bool (false)) rfl rfl rfl) ?_
         refine t_v (fun w hx => r_move (v := .bool (false)) rfl) ?_
         refine t_v (fun w hx => r_pickf (v := .bool (false)) rfl rfl rfl) ?_
         refine t_v (fun w hx => r_move (v := .bool (false)) rfl) ?_
         refine t_v (fun w hx => r_pickf (v := .bool (false)) rfl rfl rfl) ?_
         refine t_v (fun w hx => r_move (v := .bool (false)) rfl) ?_
         refine t_v (fun w hx => r_pickf (v := .bool (false)) rfl rfl rfl) ?_
         refine t_nil (fun w18 hx hF hA => ?_)
         replace H := H.ext hx; clear hx hF hA
         refine p_as (v := .bool (false)) rfl ?_
         refine wpList_nil ?_; refine on_norm ?_
         refine xn hK12 ?_; clear hK12
         refine wp_ret ?_
         obtain rfl := Option.some.inj hF2
         refine e_1 rfl (q_tmp (v := .bool (false)) rfl) ?_
         exact ⟨rfl, H.toExt⟩
       ·replace hF2 := cnd_f hF2 hb6
        apply wp_region_ext 40 (kindsF [(1, .inl (.agg ((cl29 y10)).toArray))]) rfl rfl (by kernel_rfl); intro vs1
        simp only [List.take_succ_cons, List.take_zero, List.drop_succ_cons, List.drop_zero]
        replace H := H.drew
        refine t_v (fun w hx => h_load (l := (cl29 y1.1)) tg29 (H.ext hx) q8 (k := 3) rfl rfl rfl) ?_
        refine t_call (l := []) rfl rfl is28 rfl (fun w hx hF => (curve_Base_c (H.ext hx).sub e10).mono (fun _ _ ⟨he, hx⟩ => ⟨he, hx⟩)) ?_
        refine t_v (fun w hx => r_eqR eg29 (by decide) (eqt29 y1.1 y10) rfl rfl) ?_
        refine t_v (fun w hx => r_move (v := .bool (((y1.1 : (UInt64 × UInt64 × UInt64 × UInt64) × (UInt64 × UInt64 × UInt64 × UInt64) × Bool) == (y10 : (UInt64 × UInt64 × UInt64 × UInt64) × (UInt64 × UInt64 × UInt64 × UInt64) × Bool)))) rfl) ?_
        refine t_valG rfl hb3 (fun w hx => r_move q9) rfl rfl ?_
        refine t_valG rfl hb3 (fun w hx => r_eqlI rfl rfl) rfl rfl ?_
        refine t_v (fun w hx => r_pickt (v := .bool ((y1.2 == 0))) rfl hb3 rfl) ?_
        refine t_v (fun w hx => r_move (v := .bool ((y1.2 == 0))) rfl) ?_
        refine t_valG rfl hb4 (fun w hx => r_move q10) rfl rfl ?_
        refine t_valG rfl hb4 (fun w hx => r_eqlI rfl rfl) rfl rfl ?_
        refine t_v (fun w hx => r_pickt (v := .bool ((y2.2 == 80))) rfl hb4 rfl) ?_
        refine t_v (fun w hx => r_move (v := .bool ((y2.2 == 80))) rfl) ?_
        refine t_valG rfl hb5 (fun w hx => r_move q11) rfl rfl ?_
        refine t_valG rfl hb5 (fun w hx => r_eqlI rfl rfl) rfl rfl ?_
        refine t_v (fun w hx => r_pickt (v := .bool ((y4.2 == 80))) rfl hb5 rfl) ?_
        refine t_v (fun w hx => r_move (v := .bool ((y4.2 == 80))) rfl) ?_
        refine t_skip rfl hb6 rfl ?_
        rw [put_fr]
        refine t_skip rfl hb6 rfl ?_
        rw [put_fr]
        refine t_skip rfl hb6 rfl ?_
        rw [put_fr]
        refine t_skip rfl hb6 rfl ?_
        rw [put_fr]
        refine t_v (fun w hx => r_pickf (v := .bool (false)) rfl hb6 rfl) ?_
        refine t_v (fun w hx => r_move (v := .bool (false)) rfl) ?_
        refine t_skip rfl rfl rfl ?_
        rw [put_fr]
        refine t_skip rfl rfl rfl ?_
        rw [put_fr]
        refine t_skip rfl rfl rfl ?_
        rw [put_fr]
        refine t_skip rfl rfl rfl ?_
        rw [put_fr]
        refine t_v (fun w hx => r_pickf (v := .bool (false)) rfl rfl rfl) ?_
        refine t_v (fun w hx => r_move (v := .bool (false)) rfl) ?_
        refine t_skip rfl rfl rfl ?_
        rw [put_fr]
        refine t_skip rfl rfl rfl ?_
        rw [put_fr]
        refine t_skip rfl rfl rfl ?_
        rw [put_fr]
        refine t_v (fun w hx => r_pickf (v := .bool (false)) rfl rfl rfl) ?_
        refine t_v (fun w hx => r_move (v := .bool (false)) rfl) ?_
        refine t_v (fun w hx => r_pickf (v := .bool (false)) rfl rfl rfl) ?_
        refine t_v (fun w hx => r_move (v := .bool (false)) rfl) ?_
        refine t_v (fun w hx => r_pickf (v := .bool (false)) rfl rfl rfl) ?_
        refine t_v (fun w hx => r_move (v := .bool (false)) rfl) ?_
        refine t_v (fun w hx => r_pickf (v := .bool (false)) rfl rfl rfl) ?_
        refine t_v (fun w hx => r_move (v := .bool (false)) rfl) ?_
        refine t_v (fun w hx => r_pickf (v := .bool (false)) rfl rfl rfl) ?_
        refine t_nil (fun w19 hx hF hA => ?_)
        replace H := H.ext hx; clear hx hF hA
        refine p_as (v := .bool (false)) rfl ?_
        refine wpList_nil ?_; refine on_norm ?_
        refine xn hK12 ?_; clear hK12
        refine wp_ret ?_
        obtain rfl := Option.some.inj hF2
        refine e_1 rfl (q_tmp (v := .bool (false)) rfl) ?_
        exact ⟨rfl, H.toExt⟩
      ·replace hF2 := cnd_f hF2 hb5
       apply wp_region_ext 40 (kindsF [(1, .inl (.agg ((cl29 y10)).toArray))]) rfl rfl (by kernel_rfl); intro vs1
       simp only [List.take_succ_cons, List.take_zero, List.drop_succ_cons, List.drop_zero]
       replace H := H.drew
       refine t_v (fun w hx => h_load (l := (cl29 y1.1)) tg29 (H.ext hx) q8 (k := 3) rfl rfl rfl) ?_
       refine t_call (l := []) rfl rfl is28 rfl (fun w hx hF => (curve_Base_c (H.ext hx).sub e10).mono (fun _ _ ⟨he, hx⟩ => ⟨he, hx⟩)) ?_
       refine t_v (fun w hx => r_eqR eg29 (by decide) (eqt29 y1.1 y10) rfl rfl) ?_
       refine t_v (fun w hx => r_move (v := .bool (((y1.1 : (UInt64 × UInt64 × UInt64 × UInt64) × (UInt64 × UInt64 × UInt64 × UInt64) × Bool) == (y10 : (UInt64 × UInt64 × UInt64 × UInt64) × (UInt64 × UInt64 × UInt64 × UInt64) × Bool)))) rfl) ?_
       refine t_valG rfl hb3 (fun w hx => r_move q9) rfl rfl ?_
       refine t_valG rfl hb3 (fun w hx => r_eqlI rfl rfl) rfl rfl ?_
       refine t_v (fun w hx => r_pickt (v := .bool ((y1.2 == 0))) rfl hb3 rfl) ?_
       refine t_v (fun w hx => r_move (v := .bool ((y1.2 == 0))) rfl) ?_
       refine t_valG rfl hb4 (fun w hx => r_move q10) rfl rfl ?_
       refine t_valG rfl hb4 (fun w hx => r_eqlI rfl rfl) rfl rfl ?_
       refine t_v (fun w hx => r_pickt (v := .bool ((y2.2 == 80))) rfl hb4 rfl) ?_
       refine t_v (fun w hx => r_move (v := .bool ((y2.2 == 80))) rfl) ?_
       refine t_skip rfl hb5 rfl ?_
       rw [put_fr]
       refine t_skip rfl hb5 rfl ?_
       rw [put_fr]
       refine t_v (fun w hx => r_pickf (v := .bool (false)) rfl hb5 rfl) ?_
       refine t_v (fun w hx => r_move (v := .bool (false)) rfl) ?_
       refine t_skip rfl rfl rfl ?_
       rw [put_fr]
       refine t_skip rfl rfl rfl ?_
       rw [put_fr]
       refine t_skip rfl rfl rfl ?_
       rw [put_fr]
       refine t_skip rfl rfl rfl ?_
       rw [put_fr]
       refine t_v (fun w hx => r_pickf (v := .bool (false)) rfl rfl rfl) ?_
       refine t_v (fun w hx => r_move (v := .bool (false)) rfl) ?_
       refine t_skip rfl rfl rfl ?_
       rw [put_fr]
       refine t_skip rfl rfl rfl ?_
       rw [put_fr]
       refine t_skip rfl rfl rfl ?_
       rw [put_fr]
       refine t_skip rfl rfl rfl ?_
       rw [put_fr]
       refine t_v (fun w hx => r_pickf (v := .bool (false)) rfl rfl rfl) ?_
       refine t_v (fun w hx => r_move (v := .bool (false)) rfl) ?_
       refine t_skip rfl rfl rfl ?_
       rw [put_fr]
       refine t_skip rfl rfl rfl ?_
       rw [put_fr]
       refine t_skip rfl rfl rfl ?_
       rw [put_fr]
       refine t_v (fun w hx => r_pickf (v := .bool (false)) rfl rfl rfl) ?_
       refine t_v (fun w hx => r_move (v := .bool (false)) rfl) ?_
       refine t_v (fun w hx => r_pickf (v := .bool (false)) rfl rfl rfl) ?_
       refine t_v (fun w hx => r_move (v := .bool (false)) rfl) ?_
       refine t_v (fun w hx => r_pickf (v := .bool (false)) rfl rfl rfl) ?_
       refine t_v (fun w hx => r_move (v := .bool (false)) rfl) ?_
       refine t_v (fun w hx => r_pickf (v := .bool (false)) rfl rfl rfl) ?_
       refine t_v (fun w hx => r_move (v := .bool (false)) rfl) ?_
       refine t_v (fun w hx => r_pickf (v := .bool (false)) rfl rfl rfl) ?_
       refine t_nil (fun w20 hx hF hA => ?_)
       replace H := H.ext hx; clear hx hF hA
       refine p_as (v := .bool (false)) rfl ?_
       refine wpList_nil ?_; refine on_norm ?_
       refine xn hK12 ?_; clear hK12
       refine wp_ret ?_
       obtain rfl := Option.some.inj hF2
       refine e_1 rfl (q_tmp (v := .bool (false)) rfl) ?_
       exact ⟨rfl, H.toExt⟩
     ·replace hF2 := cnd_f hF2 hb4
      apply wp_region_ext 40 (kindsF [(1, .inl (.agg ((cl29 y10)).toArray))]) rfl rfl (by kernel_rfl); intro vs1
      simp only [List.take_succ_cons, List.take_zero, List.drop_succ_cons, List.drop_zero]
      replace H := H.drew
      refine t_v (fun w hx => h_load (l := (cl29 y1.1)) tg29 (H.ext hx) q8 (k := 3) rfl rfl rfl) ?_
      refine t_call (l := []) rfl rfl is28 rfl (fun w hx hF => (curve_Base_c (H.ext hx).sub e10).mono (fun _ _ ⟨he, hx⟩ => ⟨he, hx⟩)) ?_
      refine t_v (fun w hx => r_eqR eg29 (by decide) (eqt29 y1.1 y10) rfl rfl) ?_
      refine t_v (fun w hx => r_move (v := .bool (((y1.1 : (UInt64 × UInt64 × UInt64 × UInt64) × (UInt64 × UInt64 × UInt64 × UInt64) × Bool) == (y10 : (UInt64 × UInt64 × UInt64 × UInt64) × (UInt64 × UInt64 × UInt64 × UInt64) × Bool)))) rfl) ?_
      refine t_valG rfl hb3 (fun w hx => r_move q9) rfl rfl ?_
      refine t_valG rfl hb3 (fun w hx => r_eqlI rfl rfl) rfl rfl ?_
      refine t_v (fun w hx => r_pickt (v := .bool ((y1.2 == 0))) rfl hb3 rfl) ?_
      refine t_v (fun w hx => r_move (v := .bool ((y1.2 == 0))) rfl) ?_
      refine t_skip rfl hb4 rfl ?_
      rw [put_fr]
      refine t_skip rfl hb4 rfl ?_
      rw [put_fr]
      refine t_v (fun w hx => r_pickf (v := .bool (false)) rfl hb4 rfl) ?_
      refine t_v (fun w hx => r_move (v := .bool (false)) rfl) ?_
      refine t_skip rfl rfl rfl ?_
      rw [put_fr]
      refine t_skip rfl rfl rfl ?_
      rw [put_fr]
      refine t_v (fun w hx => r_pickf (v := .bool (false)) rfl rfl rfl) ?_
      refine t_v (fun w hx => r_move (v := .bool (false)) rfl) ?_
      refine t_skip rfl rfl rfl ?_
      rw [put_fr]
      refine t_skip rfl rfl rfl ?_
      rw [put_fr]
      refine t_skip rfl rfl rfl ?_
      rw [put_fr]
      refine t_skip rfl rfl rfl ?_
      rw [put_fr]
      refine t_v (fun w hx => r_pickf (v := .bool (false)) rfl rfl rfl) ?_
      refine t_v (fun w hx => r_move (v := .bool (false)) rfl) ?_
      refine t_skip rfl rfl rfl ?_
      rw [put_fr]
      refine t_skip rfl rfl rfl ?_
      rw [put_fr]
      refine t_skip rfl rfl rfl ?_
      rw [put_fr]
      refine t_skip rfl rfl rfl ?_
      rw [put_fr]
      refine t_v (fun w hx => r_pickf (v := .bool (false)) rfl rfl rfl) ?_
      refine t_v (fun w hx => r_move (v := .bool (false)) rfl) ?_
      refine t_skip rfl rfl rfl ?_
      rw [put_fr]
      refine t_skip rfl rfl rfl ?_
      rw [put_fr]
      refine t_skip rfl rfl rfl ?_
      rw [put_fr]
      refine t_v (fun w hx => r_pickf (v := .bool (false)) rfl rfl rfl) ?_
      refine t_v (fun w hx => r_move (v := .bool (false)) rfl) ?_
      refine t_v (fun w hx => r_pickf (v := .bool (false)) rfl rfl rfl) ?_
      refine t_v (fun w hx => r_move (v := .bool (false)) rfl) ?_
      refine t_v (fun w hx => r_pickf (v := .bool (false)) rfl rfl rfl) ?_
      refine t_v (fun w hx => r_move (v := .bool (false)) rfl) ?_
      refine t_v (fun w hx => r_pickf (v := .bool (false)) rfl rfl rfl) ?_
      refine t_v (fun w hx => r_move (v := .bool (false)) rfl) ?_
      refine t_v (fun w hx => r_pickf (v := .bool (false)) rfl rfl rfl) ?_
      refine t_nil (fun w21 hx hF hA => ?_)
      replace H := H.ext hx; clear hx hF hA
      refine p_as (v := .bool (false)) rfl ?_
      refine wpList_nil ?_; refine on_norm ?_
      refine xn hK12 ?_; clear hK12
      refine wp_ret ?_
      obtain rfl := Option.some.inj hF2
      refine e_1 rfl (q_tmp (v := .bool (false)) rfl) ?_
      exact ⟨rfl, H.toExt⟩
    ·replace hF2 := cnd_f hF2 hb3
     apply wp_region_ext 40 (kindsF [(1, .inl (.agg ((cl29 y10)).toArray))]) rfl rfl (by kernel_rfl); intro vs1
     simp only [List.take_succ_cons, List.take_zero, List.drop_succ_cons, List.drop_zero]
     replace H := H.drew
     refine t_v (fun w hx => h_load (l := (cl29 y1.1)) tg29 (H.ext hx) q8 (k := 3) rfl rfl rfl) ?_
     refine t_call (l := []) rfl rfl is28 rfl (fun w hx hF => (curve_Base_c (H.ext hx).sub e10).mono (fun _ _ ⟨he, hx⟩ => ⟨he, hx⟩)) ?_
     refine t_v (fun w hx => r_eqR eg29 (by decide) (eqt29 y1.1 y10) rfl rfl) ?_
     refine t_v (fun w hx => r_move (v := .bool (((y1.1 : (UInt64 × UInt64 × UInt64 × UInt64) × (UInt64 × UInt64 × UInt64 × UInt64) × Bool) == (y10 : (UInt64 × UInt64 × UInt64 × UInt64) × (UInt64 × UInt64 × UInt64 × UInt64) × Bool)))) rfl) ?_
     refine t_skip rfl hb3 rfl ?_
     rw [put_fr]
     refine t_skip rfl hb3 rfl ?_
     rw [put_fr]
     refine t_v (fun w hx => r_pickf (v := .bool (false)) rfl hb3 rfl) ?_
     refine t_v (fun w hx => r_move (v := .bool (false)) rfl) ?_
     refine t_skip rfl rfl rfl ?_
     rw [put_fr]
     refine t_skip rfl rfl rfl ?_
     rw [put_fr]
     refine t_v (fun w hx => r_pickf (v := .bool (false)) rfl rfl rfl) ?_
     refine t_v (fun w hx => r_move (v := .bool (false)) rfl) ?_
     refine t_skip rfl rfl rfl ?_
     rw [put_fr]
     refine t_skip rfl rfl rfl ?_
     rw [put_fr]
     refine t_v (fun w hx => r_pickf (v := .bool (false)) rfl rfl rfl) ?_
     refine t_v (fun w hx => r_move (v := .bool (false)) rfl) ?_
     refine t_skip rfl rfl rfl ?_
     rw [put_fr]
     refine t_skip rfl rfl rfl ?_
     rw [put_fr]
     refine t_skip rfl rfl rfl ?_
     rw [put_fr]
     refine t_skip rfl rfl rfl ?_
     rw [put_fr]
     refine t_v (fun w hx => r_pickf (v := .bool (false)) rfl rfl rfl) ?_
     refine t_v (fun w hx => r_move (v := .bool (false)) rfl) ?_
     refine t_skip rfl rfl rfl ?_
     rw [put_fr]
     refine t_skip rfl rfl rfl ?_
     rw [put_fr]
     refine t_skip rfl rfl rfl ?_
     rw [put_fr]
     refine t_skip rfl rfl rfl ?_
     rw [put_fr]
     refine t_v (fun w hx => r_pickf (v := .bool (false)) rfl rfl rfl) ?_
     refine t_v (fun w hx => r_move (v := .bool (false)) rfl) ?_
     refine t_skip rfl rfl rfl ?_
     rw [put_fr]
     refine t_skip rfl rfl rfl ?_
     rw [put_fr]
     refine t_skip rfl rfl rfl ?_
     rw [put_fr]
     refine t_v (fun w hx => r_pickf (v := .bool (false)) rfl rfl rfl) ?_
     refine t_v (fun w hx => r_move (v := .bool (false)) rfl) ?_
     refine t_v (fun w hx => r_pickf (v := .bool (false)) rfl rfl rfl) ?_
     refine t_v (fun w hx => r_move (v := .bool (false)) rfl) ?_
     refine t_v (fun w hx => r_pickf (v := .bool (false)) rfl rfl rfl) ?_
     refine t_v (fun w hx => r_move (v := .bool (false)) rfl) ?_
     refine t_v (fun w hx => r_pickf (v := .bool (false)) rfl rfl rfl) ?_
     refine t_v (fun w hx => r_move (v := .bool (false)) rfl) ?_
     refine t_v (fun w hx => r_pickf (v := .bool (false)) rfl rfl rfl) ?_
     refine t_nil (fun w22 hx hF hA => ?_)
     replace H := H.ext hx; clear hx hF hA
     refine p_as (v := .bool (false)) rfl ?_
     refine wpList_nil ?_; refine on_norm ?_
     refine xn hK12 ?_; clear hK12
     refine wp_ret ?_
     obtain rfl := Option.some.inj hF2
     refine e_1 rfl (q_tmp (v := .bool (false)) rfl) ?_
     exact ⟨rfl, H.toExt⟩
  refine p_gs (j := 12) (gvl_at rfl rfl (k3 38)) (fun hb2 => ?_) (fun hb2 => ?_)
  ·replace hE2 := cnd_t hE2 hb2
   refine p_skip (gvl_at rfl rfl (k3 38)) hb2 ?_
   rw [put_fr]
   refine p_skip (gvl_at rfl rfl (k3 38)) hb2 ?_
   rw [put_fr]
   refine p_skip (gvl_at rfl rfl (k3 38)) hb2 ?_
   rw [put_fr]
   refine p_skip (gvl_at rfl rfl (k3 38)) hb2 ?_
   rw [put_fr]
   refine p_val (r_pickt (v := .bool (true)) (k3 38) hb2 rfl) ?_
   refine hR8 _ _ ?_
   replace H : HS ⟨S, [], w⟩ S4 w12 [.blk pb1 (([v1])) 75, .osl (v1) (t1.2).length 1 cs1 rs1 71, .blk b2 ((cl29 y2.1)) 29, .blk b1 ((cl29 y1.1)) 29] := H
   obtain rfl := Option.some.inj hE2
   exact J1 _ _ (by (repeat (refine keep_cons rfl ?_)); exact fun _ _ => rfl) rfl H
  ·replace hE2 := cnd_f hE2 hb2
   refine p_want (gvl_at rfl rfl (k3 38)) hb2 ?_
   refine p_mv (v := .pointer (some ⟨pb1, 0, none⟩)) ((k3 7).trans q6) ?_
   refine p_want (gvl_at rfl rfl (k3 38)) hb2 ?_
   obtain ⟨y8, e8, hE2⟩ := bnd hE2
   refine p_call (l := [.pointer (some ⟨pb1, 0, none⟩)]) is14 rfl ?_
   refine (sign_Ring_Kids_c (HS.start (subMem w12)) (rpK (HS.blkAt H (k := 0) rfl) (rpL (RdS.ofOwn H (k := 1) rfl g1))) e8).mono ?_; rintro _ w13 ⟨S5, pv4, pcs4, prs4, rfl, H2, pg4⟩
   have H1 := H.joinNew H2; clear H H2; have H := H1; clear H1
   replace pg4 := RL.strs (T := S4) pg4
   replace H : HS ⟨S, [], w⟩ S4 w13 [.osl (pv4) (y8).length 1 pcs4 prs4 9, .blk pb1 (([v1])) 75, .osl (v1) (t1.2).length 1 cs1 rs1 71, .blk b2 ((cl29 y2.1)) 29, .blk b1 ((cl29 y1.1)) 29] := H
   refine p_want (gvl_at rfl rfl (k3 38)) hb2 ?_
   refine p_val (r_lenO u43 rfl H (k := 0) rfl rfl) ?_
   refine p_want (gvl_at rfl rfl (k3 38)) hb2 ?_
   refine p_val (r_neqI rfl rfl) ?_
   refine p_val (r_pickf (v := .bool ((((y8).length : Int) != 2))) (k3 38) hb2 rfl) ?_
   refine hR8 _ _ ?_
   replace H := H.sel [1, 2, 3, 4] rfl
   replace H : HS ⟨S, [], w⟩ S4 w13 [.blk pb1 (([v1])) 75, .osl (v1) (t1.2).length 1 cs1 rs1 71, .blk b2 ((cl29 y2.1)) 29, .blk b1 ((cl29 y1.1)) 29] := H
   obtain rfl := Option.some.inj hE2
   exact J1 _ _ (by (repeat (refine keep_cons rfl ?_)); exact fun _ _ => rfl) rfl H
 refine p_gs (j := 7) (gvl_at rfl rfl (k1 33)) (fun hb1 => ?_) (fun hb1 => ?_)
 ·replace hE1 := cnd_t hE1 hb1
  refine p_skip (gvl_at rfl rfl (k1 33)) hb1 ?_
  rw [put_fr]
  refine p_skip (gvl_at rfl rfl (k1 33)) hb1 ?_
  rw [put_fr]
  refine p_skip (gvl_at rfl rfl (k1 33)) hb1 ?_
  rw [put_fr]
  refine p_val (r_pickt (v := .bool (true)) (k1 33) hb1 rfl) ?_
  refine hR6 _ _ ?_
  replace H : HS ⟨S, [], w⟩ S2 w10 [.blk pb1 (([pv2])) 75, .osl (pv2) (y6.2).length 1 pcs2 prs2 71, .blk b2 ((cl29 y2.1)) 29, .blk b1 ((cl29 y1.1)) 29] := H
  obtain rfl := Option.some.inj hE1
  exact J2 _ _ _ _ _ _ (by (repeat (refine keep_cons rfl ?_)); exact fun _ _ => rfl) rfl (Mem.le_refl _) H pg2
 ·replace hE1 := cnd_f hE1 hb1
  refine p_want (gvl_at rfl rfl (k1 33)) hb1 ?_
  refine p_mv (v := .pointer (some ⟨pb1, 0, none⟩)) (k1 7) ?_
  refine p_want (gvl_at rfl rfl (k1 33)) hb1 ?_
  obtain ⟨y7, e7, hE1⟩ := bnd hE1
  refine p_call (l := [.pointer (some ⟨pb1, 0, none⟩), str (([98] : List UInt8))]) is27 rfl ?_
  refine (sign_Ring_Turn_c (H.hand [0, 1] rfl) pg2 e7).mono ?_; rintro _ w11 ⟨S3, pv3, pcs3, prs3, rfl, H2, pg3⟩
  obtain ⟨H1, hle3⟩ := H.frame [0, 1] [2, 3] rfl H2; clear H H2; have H := H1; clear H1
  replace H : HS ⟨S, [], w⟩ S3 w11 [.blk pb1 (([pv3])) 75, .osl (pv3) (y7.2).length 1 pcs3 prs3 71, .blk b2 ((cl29 y2.1)) 29, .blk b1 ((cl29 y1.1)) 29] := H
  refine p_want (gvl_at rfl rfl (k1 33)) hb1 ?_
  refine p_val (r_neqI rfl rfl) ?_
  refine p_val (r_pickf (v := .bool ((y7.1 != 0))) (k1 33) hb1 rfl) ?_
  refine hR6 _ _ ?_
  replace H : HS ⟨S, [], w⟩ S3 w11 [.blk pb1 (([pv3])) 75, .osl (pv3) (y7.2).length 1 pcs3 prs3 71, .blk b2 ((cl29 y2.1)) 29, .blk b1 ((cl29 y1.1)) 29] := H
  obtain rfl := Option.some.inj hE1
  exact J2 _ _ _ _ _ _ (by (repeat (refine keep_cons rfl ?_)); exact fun _ _ => rfl) rfl hle3 H pg3
noncomputable def seneschallaw08_SignFits_p (x0 : UInt64 × UInt64 × UInt64 × UInt64) (x1 : List UInt8) : Option (Bool) :=
  Option.bind (sign_Sign_p x0 x1) fun y1 => Option.bind (sign_Public_p x0) fun y2 => Option.bind (seneschallaw08_fixed_p) fun y3 => bif (!y3) then (some (false)) else (bif (y1.2 == 81) then (some ((bif (y1.1 == ([] : List UInt8)) then (y2.2 == 0) else false))) else (bif (y1.2 != 0) then (Option.bind (bif (bif (bif (y1.2 == 80) then (y2.2 == y1.2) else false) then (y1.1 == ([] : List UInt8)) else false) then (some (((y2.1 : (UInt64 × UInt64 × UInt64 × UInt64) × (UInt64 × UInt64 × UInt64 × UInt64) × Bool) == ((((0 : UInt64), (0 : UInt64), (0 : UInt64), (0 : UInt64)), ((0 : UInt64), (0 : UInt64), (0 : UInt64), (0 : UInt64)), false) : (UInt64 × UInt64 × UInt64 × UInt64) × (UInt64 × UInt64 × UInt64 × UInt64) × Bool)))) else (some (false))) (fun t1 => some (t1))) else (Option.bind (bif (bif (y2.2 != 0) then true else (((y1.1).length : Int) != 64)) then (some (true)) else (Option.bind (sign_Verify_p y2.1 x1 y1.1) fun y4 => some ((!y4)))) (fun t2 => bif t2 then (some (false)) else (Option.bind (subL y1.1 32) fun y5 => Option.bind (field_Of_p 1 y5) fun y6 => Option.bind (sign_Sign_p x0 x1) fun y7 => bif (y6.2 == 0) then (Option.bind (subH y1.1 32) fun y8 => Option.bind (field_Neg_p 1 y6.1) fun y9 => Option.bind (field_Bytes_p y9) fun y10 => Option.bind (app y8 y10) fun y11 => Option.bind (sign_Verify_p y2.1 x1 y11) fun y12 => bif y12 then (bif (y7.2 == 0) then (some ((y7.1 == y1.1))) else (some (false))) else (some (false))) else (some (false)))))))
theorem seneschallaw08_SignFits_c {S : Mem} {w : World} (hS : Sub S w) {x0 : UInt64 × UInt64 × UInt64 × UInt64} {x1 : List UInt8} {r : Bool} (hF : seneschallaw08_SignFits_p x0 x1 = some r) :
    Calls Try.prog 3 #[.agg ((cl24 x0)).toArray, str (x1)] w fun e w' => e = .returned (.bool (r)) ∧ Ext w w' := by
 refine enter (n := 100) Try.func3 rfl rfl rfl ?_
 have H := HS.start hS
 unfold seneschallaw08_SignFits_p at hF
 refine sr ?_; intro K1 hK1
 refine p_ofb (a_box (l := (cl24 x0)) H rfl) ?_; clear H; intro w1 b1 H
 refine p_as (v := .bool (false)) rfl ?_
 refine xk hK1 ?_; clear hK1
 refine sr ?_; intro K2 hK2
 refine p_val (h_load (l := (cl24 x0)) tg24 H rfl (k := 0) rfl rfl rfl) ?_
 refine p_mv (v := str (x1)) rfl ?_
 obtain ⟨y1, e1, hF⟩ := bnd hF
 refine p_call (l := [.agg ((cl24 x0)).toArray, str (x1)]) is5 rfl ?_
 refine (sign_Sign_c H.sub e1).mono ?_; rintro _ w2 ⟨rfl, hx⟩; replace H := H.ext hx; clear hx
 refine p_mv (v := .tuple #[str (y1.1), .int .i64 (y1.2)]) rfl ?_
 refine p_val (r_extract (v := str (y1.1)) rfl rfl) ?_
 refine p_val (r_extract (v := .int .i64 (y1.2)) rfl rfl) ?_
 refine p_as (v := str (y1.1)) rfl ?_
 refine p_as (v := .int .i64 (y1.2)) rfl ?_
 refine xk hK2 ?_; clear hK2
 refine sr ?_; intro K3 hK3
 refine p_val (h_load (l := (cl24 x0)) tg24 H rfl (k := 0) rfl rfl rfl) ?_
 obtain ⟨y2, e2, hF⟩ := bnd hF
 refine p_call (l := [.agg ((cl24 x0)).toArray]) is6 rfl ?_
 refine (sign_Public_c H.sub e2).mono ?_; rintro _ w3 ⟨rfl, hx⟩; replace H := H.ext hx; clear hx
 refine p_mv (v := .tuple #[.agg ((cl29 y2.1)).toArray, .int .i64 (y2.2)]) rfl ?_
 refine p_val (r_extract (v := .agg ((cl29 y2.1)).toArray) rfl rfl) ?_
 refine p_val (r_extract (v := .int .i64 (y2.2)) rfl rfl) ?_
 refine p_ofb (a_alloc (l := (cl29 (((0 : UInt64), (0 : UInt64), (0 : UInt64), (0 : UInt64)), ((0 : UInt64), (0 : UInt64), (0 : UInt64), (0 : UInt64)), false))) H tz29 rfl) ?_; clear H; intro w4 b2 H
 refine p_ofs (a_store (k := 0) (v := .agg ((cl29 y2.1)).toArray) (l := (cl29 y2.1)) tsz29 H rfl rfl rfl (cells_agg _) rfl (fun u hu => List.all_eq_true.1 (rfl : ((cl29 y2.1)).all (·.oneCell') = true) u hu) rfl) ?_; clear H; intro w5 H
 replace H : HS ⟨S, [], w⟩ S w5 [.blk b2 ((cl29 y2.1)) 29, .blk b1 ((cl24 x0)) 24] := H
 refine p_as (v := .int .i64 (y2.2)) rfl ?_
 refine xk hK3 ?_; clear hK3
 refine wp_seq_k ?_; intro K4 hK4
 refine sr ?_; intro K5 hK5
 obtain ⟨y3, e3, hF⟩ := bnd hF
 refine p_call (l := []) is7 rfl ?_
 refine (seneschallaw08_fixed_c H.sub e3).mono ?_; rintro _ w6 ⟨rfl, hx⟩; replace H := H.ext hx; clear hx
 refine p_val (r_not (t := (!y3)) rfl rfl) ?_
 refine xk hK5 ?_; clear hK5
 refine c_split (t := (!y3)) rfl (fun hc1 => ?_) (fun hc1 => ?_)
 ·replace hF := cnd_t hF hc1
  refine sr ?_; intro K6 hK6
  refine p_as (v := .bool (false)) rfl ?_
  refine xk hK6 ?_; clear hK6
  refine wp_ret ?_
  refine x_ret ?_
  obtain rfl := Option.some.inj hF
  refine e_1 rfl (q_tmp (v := .bool (false)) rfl) ?_
  exact ⟨rfl, H.toExt⟩
 ·replace hF := cnd_f hF hc1
  refine wp_skip ?_
  refine xn hK4 ?_; clear hK4
  refine wp_seq_k ?_; intro K7 hK7
  refine sr ?_; intro K8 hK8
  refine p_mv (v := .int .i64 (y1.2)) rfl ?_
  refine p_val (r_eqlI rfl rfl) ?_
  refine xk hK8 ?_; clear hK8
  refine c_split (t := (y1.2 == 81)) rfl (fun hc2 => ?_) (fun hc2 => ?_)
  ·replace hF := cnd_t hF hc2
   refine sr ?_; intro K9 hK9
   refine p_mv (v := str (y1.1)) rfl ?_
   refine p_val (r_eqT (t := (y1.1 == ([] : List UInt8))) rfl rfl rfl) ?_
   refine p_mv (v := .bool ((y1.1 == ([] : List UInt8)))) rfl ?_
   refine nameL fun m1 k1 => ?_
   refine gs_at 3 fun K10 hK10 R3 hR3 => ?_
   have J1 : ∀ (m2 : FM), (∀ t, has [31, 32, 33] t = false → look m2 t = look m1 t) → look m2 33 = .bool ((bif (y1.1 == ([] : List UInt8)) then (y2.2 == 0) else false)) → K10 m2 w6 := by
    intro m2 k2 q1
    refine hK10 _ _ ?_; clear hK10 hR3
    refine p_as q1 ?_
    refine xk hK9 ?_; clear hK9
    refine wp_ret ?_
    refine x_ret ?_
    obtain rfl := Option.some.inj hF
    refine e_1 rfl (q_tmp (v := .bool ((bif (y1.1 == ([] : List UInt8)) then (y2.2 == 0) else false))) rfl) ?_
    exact ⟨rfl, H.toExt⟩
   refine p_gs (j := 2) (gvl_at rfl rfl (k1 30)) (fun hb1 => ?_) (fun hb1 => ?_)
   ·skip
    refine p_want (gvl_at rfl rfl (k1 30)) hb1 ?_
    refine p_mv (k1 8) ?_
    refine p_want (gvl_at rfl rfl (k1 30)) hb1 ?_
    refine p_val (r_eqlI rfl rfl) ?_
    refine p_val (r_pickt (v := .bool ((y2.2 == 0))) (k1 30) hb1 rfl) ?_
    refine hR3 _ _ ?_
    exact J1 _ (by (repeat (refine keep_cons rfl ?_)); exact fun _ _ => rfl) (show (.bool ((y2.2 == 0)) : Value) = .bool ((bif (y1.1 == ([] : List UInt8)) then (y2.2 == 0) else false)) from congrArg Value.bool (by simp only [hb1, cond_true, cond_false]))
   ·skip
    refine p_skip (gvl_at rfl rfl (k1 30)) hb1 ?_
    rw [put_fr]
    refine p_skip (gvl_at rfl rfl (k1 30)) hb1 ?_
    rw [put_fr]
    refine p_val (r_pickf (v := .bool (false)) (k1 30) hb1 rfl) ?_
    refine hR3 _ _ ?_
    exact J1 _ (by (repeat (refine keep_cons rfl ?_)); exact fun _ _ => rfl) (show (.bool (false) : Value) = .bool ((bif (y1.1 == ([] : List UInt8)) then (y2.2 == 0) else false)) from congrArg Value.bool (by simp only [hb1, cond_true, cond_false]))
  ·replace hF := cnd_f hF hc2
   refine wp_skip ?_
   refine xn hK7 ?_; clear hK7
   refine wp_seq_k ?_; intro K11 hK11
   refine sr ?_; intro K12 hK12
   refine p_mv (v := .int .i64 (y1.2)) rfl ?_
   refine p_val (r_neqI rfl rfl) ?_
   refine xk hK12 ?_; clear hK12
   refine c_split (t := (y1.2 != 0)) rfl (fun hc3 => ?_) (fun hc3 => ?_)
   ·replace hF := cnd_t hF hc3
    refine sr ?_; intro K13 hK13
    refine p_mv (v := .int .i64 (y1.2)) rfl ?_
    refine p_val (r_eqlI rfl rfl) ?_
    refine p_mv (v := .bool ((y1.2 == 80))) rfl ?_
    refine nameL fun m3 k3 => ?_
    refine gs_at 4 fun K14 hK14 R4 hR4 => ?_
    have J2 : ∀ (m4 : FM), (∀ t, has [39, 40, 41, 42] t = false → look m4 t = look m3 t) → look m4 42 = .bool ((bif (y1.2 == 80) then (y2.2 == y1.2) else false)) → K14 m4 w6 := by
     intro m4 k4 q2
     have q3 : look m4 5 = str (y1.1) := (k4 5 rfl).trans (k3 5)
     have q4 : look m4 7 = .pointer (some ⟨b2, 0, none⟩) := (k4 7 rfl).trans (k3 7)
     refine hK14 _ _ ?_; clear hK14 hR4
     refine p_mv q2 ?_
     refine nameL fun m5 k5 => ?_
     refine gs_at 3 fun K15 hK15 R5 hR5 => ?_
     have J3 : ∀ (m6 : FM), (∀ t, has [44, 45, 46] t = false → look m6 t = look m5 t) → look m6 46 = .bool ((bif (bif (y1.2 == 80) then (y2.2 == y1.2) else false) then (y1.1 == ([] : List UInt8)) else false)) → K15 m6 w6 := by
      intro m6 k6 q5
      have q6 : look m6 7 = .pointer (some ⟨b2, 0, none⟩) := (k6 7 rfl).trans ((k5 7).trans q4)
      refine hK15 _ _ ?_; clear hK15 hR5
      refine p_mv q5 ?_
      refine nameL fun m7 k7 => ?_
      refine gs_at 4 fun K16 hK16 R6 hR6 => ?_
      obtain ⟨t1, hE1, hF1⟩ := bnd hF
      have J4 : ∀ (m8 : FM) (w7 : World), (∀ t, has [48, 49, 50, 51] t = false → look m8 t = look m7 t) → look m8 51 = .bool (t1) → HS ⟨S, [], w⟩ S w7 [.blk b2 ((cl29 y2.1)) 29, .blk b1 ((cl24 x0)) 24] → K16 m8 w7 := by
       clear H; intro m8 w7 k8 q7 H
       refine hK16 _ _ ?_
       refine p_as q7 ?_
       refine xk hK13 ?_; clear hK13
       refine wp_ret ?_
       refine x_ret ?_
       obtain rfl := Option.some.inj hF1
       refine e_1 rfl (q_tmp (v := .bool (t1)) rfl) ?_
       exact ⟨rfl, H.toExt⟩
      refine p_gs (j := 11) (gvl_at rfl rfl (k7 47)) (fun hb2 => ?_) (fun hb2 => ?_)
      ·replace hE1 := cnd_t hE1 hb2
       refine p_want (gvl_at rfl rfl (k7 47)) hb2 ?_
       refine p_val (h_load (l := (cl29 y2.1)) tg29 H ((k7 7).trans q6) (k := 0) rfl rfl rfl) ?_
       refine p_want (gvl_at rfl rfl (k7 47)) hb2 ?_
       refine p_val (r_build (vals := []) (l := (cl29 (((0 : UInt64), (0 : UInt64), (0 : UInt64), (0 : UInt64)), ((0 : UInt64), (0 : UInt64), (0 : UInt64), (0 : UInt64)), false))) tb29 rfl rfl) ?_
       refine p_want (gvl_at rfl rfl (k7 47)) hb2 ?_
       refine p_val (r_eqR eg29 (by decide) (eqt29 y2.1 (((0 : UInt64), (0 : UInt64), (0 : UInt64), (0 : UInt64)), ((0 : UInt64), (0 : UInt64), (0 : UInt64), (0 : UInt64)), false)) rfl rfl) ?_
       refine p_val (r_pickt (v := .bool (((y2.1 : (UInt64 × UInt64 × UInt64 × UInt64) × (UInt64 × UInt64 × UInt64 × UInt64) × Bool) == ((((0 : UInt64), (0 : UInt64), (0 : UInt64), (0 : UInt64)), ((0 : UInt64), (0 : UInt64), (0 : UInt64), (0 : UInt64)), false) : (UInt64 × UInt64 × UInt64 × UInt64) × (UInt64 × UInt64 × UInt64 × UInt64) × Bool)))) (k7 47) hb2 rfl) ?_
       refine hR6 _ _ ?_
       replace H : HS ⟨S, [], w⟩ S w6 [.blk b2 ((cl29 y2.1)) 29, .blk b1 ((cl24 x0)) 24] := H
       obtain rfl := Option.some.inj hE1
       exact J4 _ _ (by (repeat (refine keep_cons rfl ?_)); exact fun _ _ => rfl) rfl H
      ·replace hE1 := cnd_f hE1 hb2
       refine p_skip (gvl_at rfl rfl (k7 47)) hb2 ?_
       rw [put_fr]
       refine p_skip (gvl_at rfl rfl (k7 47)) hb2 ?_
       rw [put_fr]
       refine p_skip (gvl_at rfl rfl (k7 47)) hb2 ?_
       rw [put_fr]
       refine p_val (r_pickf (v := .bool (false)) (k7 47) hb2 rfl) ?_
       refine hR6 _ _ ?_
       replace H : HS ⟨S, [], w⟩ S w6 [.blk b2 ((cl29 y2.1)) 29, .blk b1 ((cl24 x0)) 24] := H
       obtain rfl := Option.some.inj hE1
       exact J4 _ _ (by (repeat (refine keep_cons rfl ?_)); exact fun _ _ => rfl) rfl H
     refine p_gs (j := 7) (gvl_at rfl rfl (k5 43)) (fun hb3 => ?_) (fun hb3 => ?_)
     ·skip
      refine p_want (gvl_at rfl rfl (k5 43)) hb3 ?_
      refine p_mv ((k5 5).trans q3) ?_
      refine p_want (gvl_at rfl rfl (k5 43)) hb3 ?_
      refine p_val (r_eqT (t := (y1.1 == ([] : List UInt8))) rfl rfl rfl) ?_
      refine p_val (r_pickt (v := .bool ((y1.1 == ([] : List UInt8)))) (k5 43) hb3 rfl) ?_
      refine hR5 _ _ ?_
      exact J3 _ (by (repeat (refine keep_cons rfl ?_)); exact fun _ _ => rfl) (show (.bool ((y1.1 == ([] : List UInt8))) : Value) = .bool ((bif (bif (y1.2 == 80) then (y2.2 == y1.2) else false) then (y1.1 == ([] : List UInt8)) else false)) from congrArg Value.bool (by simp only [hb3, cond_true, cond_false]))
     ·skip
      refine p_skip (gvl_at rfl rfl (k5 43)) hb3 ?_
      rw [put_fr]
      refine p_skip (gvl_at rfl rfl (k5 43)) hb3 ?_
      rw [put_fr]
      refine p_val (r_pickf (v := .bool (false)) (k5 43) hb3 rfl) ?_
      refine hR5 _ _ ?_
      exact J3 _ (by (repeat (refine keep_cons rfl ?_)); exact fun _ _ => rfl) (show (.bool (false) : Value) = .bool ((bif (bif (y1.2 == 80) then (y2.2 == y1.2) else false) then (y1.1 == ([] : List UInt8)) else false)) from congrArg Value.bool (by simp only [hb3, cond_true, cond_false]))
    refine p_gs (j := 2) (gvl_at rfl rfl (k3 38)) (fun hb4 => ?_) (fun hb4 => ?_)
    ·skip
     refine p_want (gvl_at rfl rfl (k3 38)) hb4 ?_
     refine p_mv (k3 8) ?_
     refine p_want (gvl_at rfl rfl (k3 38)) hb4 ?_
     refine p_mv (k3 6) ?_
     refine p_want (gvl_at rfl rfl (k3 38)) hb4 ?_
     refine p_val (r_eqlI rfl rfl) ?_
     refine p_val (r_pickt (v := .bool ((y2.2 == y1.2))) (k3 38) hb4 rfl) ?_
     refine hR4 _ _ ?_
     exact J2 _ (by (repeat (refine keep_cons rfl ?_)); exact fun _ _ => rfl) (show (.bool ((y2.2 == y1.2)) : Value) = .bool ((bif (y1.2 == 80) then (y2.2 == y1.2) else false)) from congrArg Value.bool (by simp only [hb4, cond_true, cond_false]))
    ·skip
     refine p_skip (gvl_at rfl rfl (k3 38)) hb4 ?_
     rw [put_fr]
     refine p_skip (gvl_at rfl rfl (k3 38)) hb4 ?_
     rw [put_fr]
     refine p_skip (gvl_at rfl rfl (k3 38)) hb4 ?_
     rw [put_fr]
     refine p_val (r_pickf (v := .bool (false)) (k3 38) hb4 rfl) ?_
     refine hR4 _ _ ?_
     exact J2 _ (by (repeat (refine keep_cons rfl ?_)); exact fun _ _ => rfl) (show (.bool (false) : Value) = .bool ((bif (y1.2 == 80) then (y2.2 == y1.2) else false)) from congrArg Value.bool (by simp only [hb4, cond_true, cond_false]))
   ·replace hF := cnd_f hF hc3
    refine wp_skip ?_
    refine xn hK11 ?_; clear hK11
    refine wp_seq_k ?_; intro K17 hK17
    refine sr ?_; intro K18 hK18
    refine p_mv (v := .int .i64 (y2.2)) rfl ?_
    refine p_val (r_neqI rfl rfl) ?_
    refine p_mv (v := .bool ((y2.2 != 0))) rfl ?_
    refine nameL fun m9 k9 => ?_
    refine gs_at 4 fun K19 hK19 R7 hR7 => ?_
    have J5 : ∀ (m10 : FM), (∀ t, has [55, 56, 57, 58] t = false → look m10 t = look m9 t) → look m10 58 = .bool ((bif (y2.2 != 0) then true else (((y1.1).length : Int) != 64))) → K19 m10 w6 := by
     intro m10 k10 q8
     have q9 : look m10 1 = str (x1) := (k10 1 rfl).trans (k9 1)
     have q10 : look m10 2 = .pointer (some ⟨b1, 0, none⟩) := (k10 2 rfl).trans (k9 2)
     have q11 : look m10 5 = str (y1.1) := (k10 5 rfl).trans (k9 5)
     have q12 : look m10 7 = .pointer (some ⟨b2, 0, none⟩) := (k10 7 rfl).trans (k9 7)
     refine hK19 _ _ ?_; clear hK19 hR7
     refine p_mv q8 ?_
     refine nameL fun m11 k11 => ?_
     refine gs_at 6 fun K20 hK20 R8 hR8 => ?_
     obtain ⟨t2, hE2, hF2⟩ := bnd hF
     have J6 : ∀ (m12 : FM) (w9 : World), (∀ t, has [60, 61, 62, 63, 64, 65] t = false → look m12 t = look m11 t) → look m12 65 = .bool (t2) → HS ⟨S, [], w⟩ S w9 [.blk b2 ((cl29 y2.1)) 29, .blk b1 ((cl24 x0)) 24] → K20 m12 w9 := by
      clear H; intro m12 w9 k12 q13 H
      have q14 : look m12 1 = str (x1) := (k12 1 rfl).trans ((k11 1).trans q9)
      have q15 : look m12 2 = .pointer (some ⟨b1, 0, none⟩) := (k12 2 rfl).trans ((k11 2).trans q10)
      have q16 : look m12 5 = str (y1.1) := (k12 5 rfl).trans ((k11 5).trans q11)
      have q17 : look m12 7 = .pointer (some ⟨b2, 0, none⟩) := (k12 7 rfl).trans ((k11 7).trans q12)
      refine hK20 _ _ ?_
      refine xk hK18 ?_; clear hK18
      refine c_split (t := t2) q13 (fun hc4 => ?_) (fun hc4 => ?_)
      ·replace hF2 := cnd_t hF2 hc4
       refine sr ?_; intro K21 hK21
       refine p_as (v := .bool (false)) rfl ?_
       refine xk hK21 ?_; clear hK21
       refine wp_ret ?_
       refine x_ret ?_
       obtain rfl := Option.some.inj hF2
       refine e_1 rfl (q_tmp (v := .bool (false)) rfl) ?_
       exact ⟨rfl, H.toExt⟩
      ·replace hF2 := cnd_f hF2 hc4
       refine wp_skip ?_
       refine xn hK17 ?_; clear hK17
       refine sr ?_; intro K22 hK22
       refine p_mv q16 ?_
       obtain ⟨y5, e5, hF2⟩ := bnd hF2
       refine p_val (r_sliceTL (p := (32 : Int).toNat) (r := y5) u9 rfl rfl (subL_some e5).1 (subL_some e5).2.1 (subL_some e5).2.2) ?_
       obtain ⟨y6, e6, hF2⟩ := bnd hF2
       refine p_call (l := [.int .i64 (1), str (y5)]) is9 rfl ?_
       refine (field_Of_c H.sub e6).mono ?_; rintro _ w10 ⟨rfl, hx⟩; replace H := H.ext hx; clear hx
       refine p_mv (v := .tuple #[.agg ((cl24 y6.1)).toArray, .int .i64 (y6.2)]) rfl ?_
       refine p_val (r_extract (v := .agg ((cl24 y6.1)).toArray) rfl rfl) ?_
       refine p_val (r_extract (v := .int .i64 (y6.2)) rfl rfl) ?_
       refine p_ofb (a_alloc (l := (cl24 ((0 : UInt64), (0 : UInt64), (0 : UInt64), (0 : UInt64)))) H tz24 rfl) ?_; clear H; intro w11 b3 H
       refine p_ofs (a_store (k := 0) (v := .agg ((cl24 y6.1)).toArray) (l := (cl24 y6.1)) tsz24 H rfl rfl rfl (cells_agg _) rfl (fun u hu => List.all_eq_true.1 (rfl : ((cl24 y6.1)).all (·.oneCell') = true) u hu) rfl) ?_; clear H; intro w12 H
       replace H : HS ⟨S, [], w⟩ S w12 [.blk b3 ((cl24 y6.1)) 24, .blk b2 ((cl29 y2.1)) 29, .blk b1 ((cl24 x0)) 24] := H
       refine p_as (v := .int .i64 (y6.2)) rfl ?_
       refine xk hK22 ?_; clear hK22
       refine sr ?_; intro K23 hK23
       refine p_val (h_load (l := (cl24 x0)) tg24 H q15 (k := 2) rfl rfl rfl) ?_
       refine p_mv q14 ?_
       obtain ⟨y7, e7, hF2⟩ := bnd hF2
       refine p_call (l := [.agg ((cl24 x0)).toArray, str (x1)]) is5 rfl ?_
       refine (sign_Sign_c H.sub e7).mono ?_; rintro _ w13 ⟨rfl, hx⟩; replace H := H.ext hx; clear hx
       refine p_mv (v := .tuple #[str (y7.1), .int .i64 (y7.2)]) rfl ?_
       refine p_val (r_extract (v := str (y7.1)) rfl rfl) ?_
       refine p_val (r_extract (v := .int .i64 (y7.2)) rfl rfl) ?_
       refine p_as (v := str (y7.1)) rfl ?_
       refine p_as (v := .int .i64 (y7.2)) rfl ?_
       refine xk hK23 ?_; clear hK23
       refine wp_seq_k ?_; intro K24 hK24
       rcases Bool.eq_false_or_eq_true ((y6.2 == 0)) with hb6 | hb6
       ·replace hF2 := cnd_t hF2 hb6
        obtain ⟨y8, e8, hF2⟩ := bnd hF2
        obtain ⟨y9, e9, hF2⟩ := bnd hF2
        obtain ⟨y10, e10, hF2⟩ := bnd hF2
        obtain ⟨y11, e11, hF2⟩ := bnd hF2
        obtain ⟨y12, e12, hF2⟩ := bnd hF2
        rcases Bool.eq_false_or_eq_true (y12) with hb7 | hb7
        ·replace hF2 := cnd_t hF2 hb7
         rcases Bool.eq_false_or_eq_true ((y7.2 == 0)) with hb8 | hb8
         ·replace hF2 := cnd_t hF2 hb8
          apply wp_region_ext 22 (kindsF [(8, .inl (.agg ((cl24 y9)).toArray)), (9, .inl (str (y10))), (11, .inl (.bool (y12)))]) rfl rfl (by kernel_rfl); intro vs1
          simp only [List.take_succ_cons, List.take_zero, List.drop_succ_cons, List.drop_zero]
          replace H := H.drew
          refine t_v (fun w hx => r_move (v := .int .i64 (y6.2)) rfl) ?_
          refine t_v (fun w hx => r_eqlI rfl rfl) ?_
          refine t_v (fun w hx => r_move (v := .bool ((y6.2 == 0))) rfl) ?_
          refine t_valG rfl hb6 (fun w hx => h_load (l := (cl29 y2.1)) tg29 (H.ext hx) q17 (k := 1) rfl rfl rfl) rfl rfl ?_
          refine t_valG rfl hb6 (fun w hx => r_move q14) rfl rfl ?_
          refine t_valG rfl hb6 (fun w hx => r_move q16) rfl rfl ?_
          refine t_valG rfl hb6 (fun w hx => r_sliceTH (h := (32 : Int).toNat) (r := y8) u9 rfl rfl (subH_some e8).1 (subH_some e8).2.1 (subH_some e8).2.2) rfl rfl ?_
          refine t_valG rfl hb6 (fun w hx => h_load (l := (cl24 y6.1)) tg24 (H.ext hx) rfl (k := 0) rfl rfl rfl) rfl rfl ?_
          refine t_callG rfl hb6 (l := [.int .i64 (1), .agg ((cl24 y6.1)).toArray]) rfl rfl is11 rfl (fun w hx hF => (field_Neg_c (H.ext hx).sub e9).mono (fun _ _ ⟨he, hx⟩ => ⟨he, hx⟩)) ?_
          refine t_callG rfl hb6 (l := [.agg ((cl24 y9)).toArray]) rfl rfl is10 rfl (fun w hx hF => (field_Bytes_c (H.ext hx).sub e10).mono (fun _ _ ⟨he, hx⟩ => ⟨he, hx⟩)) ?_
          refine t_valG rfl hb6 (fun w hx => r_cat (r := y11) rfl rfl (by have := (app_some e11).1; omega) (app_some e11).2) rfl rfl ?_
          refine t_callG rfl hb6 (l := [.agg ((cl29 y2.1)).toArray, str (x1), str (y11)]) rfl rfl is8 rfl (fun w hx hF => (sign_Verify_c (H.ext hx).sub e12).mono (fun _ _ ⟨he, hx⟩ => ⟨he, hx⟩)) ?_
          refine t_v (fun w hx => r_pickt (v := .bool (y12)) rfl hb6 rfl) ?_
          refine t_v (fun w hx => r_move (v := .bool (y12)) rfl) ?_
          refine t_valG rfl hb7 (fun w hx => r_move (v := .int .i64 (y7.2)) rfl) rfl rfl ?_
          refine t_valG rfl hb7 (fun w hx => r_eqlI rfl rfl) rfl rfl ?_
          refine t_v (fun w hx => r_pickt (v := .bool ((y7.2 == 0))) rfl hb7 rfl) ?_
          refine t_v (fun w hx => r_move (v := .bool ((y7.2 == 0))) rfl) ?_
          refine t_valG rfl hb8 (fun w hx => r_move (v := str (y7.1)) rfl) rfl rfl ?_
          refine t_valG rfl hb8 (fun w hx => r_move q16) rfl rfl ?_
          refine t_valG rfl hb8 (fun w hx => r_eqT (t := (y7.1 == y1.1)) rfl rfl rfl) rfl rfl ?_
          refine t_v (fun w hx => r_pickt (v := .bool ((y7.1 == y1.1))) rfl hb8 rfl) ?_
          refine t_nil (fun w14 hx hF hA => ?_)
          replace H := H.ext hx; clear hx hF hA
          refine p_as (v := .bool ((y7.1 == y1.1))) rfl ?_
          refine wpList_nil ?_; refine on_norm ?_
          refine xn hK24 ?_; clear hK24
          refine wp_ret ?_
          obtain rfl := Option.some.inj hF2
          refine e_1 rfl (q_tmp (v := .bool ((y7.1 == y1.1))) rfl) ?_
          exact ⟨rfl, H.toExt⟩
         ·replace hF2 := cnd_f hF2 hb8
          apply wp_region_ext 22 (kindsF [(8, .inl (.agg ((cl24 y9)).toArray)), (9, .inl (str (y10))), (11, .inl (.bool (y12)))]) rfl rfl (by kernel_rfl); intro vs1
          simp only [List.take_succ_cons, List.take_zero, List.drop_succ_cons, List.drop_zero]
          replace H := H.drew
          refine t_v (fun w hx => r_move (v := .int .i64 (y6.2)) rfl) ?_
          refine t_v (fun w hx => r_eqlI rfl rfl) ?_
          refine t_v (fun w hx => r_move (v := .bool ((y6.2 == 0))) rfl) ?_
          refine t_valG rfl hb6 (fun w hx => h_load (l := (cl29 y2.1)) tg29 (H.ext hx) q17 (k := 1) rfl rfl rfl) rfl rfl ?_
          refine t_valG rfl hb6 (fun w hx => r_move q14) rfl rfl ?_
          refine t_valG rfl hb6 (fun w hx => r_move q16) rfl rfl ?_
          refine t_valG rfl hb6 (fun w hx => r_sliceTH (h := (32 : Int).toNat) (r := y8) u9 rfl rfl (subH_some e8).1 (subH_some e8).2.1 (subH_some e8).2.2) rfl rfl ?_
          refine t_valG rfl hb6 (fun w hx => h_load (l := (cl24 y6.1)) tg24 (H.ext hx) rfl (k := 0) rfl rfl rfl) rfl rfl ?_
          refine t_callG rfl hb6 (l := [.int .i64 (1), .agg ((cl24 y6.1)).toArray]) rfl rfl is11 rfl (fun w hx hF => (field_Neg_c (H.ext hx).sub e9).mono (fun _ _ ⟨he, hx⟩ => ⟨he, hx⟩)) ?_
          refine t_callG rfl hb6 (l := [.agg ((cl24 y9)).toArray]) rfl rfl is10 rfl (fun w hx hF => (field_Bytes_c (H.ext hx).sub e10).mono (fun _ _ ⟨he, hx⟩ => ⟨he, hx⟩)) ?_
          refine t_valG rfl hb6 (fun w hx => r_cat (r := y11) rfl rfl (by have := (app_some e11).1; omega) (app_some e11).2) rfl rfl ?_
          refine t_callG rfl hb6 (l := [.agg ((cl29 y2.1)).toArray, str (x1), str (y11)]) rfl rfl is8 rfl (fun w hx hF => (sign_Verify_c (H.ext hx).sub e12).mono (fun _ _ ⟨he, hx⟩ => ⟨he, hx⟩)) ?_
          refine t_v (fun w hx => r_pickt (v := .bool (y12)) rfl hb6 rfl) ?_
          refine t_v (fun w hx => r_move (v := .bool (y12)) rfl) ?_
          refine t_valG rfl hb7 (fun w hx => r_move (v := .int .i64 (y7.2)) rfl) rfl rfl ?_
          refine t_valG rfl hb7 (fun w hx => r_eqlI rfl rfl) rfl rfl ?_
          refine t_v (fun w hx => r_pickt (v := .bool ((y7.2 == 0))) rfl hb7 rfl) ?_
          refine t_v (fun w hx => r_move (v := .bool ((y7.2 == 0))) rfl) ?_
          refine t_skip rfl hb8 rfl ?_
          rw [put_fr]
          refine t_skip rfl hb8 rfl ?_
          rw [put_fr]
          refine t_skip rfl hb8 rfl ?_
          rw [put_fr]
          refine t_v (fun w hx => r_pickf (v := .bool (false)) rfl hb8 rfl) ?_
          refine t_nil (fun w15 hx hF hA => ?_)
          replace H := H.ext hx; clear hx hF hA
          refine p_as (v := .bool (false)) rfl ?_
          refine wpList_nil ?_; refine on_norm ?_
          refine xn hK24 ?_; clear hK24
          refine wp_ret ?_
          obtain rfl := Option.some.inj hF2
          refine e_1 rfl (q_tmp (v := .bool (false)) rfl) ?_
          exact ⟨rfl, H.toExt⟩
        ·replace hF2 := cnd_f hF2 hb7
         apply wp_region_ext 22 (kindsF [(8, .inl (.agg ((cl24 y9)).toArray)), (9, .inl (str (y10))), (11, .inl (.bool (y12)))]) rfl rfl (by kernel_rfl); intro vs1
         simp only [List.take_succ_cons, List.take_zero, List.drop_succ_cons, List.drop_zero]
         replace H := H.drew
         refine t_v (fun w hx => r_move (v := .int .i64 (y6.2)) rfl) ?_
         refine t_v (fun w hx => r_eqlI rfl rfl) ?_
         refine t_v (fun w hx => r_move (v := .bool ((y6.2 == 0))) rfl) ?_
         refine t_valG rfl hb6 (fun w hx => h_load (l := (cl29 y2.1)) tg29 (H.ext hx) q17 (k := 1) rfl rfl rfl) rfl rfl ?_
         refine t_valG rfl hb6 (fun w hx => r_move q14) rfl rfl ?_
         refine t_valG rfl hb6 (fun w hx => r_move q16) rfl rfl ?_
         refine t_valG rfl hb6 (fun w hx => r_sliceTH (h := (32 : Int).toNat) (r := y8) u9 rfl rfl (subH_some e8).1 (subH_some e8).2.1 (subH_some e8).2.2) rfl rfl ?_
         refine t_valG rfl hb6 (fun w hx => h_load (l := (cl24 y6.1)) tg24 (H.ext hx) rfl (k := 0) rfl rfl rfl) rfl rfl ?_
         refine t_callG rfl hb6 (l := [.int .i64 (1), .agg ((cl24 y6.1)).toArray]) rfl rfl is11 rfl (fun w hx hF => (field_Neg_c (H.ext hx).sub e9).mono (fun _ _ ⟨he, hx⟩ => ⟨he, hx⟩)) ?_
         refine t_callG rfl hb6 (l := [.agg ((cl24 y9)).toArray]) rfl rfl is10 rfl (fun w hx hF => (field_Bytes_c (H.ext hx).sub e10).mono (fun _ _ ⟨he, hx⟩ => ⟨he, hx⟩)) ?_
         refine t_valG rfl hb6 (fun w hx => r_cat (r := y11) rfl rfl (by have := (app_some e11).1; omega) (app_some e11).2) rfl rfl ?_
         refine t_callG rfl hb6 (l := [.agg ((cl29 y2.1)).toArray, str (x1), str (y11)]) rfl rfl is8 rfl (fun w hx hF => (sign_Verify_c (H.ext hx).sub e12).mono (fun _ _ ⟨he, hx⟩ => ⟨he, hx⟩)) ?_
         refine t_v (fun w hx => r_pickt (v := .bool (y12)) rfl hb6 rfl) ?_
         refine t_v (fun w hx => r_move (v := .bool (y12)) rfl) ?_
         refine t_skip rfl hb7 rfl ?_
         rw [put_fr]
         refine t_skip rfl hb7 rfl ?_
         rw [put_fr]
         refine t_v (fun w hx => r_pickf (v := .bool (false)) rfl hb7 rfl) ?_
         refine t_v (fun w hx => r_move (v := .bool (false)) rfl) ?_
         refine t_skip rfl rfl rfl ?_
         rw [put_fr]
         refine t_skip rfl rfl rfl ?_
         rw [put_fr]
         refine t_skip rfl rfl rfl ?_
         rw [put_fr]
         refine t_v (fun w hx => r_pickf (v := .bool (false)) rfl rfl rfl) ?_
         refine t_nil (fun w16 hx hF hA => ?_)
         replace H := H.ext hx; clear hx hF hA
         refine p_as (v := .bool (false)) rfl ?_
         refine wpList_nil ?_; refine on_norm ?_
         refine xn hK24 ?_; clear hK24
         refine wp_ret ?_
         obtain rfl := Option.some.inj hF2
         refine e_1 rfl (q_tmp (v := .bool (false)) rfl) ?_
         exact ⟨rfl, H.toExt⟩
       ·replace hF2 := cnd_f hF2 hb6
        apply wp_region_ext 22 (kindsF []) rfl rfl (by kernel_rfl); intro vs1
        simp only [List.take_succ_cons, List.take_zero, List.drop_succ_cons, List.drop_zero]
        replace H := H.drew
        refine t_v (fun w hx => r_move (v := .int .i64 (y6.2)) rfl) ?_
        refine t_v (fun w hx => r_eqlI rfl rfl) ?_
        refine t_v (fun w hx => r_move (v := .bool ((y6.2 == 0))) rfl) ?_
        refine t_skip rfl hb6 rfl ?_
        rw [put_fr]
        refine t_skip rfl hb6 rfl ?_
        rw [put_fr]
        refine t_skip rfl hb6 rfl ?_
        rw [put_fr]
        refine t_skip rfl hb6 rfl ?_
        rw [put_fr]
        refine t_skip rfl hb6 rfl ?_
        rw [put_fr]
        refine t_skip rfl hb6 rfl ?_
        rw [put_fr]
        refine t_skip rfl hb6 rfl ?_
        rw [put_fr]
        refine t_skip rfl hb6 rfl ?_
        rw [put_fr]
        refine t_skip rfl hb6 rfl ?_
        rw [put_fr]
        refine t_v (fun w hx => r_pickf (v := .bool (false)) rfl hb6 rfl) ?_
        refine t_v (fun w hx => r_move (v := .bool (false)) rfl) ?_
        refine t_skip rfl rfl rfl ?_
        rw [put_fr]
        refine t_skip rfl rfl rfl ?_
        rw [put_fr]
        refine t_v (fun w hx => r_pickf (v := .bool (false)) rfl rfl rfl) ?_
        refine t_v (fun w hx => r_move (v := .bool (false)) rfl) ?_
        refine t_skip rfl rfl rfl ?_
        rw [put_fr]
        refine t_skip rfl rfl rfl ?_
        rw [put_fr]
        refine t_skip rfl rfl rfl ?_
        rw [put_fr]
        refine t_v (fun w hx => r_pickf (v := .bool (false)) rfl rfl rfl) ?_
        refine t_nil (fun w17 hx hF hA => ?_)
        replace H := H.ext hx; clear hx hF hA
        refine p_as (v := .bool (false)) rfl ?_
        refine wpList_nil ?_; refine on_norm ?_
        refine xn hK24 ?_; clear hK24
        refine wp_ret ?_
        obtain rfl := Option.some.inj hF2
        refine e_1 rfl (q_tmp (v := .bool (false)) rfl) ?_
        exact ⟨rfl, H.toExt⟩
     refine p_gs (j := 7) (gvl_at rfl rfl (k11 59)) (fun hb5 => ?_) (fun hb5 => ?_)
     ·replace hE2 := cnd_t hE2 hb5
      refine p_skip (gvl_at rfl rfl (k11 59)) hb5 ?_
      rw [put_fr]
      refine p_skip (gvl_at rfl rfl (k11 59)) hb5 ?_
      rw [put_fr]
      refine p_skip (gvl_at rfl rfl (k11 59)) hb5 ?_
      rw [put_fr]
      refine p_skip (gvl_at rfl rfl (k11 59)) hb5 ?_
      rw [put_fr]
      refine p_skip (gvl_at rfl rfl (k11 59)) hb5 ?_
      rw [put_fr]
      refine p_val (r_pickt (v := .bool (true)) (k11 59) hb5 rfl) ?_
      refine hR8 _ _ ?_
      replace H : HS ⟨S, [], w⟩ S w6 [.blk b2 ((cl29 y2.1)) 29, .blk b1 ((cl24 x0)) 24] := H
      obtain rfl := Option.some.inj hE2
      exact J6 _ _ (by (repeat (refine keep_cons rfl ?_)); exact fun _ _ => rfl) rfl H
     ·replace hE2 := cnd_f hE2 hb5
      refine p_want (gvl_at rfl rfl (k11 59)) hb5 ?_
      refine p_val (h_load (l := (cl29 y2.1)) tg29 H ((k11 7).trans q12) (k := 0) rfl rfl rfl) ?_
      refine p_want (gvl_at rfl rfl (k11 59)) hb5 ?_
      refine p_mv ((k11 1).trans q9) ?_
      refine p_want (gvl_at rfl rfl (k11 59)) hb5 ?_
      refine p_mv ((k11 5).trans q11) ?_
      refine p_want (gvl_at rfl rfl (k11 59)) hb5 ?_
      obtain ⟨y4, e4, hE2⟩ := bnd hE2
      refine p_call (l := [.agg ((cl29 y2.1)).toArray, str (x1), str (y1.1)]) is8 rfl ?_
      refine (sign_Verify_c H.sub e4).mono ?_; rintro _ w8 ⟨rfl, hx⟩; replace H := H.ext hx; clear hx
      refine p_want (gvl_at rfl rfl (k11 59)) hb5 ?_
      refine p_val (r_not (t := (!y4)) rfl rfl) ?_
      refine p_val (r_pickf (v := .bool ((!y4))) (k11 59) hb5 rfl) ?_
      refine hR8 _ _ ?_
      replace H : HS ⟨S, [], w⟩ S w8 [.blk b2 ((cl29 y2.1)) 29, .blk b1 ((cl24 x0)) 24] := H
      obtain rfl := Option.some.inj hE2
      exact J6 _ _ (by (repeat (refine keep_cons rfl ?_)); exact fun _ _ => rfl) rfl H
    refine p_gs (j := 2) (gvl_at rfl rfl (k9 54)) (fun hb9 => ?_) (fun hb9 => ?_)
    ·skip
     refine p_skip (gvl_at rfl rfl (k9 54)) hb9 ?_
     rw [put_fr]
     refine p_skip (gvl_at rfl rfl (k9 54)) hb9 ?_
     rw [put_fr]
     refine p_skip (gvl_at rfl rfl (k9 54)) hb9 ?_
     rw [put_fr]
     refine p_val (r_pickt (v := .bool (true)) (k9 54) hb9 rfl) ?_
     refine hR7 _ _ ?_
     exact J5 _ (by (repeat (refine keep_cons rfl ?_)); exact fun _ _ => rfl) (show (.bool (true) : Value) = .bool ((bif (y2.2 != 0) then true else (((y1.1).length : Int) != 64))) from congrArg Value.bool (by simp only [hb9, cond_true, cond_false]))
    ·skip
     refine p_want (gvl_at rfl rfl (k9 54)) hb9 ?_
     refine p_mv (k9 5) ?_
     refine p_want (gvl_at rfl rfl (k9 54)) hb9 ?_
     refine p_val (r_lenT (N := (y1.1).length) u9 rfl rfl) ?_
     refine p_want (gvl_at rfl rfl (k9 54)) hb9 ?_
     refine p_val (r_neqI rfl rfl) ?_
     refine p_val (r_pickf (v := .bool ((((y1.1).length : Int) != 64))) (k9 54) hb9 rfl) ?_
     refine hR7 _ _ ?_
     exact J5 _ (by (repeat (refine keep_cons rfl ?_)); exact fun _ _ => rfl) (show (.bool ((((y1.1).length : Int) != 64)) : Value) = .bool ((bif (y2.2 != 0) then true else (((y1.1).length : Int) != 64))) from congrArg Value.bool (by simp only [hb9, cond_true, cond_false]))
end Go.Proofs.Ytmbcolbbekbccaa
