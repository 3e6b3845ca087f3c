/- What some functions compute, and that they do. Conditions: as each theorem says. -/
import Derived.Test.YtmbcolbbekbccaaGreatRows
import Derived.Test.YtmbcolbbekbccaaGreatQvG
namespace Go.Proofs.YtmbcolbbekbccaaGreat
open Go Go.RowKit
attribute [local irreducible] wpList wpT Code.wp Calls Code.rounds
theorem to9 : TOne Tryz.prog 9 := ⟨fun _ => by kernel_rfl, fun _ => by kernel_rfl⟩
theorem to99 : TOne Tryz.prog 99 := ⟨fun _ => by kernel_rfl, fun _ => by kernel_rfl⟩
theorem to101 : TOne Tryz.prog 101 := ⟨fun _ => by kernel_rfl, fun _ => by kernel_rfl⟩
theorem tz103 : TZero Tryz.prog 103 (.agg #[.slice none 0 0]) := fun _ => by kernel_rfl
theorem tz117 : TZero Tryz.prog 117 (.agg #[str [], str [], str [], .int .u64 0, .int .u64 0, .int .u64 0, .int .u64 0, .int .u32 0, .int .i32 0, .int .u32 0, .int .u64 0, .int .u64 0, .int .u64 0, .int .u64 0, .int .u64 0, .int .u64 0, .int .u64 0, .int .u64 0, .bool false]) := fun _ => by kernel_rfl
theorem u99 : Tryz.prog.underlying 99 = some (.pointer 117) := by kernel_rfl
theorem u101 : Tryz.prog.underlying 101 = some (.slice 99) := by kernel_rfl
theorem eg99 : Tryz.prog.eqGuardType Tryz.prog.depth 99 = false := by kernel_rfl
theorem is46 : IsFn Tryz.prog 46 := isFn Tryz.func46
theorem is72 : IsFn Tryz.prog 72 := isFn Tryz.func72
theorem is73 : IsFn Tryz.prog 73 := isFn Tryz.func73
theorem is76 : IsFn Tryz.prog 76 := isFn Tryz.func76
theorem is79 : IsFn Tryz.prog 79 := isFn Tryz.func79
theorem is129 : IsFn Tryz.prog 129 := isFn Tryz.func129
theorem tb103 : TBuild Tryz.prog 103 (.agg #[.slice none 0 0]) [(0, 1)] := tbuildS (fs := fieldsOf Tryz.prog 103) (by kernel_rfl) tz103 (fun _ => by kernel_rfl)
theorem tb117 : TBuild Tryz.prog 117 (.agg #[str [], str [], str [], .int .u64 0, .int .u64 0, .int .u64 0, .int .u64 0, .int .u32 0, .int .i32 0, .int .u32 0, .int .u64 0, .int .u64 0, .int .u64 0, .int .u64 0, .int .u64 0, .int .u64 0, .int .u64 0, .int .u64 0, .bool false]) [(0, 1), (1, 1), (2, 1), (3, 4), (7, 3), (10, 9)] := tbuildS (fs := fieldsOf Tryz.prog 117) (by kernel_rfl) tz117 (fun _ => by kernel_rfl)
theorem fa103_0 : TField Tryz.prog 103 0 0 := fun _ _ _ => by kernel_rfl
theorem fa117_1 : TField Tryz.prog 117 1 1 := fun _ _ _ => by kernel_rfl
theorem fa117_2 : TField Tryz.prog 117 2 2 := fun _ _ _ => by kernel_rfl
theorem tn40 : TSn Tryz.prog 40 9 (str []) [str []] 16 1 := TSn.mk' (by kernel_rfl) (by kernel_rfl) rfl rfl rfl rfl
theorem tn101 : TSn Tryz.prog 101 99 (.pointer none) [.pointer none] 8 1 := TSn.mk' (by kernel_rfl) (by kernel_rfl) rfl rfl rfl rfl
def cl117 (x : (List UInt8) × (List UInt8) × (List UInt8) × Qw × Onc × Qp) : List Value := [str (x.1)] ++ ([str (x.2.1)] ++ ([str (x.2.2.1)] ++ (cl24 x.2.2.2.1 ++ ((x.2.2.2.2.1).l ++ (cl26 x.2.2.2.2.2)))))
theorem rp117c {S : Mem} (x : (List UInt8) × (List UInt8) × (List UInt8) × Qw × Onc × Qp) : Rp.rep S (cl117 x) x := rpP (rpT) (rpP (rpT) (rpP (rpT) (rpP (rp24c _) (rpP (rpOnc _) (rp26c _)))))
theorem el117c {S : Mem} {c : List Value} {x : (List UInt8) × (List UInt8) × (List UInt8) × Qw × Onc × Qp} (h : Rp.rep S c x) : c = cl117 x := by
  obtain ⟨c0, d0, rfl, h0, k1⟩ := elP h; obtain rfl := elT h0
  obtain ⟨c1, d1, rfl, h1, k2⟩ := elP k1; obtain rfl := elT h1
  obtain ⟨c2, d2, rfl, h2, k3⟩ := elP k2; obtain rfl := elT h2
  obtain ⟨c3, d3, rfl, h3, k4⟩ := elP k3; obtain rfl := el24c h3
  obtain ⟨c4, d4, rfl, h4, k5⟩ := elP k4; obtain rfl := elOnc h4
  obtain rfl := el26c k5; rfl
theorem tsz99 : TSz Tryz.prog 99 1 := fun _ => by kernel_rfl
theorem tsz101 : TSz Tryz.prog 101 1 := fun _ => by kernel_rfl
def sign_Sign_p (x0 : Qw) (x1 : List UInt8) : Option ((List UInt8) × Int) :=
  Option.bind (sign_fine_p x0) fun y1 => bif (!y1) then (some ((([] : List UInt8), 80))) else (none)
theorem sign_Sign_c {S : Mem} {w : World} (hS : Sub S w) {x0 : Qw} {x1 : List UInt8} {r : (List UInt8) × Int} (hF : sign_Sign_p x0 x1 = some r) :
    Calls Tryz.prog 12 #[.agg ((cl24 x0)).toArray, str (x1)] w fun e w' => e = .returned (.tuple #[str (r.1), .int .i64 (r.2)]) ∧ Ext w w' := by
 refine enter (n := 99) Tryz.func12 rfl rfl rfl ?_
 have H := HS.start hS
 unfold sign_Sign_p at hF
 refine sr fun K1 hK1 => p_ofb (a_box (l := (cl24 x0)) H rfl) fun w1 b1 H => asT rfl <| asI rfl <| xk hK1 <| wp_seq_k fun K2 hK2 => sr fun K3 hK3 => p_val (h_load (l := (cl24 x0)) tg24 H rfl (k := 0) rfl rfl rfl) <| bn hF fun y1 e1 hF => ?_
 refine p_call (l := [.agg ((cl24 x0)).toArray]) is34 rfl <| (sign_fine_c H.sub e1).mono <| H.xe fun w2 H => p_val (r_not (t := (!y1)) rfl rfl) <| xk hK3 ?_
 refine c_split rfl (fun hc1 => ?_) (fun hc1 => ?_)
 ·replace hF := cnd_t hF hc1
  refine sr fun K4 hK4 => asT rfl <| asI rfl <| xk hK4 <| wp_ret <| x_ret ?_
  obtain rfl := osi hF
  refine e_2 rfl (q_tmp rfl) (q_tmp rfl) ?_
  exact ⟨rfl, H.toExt⟩
 ·replace hF := cnd_f hF hc1
  refine wp_skip <| xn hK2 <| wp_seq_k fun K5 hK5 => ?_
  exact nomatch hF
noncomputable def sign_made_p (x0 : List UInt8) : Option ((Option ((List UInt8) × (List UInt8) × (List UInt8) × Qw × Onc × Qp))) :=
  Option.bind (hash_Mac_p ([107, 101, 121] : List UInt8) x0) fun y1 => Option.bind (field_Reduce_p 1 y1) fun y2 => Option.bind (Option.bind (sign_zero_p) fun y3 => bif ((y2 : Qw) == (y3 : Qw)) then (some (((1 : UInt64), (0 : UInt64), (0 : UInt64), (0 : UInt64)))) else (some ((y2.1, y2.2.1, y2.2.2.1, y2.2.2.2)))) (fun t1 => Option.bind (hash_Mac_p ([107, 105, 100] : List UInt8) x0) fun y4 => Option.bind (subH y4 9) fun y5 => Option.bind (codec_Base64_p y5) fun y6 => Option.bind (hash_Mac_p ([109, 97, 99] : List UInt8) x0) fun y7 => some ((some (x0, y6, y7, t1, onc0, (((0 : UInt64), (0 : UInt64), (0 : UInt64), (0 : UInt64)), ((0 : UInt64), (0 : UInt64), (0 : UInt64), (0 : UInt64)), false)))))
theorem sign_made_c {S : Mem} {w : World} (hS : Sub S w) {x0 : List UInt8} {r : (Option ((List UInt8) × (List UInt8) × (List UInt8) × Qw × Onc × Qp))} (hF : sign_made_p x0 = some r) :
    Calls Tryz.prog 72 #[str (x0)] w fun e w' => Ext w w' ∧ ∃ (v0' : Value), e = .returned (v0') ∧ Rp.rep (gr S w w') [v0'] r := by
 refine enter (n := 21) Tryz.func72 rfl rfl rfl ?_
 have H := HS.start hS
 unfold sign_made_p at hF
 refine sr fun K1 hK1 => asP rfl <| xk hK1 <| sr fun K2 hK2 => mvT rfl <| bn hF fun y1 e1 hF => p_call (l := [str (([107, 101, 121] : List UInt8)), str (x0)]) is46 rfl <| (hash_Mac_c H.sub e1).mono <| H.xe fun w1 H => bn hF fun y2 e2 hF => ?_
 refine p_call (l := [.int .i64 (1), str (y1)]) is86 rfl <| (field_Reduce_c H.sub e2).mono <| H.xe fun w2 H => p_ofb (a_alloc (l := (cl24 ((0 : UInt64), (0 : UInt64), (0 : UInt64), (0 : UInt64)))) H tz24 rfl) fun w3 b1 H => p_ofs (a_store (k := 0) (l := (cl24 y2)) tsz24 H rfl rfl rfl (cells_agg _) rfl (onz rfl) rfl) fun w4 H => ?_
 replace H := hsn H
 refine xk hK2 <| wp_seq_k fun K3 hK3 => nameF fun m1 k1 => bn hF fun t1 hE1 hF1 => ?_
 have J1 : ∀ (m2 : FM) (w7 : World), (∀ t, has [7, 8, 9, 10] t = false → look m2 t = look m1 t) → HS ⟨S, [], w⟩ S w7 [.blk b1 ((cl24 t1)) 24] → K3 (fr 21 m2) w7 := by
  clear H; intro m2 w7 k2 H
  have q1 : look m2 0 = str (x0) := (k2 0 rfl).trans (k1 0)
  have q2 : look m2 3 = .pointer (some ⟨b1, 0, none⟩) := (k2 3 rfl).trans (k1 3)
  refine hK3 _ _ <| wp_seq_k fun K5 hK5 => bn hF1 fun y4 e4 hF1 => bn hF1 fun y5 e5 hF1 => bn hF1 fun y6 e6 hF1 => bn hF1 fun y7 e7 hF1 => ?_
  apply wp_region_ext 9 (kindsF [(2, .inl (str (y4))), (4, .inl (str (y6))), (6, .inl (str (y7)))]) rfl rfl (by kernel_rfl); intro vs2
  simp only [tkS, tkZ, drS, drZ]
  replace H := H.drew
  refine tp (r_move q1) <| tp (r_move q1) <| t_call (l := [str (([107, 105, 100] : List UInt8)), str (x0)]) rfl rfl is46 rfl (fun w hx hF => (hash_Mac_c (H.ext hx).sub e4).mono (fun _ _ h => h)) <| tp (r_sliceTH (h := (9 : Int).toNat) (r := y5) u9 rfl rfl (subH_some e5).1 (subH_some e5).2.1 (subH_some e5).2.2) ?_
  refine t_call (l := [str (y5)]) rfl rfl is129 rfl (fun w hx hF => (codec_Base64_c (H.ext hx).sub e6).mono (fun _ _ h => h)) <| tp (r_move q1) <| t_call (l := [str (([109, 97, 99] : List UInt8)), str (x0)]) rfl rfl is46 rfl (fun w hx hF => (hash_Mac_c (H.ext hx).sub e7).mono (fun _ _ h => h)) <| t_v (fun w hx => h_load (l := (cl24 t1)) tg24 (H.ext hx) q2 (k := 0) rfl rfl rfl) ?_
  refine tp (r_build (vals := [(0, str (x0)), (1, str (y6)), (2, str (y7)), (3, .agg ((cl24 t1)).toArray)]) (l := (cl117 (x0, y6, y7, t1, onc0, (((0 : UInt64), (0 : UInt64), (0 : UInt64), (0 : UInt64)), ((0 : UInt64), (0 : UInt64), (0 : UInt64), (0 : UInt64)), false)))) tb117 rfl rfl) ?_
  refine t_nil (fun w8 hx hF hA => ?_)
  replace H := H.ext hx; clear hx hF hA
  refine p_ofb (a_box (l := (cl117 (x0, y6, y7, t1, onc0, (((0 : UInt64), (0 : UInt64), (0 : UInt64), (0 : UInt64)), ((0 : UInt64), (0 : UInt64), (0 : UInt64), (0 : UInt64)), false)))) H rfl) fun w9 b2 H => asP rfl ?_
  refine wpList_nil ?_; refine on_norm ?_
  refine xn hK5 <| wp_ret ?_
  obtain ⟨S1, hle1, ha1, H1⟩ := H.fixB (k := 0) rfl; clear H; have H := H1; clear H1
  have g1 : Rp.rep S1 [.pointer (some ⟨b2, 0, none⟩)] (some (x0, y6, y7, t1, onc0, (((0 : UInt64), (0 : UInt64), (0 : UInt64), (0 : UInt64)), ((0 : UInt64), (0 : UInt64), (0 : UInt64), (0 : UInt64)), false)) : Option ((List UInt8) × (List UInt8) × (List UInt8) × Qw × Onc × Qp)) := rpK (CellAt.whole ha1) (Rp.mono (rp117c _) hle1); clear ha1
  replace H := hsn H
  obtain rfl := osi hF1
  refine e_1 rfl (q_tmp rfl) ?_
  exact ⟨H.toExt, _, rfl, Rp.mono g1 H.gr⟩
 refine wp_seq_k fun K4 hK4 => bn hE1 fun y3 e3 hE1 => ?_
 apply wp_region_ext 3 (kindsF [(1, .inl (.agg ((cl24 y3)).toArray))]) rfl rfl (by kernel_rfl); intro vs1
 simp only [tkS, tkZ, drS, drZ]
 replace H := H.drew
 refine t_v (fun w hx => h_load (l := (cl24 y2)) tg24 (H.ext hx) (k1 3) (k := 0) rfl rfl rfl) <| t_call (l := []) rfl rfl is48 rfl (fun w hx hF => (sign_zero_c (H.ext hx).sub e3).mono (fun _ _ h => h)) <| tp (r_eqR eg24 (by decide) (eqt24 y2 y3) rfl rfl) ?_
 refine t_nil (fun w5 hx hF hA => ?_)
 replace H := H.ext hx; clear hx hF hA
 refine wpList_nil ?_; refine on_norm ?_
 refine xn hK4 ?_
 refine c_split rfl (fun hc1 => ?_) (fun hc1 => ?_)
 ·replace hE1 := cnd_t hE1 hc1
  refine wp_region_lit <| p_val (r_build (vals := [(0, .int .u64 (1))]) (l := (cl24 ((1 : UInt64), (0 : UInt64), (0 : UInt64), (0 : UInt64)))) tb24 rfl rfl) <| p_ofs (a_store (k := 0) (l := (cl24 ((1 : UInt64), (0 : UInt64), (0 : UInt64), (0 : UInt64)))) tsz24 H (k1 3) rfl rfl (cells_agg _) rfl (onz rfl) rfl) fun w6 H => ?_
  replace H := hsn H
  refine wpList_nil <| x_norm ?_
  replace H := hsn H
  obtain rfl := osi hE1
  exact J1 _ _ kcx H
 ·replace hE1 := cnd_f hE1 hc1
  refine wp_skip <| x_norm ?_
  replace H := hsn H
  obtain rfl := osi hE1
  exact J1 _ _ kcx H
noncomputable def sign_NewRing_p (x0 : List UInt8) : Option (((List (Option ((List UInt8) × (List UInt8) × (List UInt8) × Qw × Onc × Qp))))) :=
  Option.bind (sign_made_p x0) fun y1 => some (([y1] : List (Option ((List UInt8) × (List UInt8) × (List UInt8) × Qw × Onc × Qp))))
theorem sign_NewRing_c {S : Mem} {w : World} (H : HS ⟨S, keysR [], w⟩ S w []) {x0 : List UInt8} {r : ((List (Option ((List UInt8) × (List UInt8) × (List UInt8) × Qw × Onc × Qp))))} (hF : sign_NewRing_p x0 = some r) :
    Calls Tryz.prog 16 #[str (x0)] w fun e w' => ∃ (S2 : Mem) (pb2 : Nat) (pv2 : Value) (pcs2 prs2 : List Value), e = .returned (.pointer (some ⟨pb2, 0, none⟩)) ∧ HS ⟨S, keysR [], w⟩ S2 w' [.blk pb2 (([pv2])) 103, .osl (pv2) (r).length 1 pcs2 prs2 99] ∧ RL S2 pcs2 r := by
 refine enter (n := 8) Tryz.func16 rfl rfl rfl ?_
 unfold sign_NewRing_p at hF
 refine sr fun K1 hK1 => asP rfl <| xk hK1 <| sr fun K2 hK2 => mvT rfl <| bn hF fun y1 e1 hF => p_call (l := [str (x0)]) is72 rfl <| (sign_made_c H.sub e1).mono <| H.yv fun w1 v1 S1 hle1 H g1 => ?_
 have g2 : RL S1 ([v1] ++ ([] : List Value)) ([y1] : List (Option ((List UInt8) × (List UInt8) × (List UInt8) × Qw × Onc × Qp))) := (RL.cons g1 RL.nil)
 refine p_of1 (a_bslice (N := 1) (vals := [(0, v1)]) (l := ([v1] ++ ([] : List Value))) tn101 H rfl (by simp only [fillL, lkp, List.replicate, List.flatten_cons, List.flatten_nil, cellsK g1]; rfl) rfl g2.len) fun w2 v2 H => ?_
 generalize ([v1] ++ ([] : List Value)) = cs1 at H g2
 replace H := hsn H
 refine p_val (r_build (vals := [(0, v2)]) (l := ([v2])) tb103 rfl (by simp only [fillL, lkp, HS.ownCells H (k := 0) rfl]; rfl)) ?_
 refine p_ofb (a_box (l := ([v2])) H rfl) fun w3 b1 H => asP rfl <| xk hK2 <| wp_ret ?_
 obtain rfl := osi hF
 refine e_1 rfl (q_tmp rfl) ?_
 replace H := hsn H
 exact ⟨_, _, _, _, _, rfl, H, g2⟩
def sign_Ring_find_b0 (x1 : List UInt8) (y1 : (List (Option ((List UInt8) × (List UInt8) × (List UInt8) × Qw × Onc × Qp)))) (s1 : Int) : Option ((Int) ⊕ (((Option ((List UInt8) × (List UInt8) × (List UInt8) × Qw × Onc × Qp))) ⊕ (Unit))) :=
  bif decide (s1 < ((y1).length : Int)) then (Option.bind (idx y1 s1) fun y2 => Option.bind (y2) fun y3 => bif (y3.2.1 == x1) then (some (.inr (.inl (y2)))) else (some (.inl ((w64 (s1 + 1)))))) else (some (.inr (.inr (()))))
def sign_Ring_find_p (x0 : Option ((List (Option ((List UInt8) × (List UInt8) × (List UInt8) × Qw × Onc × Qp))))) (x1 : List UInt8) : Option ((Option ((List UInt8) × (List UInt8) × (List UInt8) × Qw × Onc × Qp))) :=
  jn (Option.bind (x0) fun y1 => Option.bind (iter (sign_Ring_find_b0 x1 y1) (0)) (fun e => jnO e (fun e1 => some (.inr (e1))) (fun e2 => some (.inl (e2))))) (fun t1 => some (none)) (fun e => some (e))
theorem sign_Ring_find_c {S : Mem} {w : World} (hS : Sub S w) {v0_ : Value} {x0 : Option ((List (Option ((List UInt8) × (List UInt8) × (List UInt8) × Qw × Onc × Qp))))} (h0_ : Rp.rep S [v0_] x0) {x1 : List UInt8} {r : (Option ((List UInt8) × (List UInt8) × (List UInt8) × Qw × Onc × Qp))} (hF : sign_Ring_find_p x0 x1 = some r) :
    Calls Tryz.prog 73 #[v0_, str (x1)] w fun e w' => Ext w w' ∧ ∃ (v0' : Value), e = .returned (v0') ∧ Rp.rep (gr S w w') [v0'] r := by
 refine enter (n := 24) Tryz.func73 rfl rfl rfl ?_
 have H := HS.start hS
 unfold sign_Ring_find_p at hF
 refine sr fun K1 hK1 => asP rfl <| xk hK1 <| wp_seq_k fun K2 hK2 => nameF fun m1 k1 => ?_
 obtain ⟨o1, hE1, hF1⟩ := jn_some hF
 have J1 : ∀ (t1 : Unit) (m4 : FM) (w2 : World), o1 = .inl t1 → (∀ t, has (4 :: rg 6 18 []) t = false → look m4 t = look m1 t) → HS ⟨S, [], w⟩ S w2 [] → K2 (fr 24 m4) w2 := by
  clear H; intro t1 m4 w2 ho k5 H
  replace hF1 := jnO_l hF1 ho
  refine hK2 _ _ <| sr fun K10 hK10 => asP rfl <| xk hK10 <| wp_ret ?_
  obtain rfl := osi hF1
  refine e_1 rfl (q_tmp rfl) ?_
  exact ⟨H.toExt, _, rfl, Rp.mono rpK0 H.gr⟩
 refine sr fun K3 hK3 => p_mv (v := v0_) (k1 0) <| bn hE1 fun y1 e1 hE1 => ?_
 obtain ⟨b1, cs1, hv1, hc1, hr1⟩ := opK h0_ e1; subst hv1
 refine p_val (r_nilck rfl) ?_
 obtain ⟨v1, rfl, g1⟩ := elL hr1
 refine p_val (r_field fa103_0 rfl) <| p_val (s_load1 (p := 0) (o := 0) (v := v1) to101 H.sub rfl hc1 rfl) <| p_val (r_lenR' u101 rfl g1 H.sub) <| mvI rfl <| xk hK3 <| wp_block <| nameF fun m2 k2 => bn hE1 fun out1 hL1 hE2 => ?_
 replace H := hsn H
 refine loopI (4 :: 6 :: rg 12 12 []) (fun (s1 : Int) (m3 : FM) (w1 : World) => look m3 12 = .int .i64 (s1) ∧ HS ⟨S, [], w⟩ S w1 []) hL1 ⟨(k2 12), H⟩ ?_
 clear H; intro k4 s1 m3 w1 k3 hI1 o2 hb1 hh1; obtain ⟨q1, H⟩ := hI1
 have q2 : look m3 1 = str (x1) := (k3 1 rfl).trans ((k2 1).trans (k1 1))
 have q3 : look m3 10 = v1 := (k3 10 rfl).trans (k2 10)
 have q4 : look m3 11 = .int .i64 (((y1).length : Int)) := (k3 11 rfl).trans (k2 11)
 unfold sign_Ring_find_b0 at hb1
 refine sr fun K4 hK4 => p_val (r_lssI q1 q4) <| xk hK4 <| wp_seq_k fun K5 hK5 => ?_
 refine c_split rfl (fun hc2 => ?_) (fun hc2 => ?_)
 ·replace hb1 := cnd_t hb1 hc2
  refine wp_skip <| xn hK5 <| wp_seq_k fun K6 hK6 => wp_block <| sr fun K7 hK7 => bn hb1 fun y2 e2 hb1 => ?_
  obtain ⟨b2, o3, N1, c1, cs2, hv2, hi1, hc3, hr2⟩ := g1.get (idx_some e2).2
  refine p_val (r_addrV (i := (s1 : Int).toNat) u101 tsz99 q3 hv2 q1 (idx_some e2).1 hi1) ?_
  obtain ⟨v2, rfl, g2⟩ := elK hr2
  refine p_val (s_load1 (p := (o3 + (s1 : Int).toNat * 1)) (o := 0) (v := v2) to99 H.sub rfl hc3 rfl) <| p_as (v := v2) rfl <| xk hK7 <| sr fun K8 hK8 => p_mv (v := v2) rfl <| bn hb1 fun y3 e3 hb1 => ?_
  obtain ⟨b3, cs3, hv3, hc4, hr3⟩ := opK g2 e3; subst hv3
  refine p_val (r_nilck rfl) ?_
  obtain rfl := el117c hr3
  refine p_val (r_field fa117_1 rfl) <| p_val (s_load1 (p := 0) (o := 1) (v := str (y3.2.1)) to9 H.sub rfl hc4 rfl) <| p_mv q2 <| p_val (r_eqT (t := (y3.2.1 == x1)) rfl rfl rfl) <| xk hK8 ?_
  refine c_split rfl (fun hc5 => ?_) (fun hc5 => ?_)
  ·replace hb1 := cnd_t hb1 hc5
   refine sr fun K9 hK9 => mvP rfl <| asP rfl <| xk hK9 <| wp_ret <| b_ret <| x_ret <| x_ret <| b_ret ?_
   refine x_ret ?_
   obtain rfl := osi hb1
   obtain rfl := osi hh1
   obtain rfl := osi hE2
   obtain rfl := osi hF1
   refine e_1 rfl (q_tmp rfl) ?_
   exact ⟨H.toExt, _, rfl, Rp.mono g2 H.gr⟩
  ·replace hb1 := cnd_f hb1 hc5
   refine wp_skip <| b_norm <| xn hK6 <| wp_region_lit <| p_val (r_addI q1 rfl) <| mvI rfl <| wpList_nil <| x_norm ?_
   replace H := hsn H
   obtain rfl := osi hb1
   exact ⟨(w64 (s1 + 1)), _, rfl, (kS k3 rfl kcx), ⟨rfl, H⟩, hh1⟩
 ·replace hb1 := cnd_f hb1 hc2
  refine wp_exit <| x_exit <| x_exit <| b_hit <| x_norm ?_
  replace H := hsn H
  obtain rfl := osi hb1
  obtain rfl := osi hh1
  obtain rfl := osi hE2
  exact J1 _ _ _ rfl (kS k3 rfl (kN k2 kcx)) H
def sign_Ring_newest_p (x0 : Option ((List (Option ((List UInt8) × (List UInt8) × (List UInt8) × Qw × Onc × Qp))))) : Option ((Option ((List UInt8) × (List UInt8) × (List UInt8) × Qw × Onc × Qp))) :=
  Option.bind (x0) fun y1 => Option.bind (x0) fun y2 => Option.bind (idx y1 (w64 (((y2).length : Int) - 1))) fun y3 => some (y3)
theorem sign_Ring_newest_c {S : Mem} {w : World} (hS : Sub S w) {v0_ : Value} {x0 : Option ((List (Option ((List UInt8) × (List UInt8) × (List UInt8) × Qw × Onc × Qp))))} (h0_ : Rp.rep S [v0_] x0) {r : (Option ((List UInt8) × (List UInt8) × (List UInt8) × Qw × Onc × Qp))} (hF : sign_Ring_newest_p x0 = some r) :
    Calls Tryz.prog 76 #[v0_] w fun e w' => Ext w w' ∧ ∃ (v0' : Value), e = .returned (v0') ∧ Rp.rep (gr S w w') [v0'] r := by
 refine enter (n := 15) Tryz.func76 rfl rfl rfl ?_
 have H := HS.start hS
 unfold sign_Ring_newest_p at hF
 refine sr fun K1 hK1 => asP rfl <| xk hK1 <| wp_seq_k fun K2 hK2 => bn hF fun y1 e1 hF => ?_
 obtain ⟨b1, cs1, hv1, hc1, hr1⟩ := opK h0_ e1; subst hv1
 obtain ⟨v1, rfl, g1⟩ := elL hr1
 refine bn hF fun y2 e2 hF => ?_
 obtain ⟨cs2, hc2, hr2⟩ := opK' h0_ e2
 obtain ⟨v2, rfl, g2⟩ := elL hr2
 refine bn hF fun y3 e3 hF => ?_
 obtain ⟨b2, o1, N1, c1, cs3, hv2, hi1, hc3, hr3⟩ := g1.get (idx_some e3).2
 obtain ⟨v3, rfl, g3⟩ := elK hr3
 apply wp_region_ext 12 (kindsF []) rfl rfl (by kernel_rfl); intro vs1
 simp only [tkS, tkZ, drS, drZ]
 replace H := H.drew
 refine tp (r_move (v := (.pointer (some ⟨b1, 0, none⟩))) rfl) <| tp (r_nilck rfl) <| tp (r_field fa103_0 rfl) <| t_v (fun w hx => s_load1 (p := 0) (o := 0) (v := v1) to101 (H.ext hx).sub rfl hc1 rfl) <| tp (r_move (v := .pointer (some ⟨b1, 0, none⟩)) rfl) <| tp (r_nilck rfl) <| tp (r_field fa103_0 rfl) <| t_v (fun w hx => s_load1 (p := 0) (o := 0) (v := v2) to101 (H.ext hx).sub rfl hc2 rfl) ?_
 refine t_v (fun w hx => r_lenR' u101 rfl g2 (H.ext hx).sub) <| tp (r_subI rfl rfl) <| tp (r_addrV (i := ((w64 (((y2).length : Int) - 1)) : Int).toNat) u101 tsz99 rfl hv2 rfl (idx_some e3).1 hi1) <| t_v (fun w hx => s_load1 (p := (o1 + ((w64 (((y2).length : Int) - 1)) : Int).toNat * 1)) (o := 0) (v := v3) to99 (H.ext hx).sub rfl hc3 rfl) ?_
 refine t_nil (fun w1 hx hF hA => ?_)
 replace H := H.ext hx; clear hx hF hA
 refine p_as (v := v3) rfl ?_
 refine wpList_nil ?_; refine on_norm ?_
 refine xn hK2 <| wp_ret ?_
 obtain rfl := osi hF
 refine e_1 rfl (q_tmp rfl) ?_
 exact ⟨H.toExt, _, rfl, Rp.mono g3 H.gr⟩
noncomputable def sign_Ring_Turn_p (x0 : (List (Option ((List UInt8) × (List UInt8) × (List UInt8) × Qw × Onc × Qp)))) (x1 : List UInt8) : Option (Int × ((List (Option ((List UInt8) × (List UInt8) × (List UInt8) × Qw × Onc × Qp))))) :=
  Option.bind (sign_made_p x1) fun y1 => Option.bind (y1) fun y2 => Option.bind (sign_Ring_find_p (some x0) y2.2.1) fun y3 => bif (!y3.isNone) then (some ((80, x0))) else (bif (((x0).length : Int) == 8) then (some ((82, x0))) else (Option.bind (app x0 ([y1] : List (Option ((List UInt8) × (List UInt8) × (List UInt8) × Qw × Onc × Qp)))) fun y4 => some ((0, y4))))
theorem sign_Ring_Turn_c {S : Mem} {w : World} {b0_ : Nat} {x0 : (List (Option ((List UInt8) × (List UInt8) × (List UInt8) × Qw × Onc × Qp)))} {pv1 : Value} {pcs1 prs1 : List Value} (H : HS ⟨S, keysR [.blk b0_ (([pv1])) 103, .osl (pv1) (x0).length 1 pcs1 prs1 99], w⟩ S w [.blk b0_ (([pv1])) 103, .osl (pv1) (x0).length 1 pcs1 prs1 99]) (pg1 : RL S pcs1 x0) {x1 : List UInt8} {r : Int × ((List (Option ((List UInt8) × (List UInt8) × (List UInt8) × Qw × Onc × Qp))))} (hF : sign_Ring_Turn_p x0 x1 = some r) :
    Calls Tryz.prog 17 #[.pointer (some ⟨b0_, 0, none⟩), str (x1)] w fun e w' => ∃ (S2 : Mem) (pv5 : Value) (pcs5 prs5 : List Value), e = .returned (.int .i64 (r.1)) ∧ HS ⟨S, keysR [.blk b0_ (([pv1])) 103, .osl (pv1) (x0).length 1 pcs1 prs1 99], w⟩ S2 w' [.blk b0_ (([pv5])) 103, .osl (pv5) (r.2).length 1 pcs5 prs5 99] ∧ RL S2 pcs5 r.2 := by
 refine enter (n := 33) Tryz.func17 rfl rfl rfl ?_
 unfold sign_Ring_Turn_p at hF
 refine sr fun K1 hK1 => asI rfl <| xk hK1 <| sr fun K2 hK2 => mvT rfl <| bn hF fun y1 e1 hF => p_call (l := [str (x1)]) is72 rfl <| (sign_made_c H.sub e1).mono <| H.yv fun w1 v1 S1 hle1 H g1 => ?_
 replace pg1 := pg1.mono hle1
 refine p_as (v := v1) rfl <| xk hK2 <| wp_seq_k fun K3 hK3 => wp_block <| sr fun K4 hK4 => mvP rfl <| p_mv (v := v1) rfl <| bn hF fun y2 e2 hF => ?_
 obtain ⟨b1, cs1, hv1, hc1, hr1⟩ := opK g1 e2; subst hv1
 refine p_val (r_nilck rfl) ?_
 obtain rfl := el117c hr1
 refine p_val (r_field fa117_1 rfl) <| p_val (s_load1 (p := 0) (o := 1) (v := str (y2.2.1)) to9 H.sub rfl hc1 rfl) <| bn hF fun y3 e3 hF => p_call (l := [.pointer (some ⟨b0_, 0, none⟩), str (y2.2.1)]) is73 rfl <| (sign_Ring_find_c (subMem w1) (rpK (HS.blkAt H (k := 0) rfl) (rpL (RdS.ofOwn H (k := 1) rfl pg1))) e3).mono ?_; rintro _ w2 ⟨hx, v2, rfl, g2⟩; replace H := H.ext hx; clear hx
 refine p_val (r_neK u99 eg99 rfl g2 rfl) <| asB rfl <| xk hK4 ?_
 refine c_split rfl (fun hc2 => ?_) (fun hc2 => ?_)
 ·replace hF := cnd_t hF hc2
  refine sr fun K5 hK5 => asI rfl <| xk hK5 <| wp_ret <| b_ret <| x_ret ?_
  obtain rfl := osi hF
  refine e_1 rfl (q_tmp rfl) ?_
  replace H := hsn H
  exact ⟨_, _, _, _, rfl, H, pg1⟩
 ·replace hF := cnd_f hF hc2
  refine sr fun K6 hK6 => mvP rfl <| p_val (r_nilck rfl) <| p_val (r_field fa103_0 rfl) <| p_val (h_load1 (v := pv1) to101 H rfl (k := 0) rfl rfl) <| p_val (r_lenO u101 rfl H (k := 1) rfl rfl) <| p_val (r_eqlI rfl rfl) <| asB rfl <| xk hK6 ?_
  refine c_split rfl (fun hc3 => ?_) (fun hc3 => ?_)
  ·replace hF := cnd_t hF hc3
   refine sr fun K7 hK7 => asI rfl <| xk hK7 <| wp_ret <| b_ret <| x_ret ?_
   obtain rfl := osi hF
   refine e_1 rfl (q_tmp rfl) ?_
   replace H := hsn H
   exact ⟨_, _, _, _, rfl, H, pg1⟩
  ·replace hF := cnd_f hF hc3
   refine wp_skip <| b_norm <| xn hK3 <| sr fun K8 hK8 => mvP rfl <| mvP rfl <| p_val (r_nilck rfl) <| p_val (r_field fa103_0 rfl) <| p_val (h_load1 (v := pv1) to101 H rfl (k := 0) rfl rfl) ?_
   refine mvP rfl <| p_of2 (a_bsliceG (N := 1) (xs := ([y1] : List (Option ((List UInt8) × (List UInt8) × (List UInt8) × Qw × Onc × Qp)))) (RL.cons g1 RL.nil) tn101 H rfl rfl rfl) fun w3 v3 cs2 H g3 => ?_
   replace H := hsn H
   refine bn hF fun y4 e4 hF => p_of3 (a_appendX (k := 2) (v2 := v3) tn101 rfl H rfl rfl pg1 rfl (H.slW (k := 0) rfl) g3 e4) fun w4 v4 cs3 rs1 H g4 => ?_
   replace H := hsn H
   replace H := H.sel [1, 2] rfl
   replace H := hsn H
   refine p_val (r_nilck rfl) <| p_val (r_field fa103_0 rfl) <| p_ofs (a_store (k := 0) (l := [v4]) tsz101 H rfl rfl rfl (cells_one (HS.ownOne H (k := 1) rfl)) rfl (fun u hu => by rw [List.mem_singleton] at hu; rw [hu]; exact HS.ownOne H (k := 1) rfl) rfl) fun w5 H => ?_
   replace H := hsn H
   refine xk hK8 <| sr fun K9 hK9 => asI rfl <| xk hK9 <| wp_ret ?_
   obtain rfl := osi hF
   refine e_1 rfl (q_tmp rfl) ?_
   replace H := hsn H
   exact ⟨_, _, _, _, rfl, H, g4⟩
def sign_Ring_Kids_b0 (y1 : (List (Option ((List UInt8) × (List UInt8) × (List UInt8) × Qw × Onc × Qp)))) (s1 : (List (List UInt8)) × Int) : Option (((List (List UInt8)) × Int) ⊕ ((List (List UInt8)))) :=
  bif decide (s1.2 < ((y1).length : Int)) then (Option.bind (idx y1 s1.2) fun y2 => Option.bind (y2) fun y3 => Option.bind (app s1.1 ([y3.2.1] : List (List UInt8))) fun y4 => some (.inl ((y4, (w64 (s1.2 + 1)))))) else (some (.inr (s1.1)))
def sign_Ring_Kids_p (x0 : Option ((List (Option ((List UInt8) × (List UInt8) × (List UInt8) × Qw × Onc × Qp))))) : Option ((List (List UInt8))) :=
  Option.bind (Option.bind (x0) fun y1 => Option.bind (iter (sign_Ring_Kids_b0 y1) ((([] : List (List UInt8)), 0))) (fun e => some (e))) (fun t1 => some (t1))
theorem sign_Ring_Kids_c {S : Mem} {w : World} (H : HS ⟨S, keysR [], w⟩ S w []) {v0_ : Value} {x0 : Option ((List (Option ((List UInt8) × (List UInt8) × (List UInt8) × Qw × Onc × Qp))))} (h0_ : Rp.rep S [v0_] x0) {r : (List (List UInt8))} (hF : sign_Ring_Kids_p x0 = some r) :
    Calls Tryz.prog 26 #[v0_] w fun e w' => ∃ (S2 : Mem) (pv2 : Value) (pcs2 prs2 : List Value), e = .returned (pv2) ∧ HS ⟨S, keysR [], w⟩ S2 w' [.osl (pv2) (r).length 1 pcs2 prs2 9] ∧ RL S2 pcs2 r := by
 refine enter (n := 24) Tryz.func26 rfl rfl rfl ?_
 unfold sign_Ring_Kids_p at hF
 refine sr fun K1 hK1 => asN rfl <| xk hK1 <| sr fun K2 hK2 => asN rfl <| xk hK2 <| wp_seq_k fun K3 hK3 => nameF fun m1 k1 => bn hF fun t1 hE1 hF1 => ?_
 have J1 : ∀ (v6 : Value) (cs7 rs3 : List Value) (m4 : FM) (w4 : World), (∀ t, has (3 :: rg 5 18 []) t = false → look m4 t = look m1 t) → look m4 3 = v6 → HS ⟨S, keysR [], w⟩ S w4 [.osl (v6) (t1).length 1 cs7 rs3 9] → RL S cs7 t1 → K3 (fr 24 m4) w4 := by
  clear H; intro v6 cs7 rs3 m4 w4 k5 q5 H g7
  refine hK3 _ _ <| sr fun K9 hK9 => p_mv (v := v6) q5 <| p_as (v := v6) rfl <| xk hK9 <| wp_ret ?_
  obtain rfl := osi hF1
  refine e_1 rfl (q_tmp rfl) ?_
  replace H := hsn H
  exact ⟨_, _, _, _, rfl, H, g7⟩
 refine sr fun K4 hK4 => p_mv (v := v0_) (k1 0) <| bn hE1 fun y1 e1 hE1 => ?_
 obtain ⟨b1, cs1, hv1, hc1, hr1⟩ := opK h0_ e1; subst hv1
 refine p_val (r_nilck rfl) ?_
 obtain ⟨v1, rfl, g1⟩ := elL hr1
 refine p_val (r_field fa103_0 rfl) <| p_val (s_load1 (p := 0) (o := 0) (v := v1) to101 H.sub rfl hc1 rfl) <| p_val (r_lenR' u101 rfl g1 H.sub) <| mvI rfl <| xk hK4 <| wp_block <| nameF fun m2 k2 => bn hE1 fun out1 hL1 hE2 => ?_
 replace H := H.nilOwn 1 9; have g3 : RL S [] ([] : List (List UInt8)) := RL.nil
 replace H := hsn H
 refine loopI (3 :: 5 :: rg 11 12 []) (fun (s1 : (List (List UInt8)) × Int) (m3 : FM) (w1 : World) => ∃ (v2 : Value) (cs2 rs1 : List Value), look m3 3 = v2 ∧ look m3 11 = .int .i64 (s1.2) ∧ HS ⟨S, keysR [], w⟩ S w1 [.osl (v2) (s1.1).length 1 cs2 rs1 9] ∧ RL S cs2 s1.1) hL1 ⟨_, _, _, (show _ = (.slice none 0 0 : Value) from ((k2 3).trans (k1 3))), (k2 11), H, g3⟩ ?_
 clear H; intro k4 s1 m3 w1 k3 hI1 o2 hb1 hh1; obtain ⟨v2, cs2, rs1, q1, q2, H, g2⟩ := hI1
 have q3 : look m3 9 = v1 := (k3 9 rfl).trans (k2 9)
 have q4 : look m3 10 = .int .i64 (((y1).length : Int)) := (k3 10 rfl).trans (k2 10)
 unfold sign_Ring_Kids_b0 at hb1
 refine sr fun K5 hK5 => p_val (r_lssI q2 q4) <| xk hK5 <| wp_seq_k fun K6 hK6 => ?_
 refine c_split rfl (fun hc2 => ?_) (fun hc2 => ?_)
 ·replace hb1 := cnd_t hb1 hc2
  refine wp_skip <| xn hK6 <| wp_seq_k fun K7 hK7 => wp_block <| sr fun K8 hK8 => bn hb1 fun y2 e2 hb1 => ?_
  obtain ⟨b2, o3, N1, c1, cs3, hv2, hi1, hc3, hr2⟩ := g1.get (idx_some e2).2
  refine p_val (r_addrV (i := (s1.2 : Int).toNat) u101 tsz99 q3 hv2 q2 (idx_some e2).1 hi1) ?_
  obtain ⟨v3, rfl, g4⟩ := elK hr2
  refine p_val (s_load1 (p := (o3 + (s1.2 : Int).toNat * 1)) (o := 0) (v := v3) to99 H.sub rfl hc3 rfl) <| p_as (v := v3) rfl <| xk hK8 <| wp_region_lit <| p_mv (v := v2) q1 <| p_mv (v := v3) rfl <| bn hb1 fun y3 e3 hb1 => ?_
  obtain ⟨b3, cs4, hv3, hc4, hr3⟩ := opK g4 e3; subst hv3
  refine p_val (r_nilck rfl) ?_
  obtain rfl := el117c hr3
  refine p_val (r_field fa117_1 rfl) <| p_val (s_load1 (p := 0) (o := 1) (v := str (y3.2.1)) to9 H.sub rfl hc4 rfl) <| p_of2 (a_bsliceG (N := 1) (xs := ([y3.2.1] : List (List UInt8))) (RL.cons rpT RL.nil) tn40 H rfl rfl rfl) fun w2 v4 cs5 H g5 => ?_
  replace H := hsn H
  refine bn hb1 fun y4 e4 hb1 => p_of3 (a_appendX (k := 1) (v2 := v4) tn40 rfl H rfl rfl g2 rfl (H.slW (k := 0) rfl) g5 e4) fun w3 v5 cs6 rs2 H g6 => ?_
  replace H := hsn H
  replace H := H.sel [1] rfl
  replace H := hsn H
  refine p_as (v := v5) rfl <| wpList_nil <| b_norm <| xn hK7 <| wp_region_lit <| p_val (r_addI q2 rfl) <| mvI rfl <| wpList_nil <| x_norm ?_
  replace H := hsn H
  obtain rfl := osi hb1
  exact ⟨(y4, (w64 (s1.2 + 1))), _, rfl, (kS k3 rfl kcx), ⟨_, _, _, rfl, rfl, H, g6⟩, hh1⟩
 ·replace hb1 := cnd_f hb1 hc2
  refine wp_exit <| x_exit <| x_exit <| b_hit <| x_norm ?_
  replace H := hsn H
  obtain rfl := osi hb1
  obtain rfl := osi hh1
  obtain rfl := osi hE2
  exact J1 _ _ _ _ _ (kS k3 rfl (kN k2 kcx)) (show _ = (v2 : Value) from q1) H g2
noncomputable def sign_Ring_Mac_p (x0 : Option ((List (Option ((List UInt8) × (List UInt8) × (List UInt8) × Qw × Onc × Qp))))) (x1 : List UInt8) : Option ((List UInt8) × (List UInt8)) :=
  Option.bind (sign_Ring_newest_p x0) fun y1 => Option.bind (y1) fun y2 => Option.bind (y1) fun y3 => Option.bind (hash_Mac_p y3.2.2.1 x1) fun y4 => some ((y2.2.1, y4))
theorem sign_Ring_Mac_c {S : Mem} {w : World} (hS : Sub S w) {v0_ : Value} {x0 : Option ((List (Option ((List UInt8) × (List UInt8) × (List UInt8) × Qw × Onc × Qp))))} (h0_ : Rp.rep S [v0_] x0) {x1 : List UInt8} {r : (List UInt8) × (List UInt8)} (hF : sign_Ring_Mac_p x0 x1 = some r) :
    Calls Tryz.prog 19 #[v0_, str (x1)] w fun e w' => e = .returned (.tuple #[str (r.1), str (r.2)]) ∧ Ext w w' := by
 refine enter (n := 19) Tryz.func19 rfl rfl rfl ?_
 have H := HS.start hS
 unfold sign_Ring_Mac_p at hF
 refine sr fun K1 hK1 => asT rfl <| asT rfl <| xk hK1 <| sr fun K2 hK2 => p_mv (v := v0_) rfl <| bn hF fun y1 e1 hF => p_call (l := [v0_]) is76 rfl <| (sign_Ring_newest_c H.sub h0_ e1).mono <| H.yv fun w1 v1 S1 hle1 H g1 => ?_
 replace h0_ := Rp.mono h0_ hle1
 refine p_as (v := v1) rfl <| xk hK2 <| wp_seq_k fun K3 hK3 => bn hF fun y2 e2 hF => ?_
 obtain ⟨b1, cs1, hv1, hc1, hr1⟩ := opK g1 e2; subst hv1
 obtain rfl := el117c hr1
 refine bn hF fun y3 e3 hF => ?_
 obtain ⟨cs2, hc2, hr2⟩ := opK' g1 e3
 obtain rfl := el117c hr2
 refine bn hF fun y4 e4 hF => ?_
 apply wp_region_ext 10 (kindsF [(9, .inl (str (y4)))]) rfl rfl (by kernel_rfl); intro vs1
 simp only [tkS, tkZ, drS, drZ]
 replace H := H.drew
 refine tp (r_move (v := (.pointer (some ⟨b1, 0, none⟩))) rfl) <| tp (r_nilck rfl) <| tp (r_field fa117_1 rfl) <| t_v (fun w hx => s_load1 (p := 0) (o := 1) (v := str (y2.2.1)) to9 (H.ext hx).sub rfl hc1 rfl) <| tp (r_move (v := .pointer (some ⟨b1, 0, none⟩)) rfl) <| tp (r_nilck rfl) <| tp (r_field fa117_2 rfl) ?_
 refine t_v (fun w hx => s_load1 (p := 0) (o := 2) (v := str (y3.2.2.1)) to9 (H.ext hx).sub rfl hc2 rfl) <| tp (r_move (v := str (x1)) rfl) <| t_call (l := [str (y3.2.2.1), str (x1)]) rfl rfl is46 rfl (fun w hx hF => (hash_Mac_c (H.ext hx).sub e4).mono (fun _ _ h => h)) ?_
 refine t_nil (fun w2 hx hF hA => ?_)
 replace H := H.ext hx; clear hx hF hA
 refine asT rfl <| asT rfl ?_
 refine wpList_nil ?_; refine on_norm ?_
 refine xn hK3 <| wp_ret ?_
 obtain rfl := osi hF
 refine e_2 rfl (q_tmp rfl) (q_tmp rfl) ?_
 exact ⟨rfl, H.toExt⟩
noncomputable def sign_Ring_Vouch_p (x0 : Option ((List (Option ((List UInt8) × (List UInt8) × (List UInt8) × Qw × Onc × Qp))))) (x1 : List UInt8) (x2 : List UInt8) (x3 : List UInt8) : Option (Bool) :=
  Option.bind (sign_Ring_find_p x0 x1) fun y1 => Option.bind (bif (!y1.isNone) then (Option.bind (y1) fun y2 => Option.bind (hash_Mac_p y2.2.2.1 x2) fun y3 => Option.bind (hash_Same_p y3 x3) fun y4 => some (y4)) else (some (false))) (fun t1 => some (t1))
theorem sign_Ring_Vouch_c {S : Mem} {w : World} (hS : Sub S w) {v0_ : Value} {x0 : Option ((List (Option ((List UInt8) × (List UInt8) × (List UInt8) × Qw × Onc × Qp))))} (h0_ : Rp.rep S [v0_] x0) {x1 : List UInt8} {x2 : List UInt8} {x3 : List UInt8} {r : Bool} (hF : sign_Ring_Vouch_p x0 x1 x2 x3 = some r) :
    Calls Tryz.prog 21 #[v0_, str (x1), str (x2), str (x3)] w fun e w' => e = .returned (.bool (r)) ∧ Ext w w' := by
 refine enter (n := 25) Tryz.func21 rfl rfl rfl ?_
 have H := HS.start hS
 unfold sign_Ring_Vouch_p at hF
 refine sr fun K1 hK1 => asB rfl <| xk hK1 <| sr fun K2 hK2 => p_mv (v := v0_) rfl <| mvT rfl <| bn hF fun y1 e1 hF => p_call (l := [v0_, str (x1)]) is73 rfl <| (sign_Ring_find_c H.sub h0_ e1).mono <| H.yv fun w1 v1 S1 hle1 H g1 => ?_
 replace h0_ := Rp.mono h0_ hle1
 refine p_as (v := v1) rfl <| xk hK2 <| sr fun K3 hK3 => p_mv (v := v1) rfl <| p_val (r_neK u99 eg99 rfl g1 rfl) <| mvB rfl <| nameL fun m1 k1 => gs_at 9 fun K4 hK4 R1 hR1 => bn hF fun t1 hE1 hF1 => ?_
 have J1 : ∀ (m2 : FM) (w4 : World), (∀ t, has (rg 16 9 []) t = false → look m2 t = look m1 t) → look m2 24 = .bool (t1) → HS ⟨S, [], w⟩ S1 w4 [] → K4 m2 w4 := by
  clear H; intro m2 w4 k2 q1 H
  refine hK4 _ _ <| p_as q1 <| xk hK3 <| wp_ret ?_
  obtain rfl := osi hF1
  refine e_1 rfl (q_tmp rfl) ?_
  exact ⟨rfl, H.toExt⟩
 refine p_gs (j := 2) (gvl_at rfl rfl (k1 15)) (fun hb1 => ?_) (fun hb1 => ?_)
 ·replace hE1 := cnd_t hE1 hb1
  refine p_want (gvl_at rfl rfl (k1 15)) hb1 <| p_mv (v := v1) (k1 9) <| p_want (gvl_at rfl rfl (k1 15)) hb1 <| bn hE1 fun y2 e2 hE1 => ?_
  obtain ⟨b1, cs1, hv1, hc1, hr1⟩ := opK g1 e2; subst hv1
  refine p_val (r_nilck rfl) ?_
  obtain rfl := el117c hr1
  refine p_want (gvl_at rfl rfl (k1 15)) hb1 <| p_val (r_field fa117_2 rfl) <| p_want (gvl_at rfl rfl (k1 15)) hb1 <| p_val (s_load1 (p := 0) (o := 2) (v := str (y2.2.2.1)) to9 H.sub rfl hc1 rfl) <| p_want (gvl_at rfl rfl (k1 15)) hb1 <| p_mv (k1 2) <| p_want (gvl_at rfl rfl (k1 15)) hb1 <| bn hE1 fun y3 e3 hE1 => p_call (l := [str (y2.2.2.1), str (x2)]) is46 rfl ?_
  refine (hash_Mac_c H.sub e3).mono <| H.xe fun w2 H => p_want (gvl_at rfl rfl (k1 15)) hb1 <| p_mv (k1 3) <| p_want (gvl_at rfl rfl (k1 15)) hb1 <| bn hE1 fun y4 e4 hE1 => p_call (l := [str (y3), str (x3)]) is79 rfl <| (hash_Same_c H.sub e4).mono <| H.xe fun w3 H => p_val (r_pickt (v := .bool (y4)) (k1 15) hb1 rfl) <| hR1 _ _ ?_
  replace H := hsn H
  obtain rfl := osi hE1
  exact J1 _ _ kcx rfl H
 ·replace hE1 := cnd_f hE1 hb1
  refine p_skip (gvl_at rfl rfl (k1 15)) hb1 ?_
  rw [put_fr]
  refine p_skip (gvl_at rfl rfl (k1 15)) hb1 ?_
  rw [put_fr]
  refine p_skip (gvl_at rfl rfl (k1 15)) hb1 ?_
  rw [put_fr]
  refine p_skip (gvl_at rfl rfl (k1 15)) hb1 ?_
  rw [put_fr]
  refine p_skip (gvl_at rfl rfl (k1 15)) hb1 ?_
  rw [put_fr]
  refine p_skip (gvl_at rfl rfl (k1 15)) hb1 ?_
  rw [put_fr]
  refine p_skip (gvl_at rfl rfl (k1 15)) hb1 ?_
  rw [put_fr]
  refine p_skip (gvl_at rfl rfl (k1 15)) hb1 ?_
  rw [put_fr]
  refine p_val (r_pickf (v := .bool (false)) (k1 15) hb1 rfl) <| hR1 _ _ ?_
  replace H := hsn H
  obtain rfl := osi hE1
  exact J1 _ _ kcx rfl H
end Go.Proofs.YtmbcolbbekbccaaGreat
namespace Go.Proofs.YtmbcolbbekbccaaGreat
open Go Go.RowKit
attribute [local irreducible] wpList wpT Code.wp Calls Code.rounds
theorem u63 : Tryz.prog.underlying 63 = some (.slice 107) := by kernel_rfl
theorem is84 : IsFn Tryz.prog 84 := isFn Tryz.func84
theorem tn63 : TSn Tryz.prog 63 107 (.int .u32 0) [.int .u32 0] 4 1 := TSn.mk' (by kernel_rfl) (by kernel_rfl) rfl rfl rfl rfl
theorem tsz22 : TSz Tryz.prog 22 1 := fun _ => by kernel_rfl
def r6_trim_b0 (x0 : List UInt32) (s1 : Int) : Option ((Int) ⊕ (Int)) :=
  Option.bind (bif decide ((0 : Int) < s1) then (Option.bind (idx x0 (w64 (s1 - 1))) fun y1 => some ((((y1).toNat : Int) == 0))) else (some (false))) (fun t2 => bif t2 then (some (.inl ((w64 (s1 - 1))))) else (some (.inr (s1))))
def r6_trim_p (x0 : List UInt32) : Option ((List UInt32)) :=
  Option.bind (Option.bind (iter (r6_trim_b0 x0) (((x0).length : Int))) (fun e => some (e))) (fun t1 => Option.bind (subH x0 t1) fun y2 => some (y2))
theorem r6_trim_c {S : Mem} {w : World} (hS : Sub S w) {v0_ : Value} {x0 : List UInt32} (h0_ : RdS S v0_ x0) {r : (List UInt32)} (hF : r6_trim_p x0 = some r) :
    Calls Tryz.prog 84 #[v0_] w fun e w' => Ext w w' ∧ ∃ (v0' : Value), e = .returned (v0') ∧ RdS (gr S w w') v0' r := by
 refine enter (n := 21) Tryz.func84 rfl rfl rfl ?_
 have H := HS.start hS
 unfold r6_trim_p at hF
 refine sr fun K1 hK1 => asN rfl <| xk hK1 <| sr fun K2 hK2 => p_mv (v := v0_) rfl <| p_val (r_lenR' u63 rfl h0_ H.sub) <| asI rfl <| xk hK2 <| wp_seq_k fun K3 hK3 => ?_
 refine nameF fun m1 k1 => bn hF fun t1 hE1 hF1 => ?_
 have J2 : ∀ (m6 : FM) (w3 : World), (∀ t, has (3 :: rg 6 12 []) t = false → look m6 t = look m1 t) → look m6 3 = .int .i64 (t1) → HS ⟨S, [], w⟩ S w3 [] → K3 (fr 21 m6) w3 := by
  clear H; intro m6 w3 k7 q6 H
  have q7 : look m6 0 = v0_ := (k7 0 rfl).trans (k1 0)
  refine hK3 _ _ <| sr fun K7 hK7 => p_mv (v := v0_) q7 <| p_mv q6 <| bn hF1 fun y2 e2 hF1 => p_val (r_subH (h := (t1 : Int).toNat) u63 tsz107 rfl rfl (subH_some e2).1 h0_ (subH_some e2).2.1) ?_
  have g1 : RdS S (subN v0_ 1 0 (t1 : Int).toNat) y2 := RdS.subH h0_ e2
  refine p_as (v := (subN v0_ 1 0 (t1 : Int).toNat)) rfl <| xk hK7 <| wp_ret ?_
  obtain rfl := osi hF1
  refine e_1 rfl (q_tmp rfl) ?_
  exact ⟨H.toExt, _, rfl, RdS.mono g1 H.gr⟩
 refine wp_block <| nameF fun m2 k2 => bn hE1 fun out1 hL1 hE2 => ?_
 replace H := hsn H
 refine loopI (3 :: rg 6 12 []) (fun (s1 : Int) (m3 : FM) (w1 : World) => look m3 3 = .int .i64 (s1) ∧ HS ⟨S, [], w⟩ S w1 []) hL1 ⟨((k2 3).trans (k1 3)), H⟩ ?_
 clear H; intro k4 s1 m3 w1 k3 hI1 o2 hb1 hh1; obtain ⟨q1, H⟩ := hI1
 have q2 : look m3 0 = v0_ := (k3 0 rfl).trans ((k2 0).trans (k1 0))
 unfold r6_trim_b0 at hb1
 refine wp_seq_k fun K4 hK4 => sr fun K5 hK5 => p_mv q1 <| p_val (r_gtrI rfl rfl) <| mvB rfl <| nameL fun m4 k5 => gs_at 7 fun K6 hK6 R1 hR1 => bn hb1 fun t2 hE3 hF2 => ?_
 have J1 : ∀ (m5 : FM) (w2 : World), (∀ t, has (rg 9 7 []) t = false → look m5 t = look m4 t) → look m5 15 = .bool (t2) → HS ⟨S, [], w⟩ S w2 [] → K6 m5 w2 := by
  clear H; intro m5 w2 k6 q3 H
  have q4 := (k6 0 rfl).trans ((k5 0).trans q2)
  have q5 := (k6 3 rfl).trans ((k5 3).trans q1)
  refine hK6 _ _ <| xk hK5 ?_
  refine c_split q3 (fun hc2 => ?_) (fun hc2 => ?_)
  ·replace hF2 := cnd_t hF2 hc2
   refine wp_skip <| xn hK4 <| wp_block <| wp_region_lit <| p_mv q5 <| p_val (r_subI rfl rfl) <| asI rfl <| wpList_nil <| b_norm ?_
   refine x_norm ?_
   replace H := hsn H
   obtain rfl := osi hF2
   exact ⟨(w64 (s1 - 1)), _, rfl, (kS k6 rfl (kN k5 (kS k3 rfl kcx))), ⟨rfl, H⟩, hh1⟩
  ·replace hF2 := cnd_f hF2 hc2
   refine wp_exit <| x_exit <| x_exit <| b_hit <| x_norm ?_
   replace H := hsn H
   obtain rfl := osi hF2
   obtain rfl := osi hh1
   obtain rfl := osi hE2
   exact J2 _ _ (kS k6 rfl (kN k5 (kS k3 rfl (kN k2 kcx)))) q5 H
 refine p_gs (j := 2) (gvl_at rfl rfl (k5 8)) (fun hb2 => ?_) (fun hb2 => ?_)
 ·replace hE3 := cnd_t hE3 hb2
  refine p_want (gvl_at rfl rfl (k5 8)) hb2 <| p_mv (v := v0_) ((k5 0).trans q2) <| p_want (gvl_at rfl rfl (k5 8)) hb2 <| p_mv ((k5 3).trans q1) <| p_want (gvl_at rfl rfl (k5 8)) hb2 <| p_val (r_subI rfl rfl) <| p_want (gvl_at rfl rfl (k5 8)) hb2 <| bn hE3 fun y1 e1 hE3 => ?_
  obtain ⟨b1, o4, N1, c1, cs1, hv1, hi1, hc1, hr1⟩ := h0_.get (idx_some e1).2
  refine p_val (r_addrV (i := ((w64 (s1 - 1)) : Int).toNat) u63 tsz107 rfl hv1 rfl (idx_some e1).1 hi1) ?_
  obtain rfl := elU32 hr1
  refine p_want (gvl_at rfl rfl (k5 8)) hb2 <| p_val (s_load1 (p := (o4 + ((w64 (s1 - 1)) : Int).toNat * 1)) (o := 0) (v := .int .u32 (((y1).toNat : Int))) to107 H.sub rfl hc1 rfl) <| p_want (gvl_at rfl rfl (k5 8)) hb2 <| p_val (r_eqlI rfl rfl) <| p_val (r_pickt (v := .bool ((((y1).toNat : Int) == 0))) (k5 8) hb2 rfl) <| hR1 _ _ ?_
  replace H := hsn H
  obtain rfl := osi hE3
  exact J1 _ _ kcx rfl H
 ·replace hE3 := cnd_f hE3 hb2
  refine p_skip (gvl_at rfl rfl (k5 8)) hb2 ?_
  rw [put_fr]
  refine p_skip (gvl_at rfl rfl (k5 8)) hb2 ?_
  rw [put_fr]
  refine p_skip (gvl_at rfl rfl (k5 8)) hb2 ?_
  rw [put_fr]
  refine p_skip (gvl_at rfl rfl (k5 8)) hb2 ?_
  rw [put_fr]
  refine p_skip (gvl_at rfl rfl (k5 8)) hb2 ?_
  rw [put_fr]
  refine p_skip (gvl_at rfl rfl (k5 8)) hb2 ?_
  rw [put_fr]
  refine p_val (r_pickf (v := .bool (false)) (k5 8) hb2 rfl) <| hR1 _ _ ?_
  replace H := hsn H
  obtain rfl := osi hE3
  exact J1 _ _ kcx rfl H
def r6_In_b1 (x0 : Qw) (s1 : Int × (List UInt32)) (s2 : Int × (List UInt32)) : Option ((Int × (List UInt32)) ⊕ ((List UInt32))) :=
  bif decide (s2.1 < 4) then (Option.bind (idx ([x0.1, x0.2.1, x0.2.2.1, x0.2.2.2] : List UInt64) s1.1) fun y1 => Option.bind (chk (decide (0 ≤ (w64 ((16 : Int) * s2.1))))) fun y2 => Option.bind (app s2.2 ([(i32 ((((i64 (shrI .u64 ((y1).toNat : Int) (w64 ((16 : Int) * s2.1)))) &&& (65535 : UInt64))).toNat : Int))] : List UInt32)) fun y3 => some (.inl (((w64 (s2.1 + 1)), y3)))) else (some (.inr (s2.2)))
def r6_In_b0 (x0 : Qw) (s1 : Int × (List UInt32)) : Option ((Int × (List UInt32)) ⊕ ((List UInt32))) :=
  bif decide (s1.1 < 4) then (Option.bind (Option.bind (iter (r6_In_b1 x0 s1) ((0, s1.2))) (fun e => some (e))) (fun t2 => some (.inl (((w64 (s1.1 + 1)), t2))))) else (some (.inr (s1.2)))
def r6_In_p (x0 : Qw) : Option ((List UInt32)) :=
  Option.bind (Option.bind (iter (r6_In_b0 x0) ((0, ([] : List UInt32)))) (fun e => some (e))) (fun t1 => Option.bind (r6_trim_p t1) fun y4 => some (y4))
theorem r6_In_c {S : Mem} {w : World} (hS : Sub S w) {x0 : Qw} {r : (List UInt32)} (hF : r6_In_p x0 = some r) :
    Calls Tryz.prog 38 #[.agg ((cl24 x0)).toArray] w fun e w' => Ext w w' ∧ ∃ (v0' : Value), e = .returned (v0') ∧ RdS (gr S w w') v0' r := by
 refine enter (n := 28) Tryz.func38 rfl rfl rfl ?_
 have H := HS.start hS
 unfold r6_In_p at hF
 refine sr fun K1 hK1 => p_ofb (a_box (l := (cl24 x0)) H rfl) fun w1 b1 H => asN rfl <| xk hK1 <| sr fun K2 hK2 => ?_
 have g1 : RL S ([] : List Value) ([] : List UInt32) := RL.nil
 refine p_of1 (a_bslice (N := 0) (vals := []) (l := ([] : List Value)) tn63 H rfl rfl rfl g1.len) fun w2 v1 H => ?_
 replace H := hsn H
 refine p_as (v := v1) rfl <| xk hK2 <| wp_seq_k fun K3 hK3 => nameF fun m1 k1 => bn hF fun t1 hE1 hF1 => ?_
 have J2 : ∀ (v7 : Value) (cs7 rs5 : List Value) (m8 : FM) (w8 : World), (∀ t, has (3 :: 4 :: 5 :: rg 7 19 []) t = false → look m8 t = look m1 t) → look m8 3 = v7 → HS ⟨S, [], w⟩ S w8 [.osl (v7) (t1).length 1 cs7 rs5 107, .blk b1 ((cl24 x0)) 24] → RL S cs7 t1 → K3 (fr 28 m8) w8 := by
  clear H; intro v7 cs7 rs5 m8 w8 k10 q11 H g7
  refine hK3 _ _ <| sr fun K12 hK12 => p_mv (v := v7) q11 ?_
  obtain ⟨S1, hle1, g8, H1⟩ := H.fixX (k := 0) rfl g7; clear H; have H := H1; clear H1
  replace H := hsn H
  refine bn hF1 fun y4 e4 hF1 => p_call (l := [v7]) is84 rfl <| (r6_trim_c H.sub g8 e4).mono <| H.ye fun w9 v8 S2 hle2 H g9 => ?_
  replace g8 := g8.mono hle2
  refine p_as (v := v8) rfl <| xk hK12 <| wp_ret ?_
  obtain rfl := osi hF1
  refine e_1 rfl (q_tmp rfl) ?_
  exact ⟨H.toExt, _, rfl, RdS.mono g9 H.gr⟩
 refine sr fun K4 hK4 => asI rfl <| xk hK4 <| wp_block <| nameF fun m2 k2 => bn hE1 fun out1 hL1 hE2 => ?_
 replace H := hsn H
 refine loopI (3 :: 4 :: 5 :: rg 7 19 []) (fun (s1 : Int × (List UInt32)) (m3 : FM) (w3 : World) => ∃ (v2 : Value) (cs2 rs1 : List Value), look m3 3 = v2 ∧ look m3 4 = .int .i64 (s1.1) ∧ HS ⟨S, [], w⟩ S w3 [.osl (v2) (s1.2).length 1 cs2 rs1 107, .blk b1 ((cl24 x0)) 24] ∧ RL S cs2 s1.2) hL1 ⟨_, _, _, (show _ = (v1 : Value) from ((k2 3).trans (k1 3))), (k2 4), H, g1⟩ ?_
 clear H; intro k4 s1 m3 w3 k3 hI1 o2 hb1 hh1; obtain ⟨v2, cs2, rs1, q1, q2, H, g2⟩ := hI1
 have q3 : look m3 1 = .pointer (some ⟨b1, 0, none⟩) := (k3 1 rfl).trans ((k2 1).trans (k1 1))
 unfold r6_In_b0 at hb1
 refine wp_seq_k fun K5 hK5 => sr fun K6 hK6 => p_mv q2 <| p_val (r_lssI rfl rfl) <| xk hK6 ?_
 refine c_split rfl (fun hc1 => ?_) (fun hc1 => ?_)
 ·replace hb1 := cnd_t hb1 hc1
  refine wp_skip <| xn hK5 <| wp_seq_k fun K7 hK7 => nameF fun m4 k5 => bn hb1 fun t2 hE3 hF2 => ?_
  have J1 : ∀ (v6 : Value) (cs6 rs4 : List Value) (m7 : FM) (w7 : World), (∀ t, has (3 :: 5 :: rg 11 15 []) t = false → look m7 t = look m4 t) → look m7 3 = v6 → HS ⟨S, [], w⟩ S w7 [.osl (v6) (t2).length 1 cs6 rs4 107, .blk b1 ((cl24 x0)) 24] → RL S cs6 t2 → K7 (fr 28 m7) w7 := by
   clear H; intro v6 cs6 rs4 m7 w7 k9 q8 H g6
   have q9 := (k9 1 rfl).trans ((k5 1).trans q3)
   have q10 := (k9 4 rfl).trans ((k5 4).trans q2)
   refine hK7 _ _ <| wp_region_lit <| p_mv q10 <| p_val (r_addI rfl rfl) <| asI rfl <| wpList_nil <| x_norm ?_
   replace H := hsn H
   obtain rfl := osi hF2
   exact ⟨((w64 (s1.1 + 1)), t2), _, rfl, (kS k9 rfl (kN k5 (kS k3 rfl kcx))), ⟨_, _, _, (show _ = (v6 : Value) from q8), rfl, H, g6⟩, hh1⟩
  refine wp_block <| sr fun K8 hK8 => asI rfl <| xk hK8 <| wp_block <| nameF fun m5 k6 => bn hE3 fun out2 hL2 hE4 => ?_
  replace H := hsn H
  refine loopI (3 :: 5 :: rg 11 15 []) (fun (s2 : Int × (List UInt32)) (m6 : FM) (w4 : World) => ∃ (v3 : Value) (cs3 rs2 : List Value), look m6 3 = v3 ∧ look m6 5 = .int .i64 (s2.1) ∧ HS ⟨S, [], w⟩ S w4 [.osl (v3) (s2.2).length 1 cs3 rs2 107, .blk b1 ((cl24 x0)) 24] ∧ RL S cs3 s2.2) hL2 ⟨_, _, _, (show _ = (v2 : Value) from ((k6 3).trans ((k5 3).trans q1))), (k6 5), H, g2⟩ ?_
  clear H; intro k8 s2 m6 w4 k7 hI2 o4 hb2 hh2; obtain ⟨v3, cs3, rs2, q4, q5, H, g3⟩ := hI2
  have q6 := (k7 1 rfl).trans ((k6 1).trans ((k5 1).trans q3))
  have q7 := (k7 4 rfl).trans ((k6 4).trans ((k5 4).trans q2))
  unfold r6_In_b1 at hb2
  refine wp_seq_k fun K9 hK9 => sr fun K10 hK10 => p_mv q5 <| p_val (r_lssI rfl rfl) <| xk hK10 ?_
  refine c_split rfl (fun hc2 => ?_) (fun hc2 => ?_)
  ·replace hb2 := cnd_t hb2 hc2
   refine wp_skip <| xn hK9 <| wp_seq_k fun K11 hK11 => wp_block <| wp_region_lit <| p_mv (v := v3) q4 <| p_mv q7 <| bn hb2 fun y1 e1 hb2 => p_val (r_addrA (i := (s1.1 : Int).toNat) u24 sz22 q6 rfl rfl (by have h1_ := (idx_some e1).1; omega) (by have h1_ := (idx_some e1).1; have h2_ := idx_lt e1; simp only [List.length_cons, List.length_nil] at h2_; omega)) ?_
   refine p_val (h_loadA (cf := fun a_ : UInt64 => Value.int .u64 (((a_).toNat : Int))) (o := 0) to22 H rfl (k := 1) rfl e1 rfl) <| p_mv q5 <| p_val (r_mulI rfl rfl) <| bn hb2 fun y2 e2 hb2 => p_val (r_shr rfl rfl (Int.not_lt.2 (of_decide_eq_true (chk_some e2))) (i64_shr _ _)) <| p_val (r_bits (bo := .and) (by simp) rfl rfl (i64_and _ (65535 : UInt64))) <| p_val (r_conv u22 u107 rfl (i32_wrap _)) ?_
   refine p_of2 (a_bsliceG (N := 1) (xs := ([(i32 ((((i64 (shrI .u64 ((y1).toNat : Int) (w64 ((16 : Int) * s2.1)))) &&& (65535 : UInt64))).toNat : Int))] : List UInt32)) (RL.cons rpU32 RL.nil) tn63 H rfl rfl rfl) fun w5 v4 cs4 H g4 => ?_
   replace H := hsn H
   refine bn hb2 fun y3 e3 hb2 => p_of3 (a_appendX (k := 1) (v2 := v4) tn63 rfl H rfl rfl g3 rfl (H.slW (k := 0) rfl) g4 e3) fun w6 v5 cs5 rs3 H g5 => ?_
   replace H := hsn H
   replace H := H.sel [1, 2] rfl
   replace H := hsn H
   refine p_as (v := v5) rfl <| wpList_nil <| b_norm <| xn hK11 <| wp_region_lit <| p_mv q5 <| p_val (r_addI rfl rfl) <| asI rfl <| wpList_nil ?_
   refine x_norm ?_
   replace H := hsn H
   obtain rfl := osi hb2
   exact ⟨((w64 (s2.1 + 1)), y3), _, rfl, (kS k7 rfl kcx), ⟨_, _, _, rfl, rfl, H, g5⟩, hh2⟩
  ·replace hb2 := cnd_f hb2 hc2
   refine wp_exit <| x_exit <| x_exit <| b_hit <| b_norm <| x_norm ?_
   replace H := hsn H
   obtain rfl := osi hb2
   obtain rfl := osi hh2
   obtain rfl := osi hE4
   exact J1 _ _ _ _ _ (kS k7 rfl (kN k6 kcx)) (show _ = (v3 : Value) from q4) H g3
 ·replace hb1 := cnd_f hb1 hc1
  refine wp_exit <| x_exit <| x_exit <| b_hit <| x_norm ?_
  replace H := hsn H
  obtain rfl := osi hb1
  obtain rfl := osi hh1
  obtain rfl := osi hE2
  exact J2 _ _ _ _ _ (kS k3 rfl (kN k2 kcx)) (show _ = (v2 : Value) from q1) H g2
def r6_Cmp_b0 (y1 : (List UInt32)) (y2 : (List UInt32)) (s1 : Int) : Option ((Int) ⊕ ((Int) ⊕ (Unit))) :=
  bif decide ((0 : Int) ≤ s1) then (Option.bind (idx y1 s1) fun y3 => Option.bind (idx y2 s1) fun y4 => bif decide (((y3).toNat : Int) < ((y4).toNat : Int)) then (some (.inr (.inl ((-1))))) else (Option.bind (idx y1 s1) fun y5 => Option.bind (idx y2 s1) fun y6 => bif decide (((y6).toNat : Int) < ((y5).toNat : Int)) then (some (.inr (.inl (1)))) else (some (.inl ((w64 (s1 - 1))))))) else (some (.inr (.inr (()))))
def r6_Cmp_p (x0 : List UInt32) (x1 : List UInt32) : Option (Int) :=
  Option.bind (r6_trim_p x0) fun y1 => Option.bind (r6_trim_p x1) fun y2 => bif (((y1).length : Int) != ((y2).length : Int)) then (bif decide (((y1).length : Int) < ((y2).length : Int)) then (some ((-1))) else (some (1))) else (jn (Option.bind (iter (r6_Cmp_b0 y1 y2) ((w64 (((y1).length : Int) - 1)))) (fun e => jnO e (fun e1 => some (.inr (e1))) (fun e2 => some (.inl (e2))))) (fun t1 => some (0)) (fun e => some (e)))
theorem r6_Cmp_c {S : Mem} {w : World} (hS : Sub S w) {v0_ : Value} {x0 : List UInt32} (h0_ : RdS S v0_ x0) {v1_ : Value} {x1 : List UInt32} (h1_ : RdS S v1_ x1) {r : Int} (hF : r6_Cmp_p x0 x1 = some r) :
    Calls Tryz.prog 69 #[v0_, v1_] w fun e w' => e = .returned (.int .i64 (r)) ∧ Ext w w' := by
 refine enter (n := 45) Tryz.func69 rfl rfl rfl ?_
 have H := HS.start hS
 unfold r6_Cmp_p at hF
 refine sr fun K1 hK1 => asI rfl <| xk hK1 <| sr fun K2 hK2 => p_mv (v := v0_) rfl <| bn hF fun y1 e1 hF => p_call (l := [v0_]) is84 rfl <| (r6_trim_c H.sub h0_ e1).mono <| H.ye fun w1 v1 S1 hle1 H g1 => ?_
 replace h0_ := h0_.mono hle1
 replace h1_ := h1_.mono hle1
 refine p_mv (v := v1_) rfl <| bn hF fun y2 e2 hF => p_call (l := [v1_]) is84 rfl <| (r6_trim_c H.sub h1_ e2).mono <| H.ye fun w2 v2 S2 hle2 H g2 => ?_
 replace h0_ := h0_.mono hle2
 replace h1_ := h1_.mono hle2
 replace g1 := g1.mono hle2
 refine p_as (v := v1) rfl <| p_as (v := v2) rfl <| xk hK2 <| wp_seq_k fun K3 hK3 => sr fun K4 hK4 => p_mv (v := v1) rfl <| p_val (r_lenR' u63 rfl g1 H.sub) <| p_mv (v := v2) rfl <| p_val (r_lenR' u63 rfl g2 H.sub) ?_
 refine p_val (r_neqI rfl rfl) <| xk hK4 ?_
 refine c_split rfl (fun hc1 => ?_) (fun hc1 => ?_)
 ·replace hF := cnd_t hF hc1
  refine wp_seq_k fun K5 hK5 => sr fun K6 hK6 => p_mv (v := v1) rfl <| p_val (r_lenR' u63 rfl g1 H.sub) <| p_mv (v := v2) rfl <| p_val (r_lenR' u63 rfl g2 H.sub) <| p_val (r_lssI rfl rfl) <| xk hK6 ?_
  refine c_split rfl (fun hc2 => ?_) (fun hc2 => ?_)
  ·replace hF := cnd_t hF hc2
   refine sr fun K7 hK7 => asI rfl <| xk hK7 <| wp_ret <| x_ret <| x_ret ?_
   obtain rfl := osi hF
   refine e_1 rfl (q_tmp rfl) ?_
   exact ⟨rfl, H.toExt⟩
  ·replace hF := cnd_f hF hc2
   refine wp_skip <| xn hK5 <| sr fun K8 hK8 => asI rfl <| xk hK8 <| wp_ret <| x_ret ?_
   obtain rfl := osi hF
   refine e_1 rfl (q_tmp rfl) ?_
   exact ⟨rfl, H.toExt⟩
 ·replace hF := cnd_f hF hc1
  refine wp_skip <| xn hK3 <| wp_seq_k fun K9 hK9 => nameF fun m1 k1 => ?_
  obtain ⟨o1, hE1, hF1⟩ := jn_some hF
  have J1 : ∀ (t1 : Unit) (m4 : FM) (w6 : World), o1 = .inl t1 → (∀ t, has (4 :: 5 :: rg 20 25 []) t = false → look m4 t = look m1 t) → HS ⟨S, [], w⟩ S2 w6 [] → K9 (fr 45 m4) w6 := by
   clear H; intro t1 m4 w6 ho k5 H
   replace hF1 := jnO_l hF1 ho
   refine hK9 _ _ <| sr fun K19 hK19 => asI rfl <| xk hK19 <| wp_ret ?_
   obtain rfl := osi hF1
   refine e_1 rfl (q_tmp rfl) ?_
   exact ⟨rfl, H.toExt⟩
  refine sr fun K10 hK10 => p_mv (v := v1) (k1 0) <| p_val (r_lenR' u63 rfl g1 H.sub) <| p_val (r_subI rfl rfl) <| asI rfl <| xk hK10 <| wp_block <| nameF fun m2 k2 => bn hE1 fun out1 hL1 hE2 => ?_
  replace H := hsn H
  refine loopI (4 :: 5 :: rg 23 22 []) (fun (s1 : Int) (m3 : FM) (w3 : World) => look m3 5 = .int .i64 (s1) ∧ HS ⟨S, [], w⟩ S2 w3 []) hL1 ⟨(k2 5), H⟩ ?_
  clear H; intro k4 s1 m3 w3 k3 hI1 o2 hb1 hh1; obtain ⟨q1, H⟩ := hI1
  have q2 : look m3 0 = v1 := (k3 0 rfl).trans ((k2 0).trans (k1 0))
  have q3 : look m3 1 = v2 := (k3 1 rfl).trans ((k2 1).trans (k1 1))
  unfold r6_Cmp_b0 at hb1
  refine wp_seq_k fun K11 hK11 => sr fun K12 hK12 => p_mv q1 <| p_val (r_geqI rfl rfl) <| xk hK12 ?_
  refine c_split rfl (fun hc3 => ?_) (fun hc3 => ?_)
  ·replace hb1 := cnd_t hb1 hc3
   refine wp_skip <| xn hK11 <| wp_seq_k fun K13 hK13 => wp_block <| wp_seq_k fun K14 hK14 => wp_seq_k fun K15 hK15 => bn hb1 fun y3 e3 hb1 => ?_
   obtain ⟨b1, o3, N1, c1, cs1, hv1, hi1, hc4, hr1⟩ := g1.get (idx_some e3).2
   obtain rfl := elU32 hr1
   refine bn hb1 fun y4 e4 hb1 => ?_
   obtain ⟨b2, o4, N2, c2, cs2, hv2, hi2, hc5, hr2⟩ := g2.get (idx_some e4).2
   obtain rfl := elU32 hr2
   apply wp_region_ext 9 (kindsF []) rfl rfl (by kernel_rfl); intro vs1
   simp only [tkS, tkZ, drS, drZ]
   replace H := H.drew
   refine tp (r_move (v := v1) q2) <| tp (r_move q1) <| tp (r_addrV (i := (s1 : Int).toNat) u63 tsz107 rfl hv1 rfl (idx_some e3).1 hi1) <| t_v (fun w hx => s_load1 (p := (o3 + (s1 : Int).toNat * 1)) (o := 0) (v := .int .u32 (((y3).toNat : Int))) to107 (H.ext hx).sub rfl hc4 rfl) <| tp (r_move (v := v2) q3) <| tp (r_move q1) <| tp (r_addrV (i := (s1 : Int).toNat) u63 tsz107 rfl hv2 rfl (idx_some e4).1 hi2) ?_
   refine t_v (fun w hx => s_load1 (p := (o4 + (s1 : Int).toNat * 1)) (o := 0) (v := .int .u32 (((y4).toNat : Int))) to107 (H.ext hx).sub rfl hc5 rfl) <| tp (r_lssI rfl rfl) ?_
   refine t_nil (fun w4 hx hF hA => ?_)
   replace H := H.ext hx; clear hx hF hA
   refine wpList_nil ?_; refine on_norm ?_
   refine xn hK15 ?_
   refine c_split rfl (fun hc6 => ?_) (fun hc6 => ?_)
   ·replace hb1 := cnd_t hb1 hc6
    refine sr fun K16 hK16 => asI rfl <| xk hK16 <| wp_ret <| x_ret <| b_ret <| x_ret <| x_ret <| b_ret ?_
    refine x_ret ?_
    obtain rfl := osi hb1
    obtain rfl := osi hh1
    obtain rfl := osi hE2
    obtain rfl := osi hF1
    refine e_1 rfl (q_tmp rfl) ?_
    exact ⟨rfl, H.toExt⟩
   ·replace hb1 := cnd_f hb1 hc6
    refine wp_skip <| xn hK14 <| wp_seq_k fun K17 hK17 => bn hb1 fun y5 e5 hb1 => ?_
    obtain ⟨b3, o5, N3, c3, cs3, hv3, hi3, hc7, hr3⟩ := g1.get (idx_some e5).2
    obtain rfl := elU32 hr3
    refine bn hb1 fun y6 e6 hb1 => ?_
    obtain ⟨b4, o6, N4, c4, cs4, hv4, hi4, hc8, hr4⟩ := g2.get (idx_some e6).2
    obtain rfl := elU32 hr4
    apply wp_region_ext 9 (kindsF []) rfl rfl (by kernel_rfl); intro vs2
    simp only [tkS, tkZ, drS, drZ]
    replace H := H.drew
    refine tp (r_move (v := v1) q2) <| tp (r_move q1) <| tp (r_addrV (i := (s1 : Int).toNat) u63 tsz107 rfl hv3 rfl (idx_some e5).1 hi3) <| t_v (fun w hx => s_load1 (p := (o5 + (s1 : Int).toNat * 1)) (o := 0) (v := .int .u32 (((y5).toNat : Int))) to107 (H.ext hx).sub rfl hc7 rfl) <| tp (r_move (v := v2) q3) <| tp (r_move q1) <| tp (r_addrV (i := (s1 : Int).toNat) u63 tsz107 rfl hv4 rfl (idx_some e6).1 hi4) ?_
    refine t_v (fun w hx => s_load1 (p := (o6 + (s1 : Int).toNat * 1)) (o := 0) (v := .int .u32 (((y6).toNat : Int))) to107 (H.ext hx).sub rfl hc8 rfl) <| tp (r_gtrI rfl rfl) ?_
    refine t_nil (fun w5 hx hF hA => ?_)
    replace H := H.ext hx; clear hx hF hA
    refine wpList_nil ?_; refine on_norm ?_
    refine xn hK17 ?_
    refine c_split rfl (fun hc9 => ?_) (fun hc9 => ?_)
    ·replace hb1 := cnd_t hb1 hc9
     refine sr fun K18 hK18 => asI rfl <| xk hK18 <| wp_ret <| b_ret <| x_ret <| x_ret <| b_ret <| x_ret ?_
     obtain rfl := osi hb1
     obtain rfl := osi hh1
     obtain rfl := osi hE2
     obtain rfl := osi hF1
     refine e_1 rfl (q_tmp rfl) ?_
     exact ⟨rfl, H.toExt⟩
    ·replace hb1 := cnd_f hb1 hc9
     refine wp_skip <| b_norm <| xn hK13 <| wp_region_lit <| p_mv q1 <| p_val (r_subI rfl rfl) <| asI rfl <| wpList_nil <| x_norm ?_
     replace H := hsn H
     obtain rfl := osi hb1
     exact ⟨(w64 (s1 - 1)), _, rfl, (kS k3 rfl kcx), ⟨rfl, H⟩, hh1⟩
  ·replace hb1 := cnd_f hb1 hc3
   refine wp_exit <| x_exit <| x_exit <| b_hit <| x_norm ?_
   replace H := hsn H
   obtain rfl := osi hb1
   obtain rfl := osi hh1
   obtain rfl := osi hE2
   exact J1 _ _ _ rfl (kS k3 rfl (kN k2 kcx)) H
def r6_Add_b0 (x0 : List UInt32) (x1 : List UInt32) (s1 : UInt32 × Int × (List UInt32)) : Option ((UInt32 × Int × (List UInt32)) ⊕ (UInt32 × (List UInt32))) :=
  bif (bif decide (s1.2.1 < ((x0).length : Int)) then true else decide (s1.2.1 < ((x1).length : Int))) then (Option.bind (bif decide (s1.2.1 < ((x0).length : Int)) then (Option.bind (idx x0 s1.2.1) fun y1 => some ((i32 (((s1.1).toNat : Int) + ((y1).toNat : Int))))) else (some (s1.1))) (fun t2 => Option.bind (bif decide (s1.2.1 < ((x1).length : Int)) then (Option.bind (idx x1 s1.2.1) fun y2 => some ((i32 (((t2).toNat : Int) + ((y2).toNat : Int))))) else (some (t2))) (fun t3 => Option.bind (app s1.2.2 ([(t3 &&& (65535 : UInt32))] : List UInt32)) fun y3 => some (.inl (((i32 (shrI .u32 ((t3).toNat : Int) 16)), (w64 (s1.2.1 + 1)), y3)))))) else (some (.inr ((s1.1, s1.2.2))))
def r6_Add_p (x0 : List UInt32) (x1 : List UInt32) : Option ((List UInt32)) :=
  Option.bind (Option.bind (iter (r6_Add_b0 x0 x1) (((0 : UInt32), 0, ([] : List UInt32)))) (fun e => some (e))) (fun t1 => Option.bind (app t1.2 ([t1.1] : List UInt32)) fun y4 => Option.bind (r6_trim_p y4) fun y5 => some (y5))
theorem r6_Add_c {S : Mem} {w : World} (hS : Sub S w) {v0_ : Value} {x0 : List UInt32} (h0_ : RdS S v0_ x0) {v1_ : Value} {x1 : List UInt32} (h1_ : RdS S v1_ x1) {r : (List UInt32)} (hF : r6_Add_p x0 x1 = some r) :
    Calls Tryz.prog 150 #[v0_, v1_] w fun e w' => Ext w w' ∧ ∃ (v0' : Value), e = .returned (v0') ∧ RdS (gr S w w') v0' r := by
 refine enter (n := 53) Tryz.func150 rfl rfl rfl ?_
 have H := HS.start hS
 unfold r6_Add_p at hF
 refine sr fun K1 hK1 => asN rfl <| xk hK1 <| sr fun K2 hK2 => ?_
 have g1 : RL S ([] : List Value) ([] : List UInt32) := RL.nil
 refine p_of1 (a_bslice (N := 0) (vals := []) (l := ([] : List Value)) tn63 H rfl rfl rfl g1.len) fun w1 v1 H => ?_
 replace H := hsn H
 refine p_as (v := v1) rfl <| xk hK2 <| sr fun K3 hK3 => asI rfl <| xk hK3 <| wp_seq_k fun K4 hK4 => nameF fun m1 k1 => bn hF fun t1 hE1 hF1 => ?_
 have J4 : ∀ (v5 : Value) (cs7 rs3 : List Value) (m10 : FM) (w7 : World), (∀ t, has (5 :: 6 :: 7 :: rg 9 39 []) t = false → look m10 t = look m1 t) → look m10 5 = v5 → look m10 6 = .int .u32 (((t1.1).toNat : Int)) → HS ⟨S, [], w⟩ S w7 [.osl (v5) (t1.2).length 1 cs7 rs3 107] → RL S cs7 t1.2 → K4 (fr 53 m10) w7 := by
  clear H; intro v5 cs7 rs3 m10 w7 k11 q22 q23 H g5
  refine hK4 _ _ <| sr fun K15 hK15 => p_mv (v := v5) q22 <| p_mv q23 <| p_of2 (a_bsliceG (N := 1) (xs := ([t1.1] : List UInt32)) (RL.cons rpU32 RL.nil) tn63 H rfl rfl rfl) fun w8 v6 cs8 H g6 => ?_
  replace H := hsn H
  refine bn hF1 fun y4 e4 hF1 => p_of3 (a_appendX (k := 1) (v2 := v6) tn63 rfl H rfl rfl g5 rfl (H.slW (k := 0) rfl) g6 e4) fun w9 v7 cs9 rs4 H g7 => ?_
  replace H := hsn H
  replace H := H.sel [1] rfl
  replace H := hsn H
  obtain ⟨S1, hle1, g8, H1⟩ := H.fixX (k := 0) rfl g7; clear H; have H := H1; clear H1
  replace H := hsn H
  refine bn hF1 fun y5 e5 hF1 => p_call (l := [v7]) is84 rfl <| (r6_trim_c H.sub g8 e5).mono <| H.ye fun w10 v8 S2 hle2 H g9 => ?_
  replace g8 := g8.mono hle2
  refine p_as (v := v8) rfl <| xk hK15 <| wp_ret ?_
  obtain rfl := osi hF1
  refine e_1 rfl (q_tmp rfl) ?_
  exact ⟨H.toExt, _, rfl, RdS.mono g9 H.gr⟩
 refine sr fun K5 hK5 => asI rfl <| xk hK5 <| wp_block <| nameF fun m2 k2 => bn hE1 fun out1 hL1 hE2 => ?_
 replace H := hsn H
 refine loopI (5 :: 6 :: 7 :: rg 9 39 []) (fun (s1 : UInt32 × Int × (List UInt32)) (m3 : FM) (w2 : World) => ∃ (v2 : Value) (cs2 rs1 : List Value), look m3 5 = v2 ∧ look m3 6 = .int .u32 (((s1.1).toNat : Int)) ∧ look m3 7 = .int .i64 (s1.2.1) ∧ HS ⟨S, [], w⟩ S w2 [.osl (v2) (s1.2.2).length 1 cs2 rs1 107] ∧ RL S cs2 s1.2.2) hL1 ⟨_, _, _, (show _ = (v1 : Value) from ((k2 5).trans (k1 5))), ((k2 6).trans (k1 6)), (k2 7), H, g1⟩ ?_
 clear H; intro k4 s1 m3 w2 k3 hI1 o2 hb1 hh1; obtain ⟨v2, cs2, rs1, q1, q2, q3, H, g2⟩ := hI1
 have q4 : look m3 0 = v0_ := (k3 0 rfl).trans ((k2 0).trans (k1 0))
 have q5 : look m3 1 = v1_ := (k3 1 rfl).trans ((k2 1).trans (k1 1))
 unfold r6_Add_b0 at hb1
 refine wp_seq_k fun K6 hK6 => sr fun K7 hK7 => p_mv q3 <| p_mv (v := v0_) q4 <| p_val (r_lenR' u63 rfl h0_ H.sub) <| p_val (r_lssI rfl rfl) <| mvB rfl <| nameL fun m4 k5 => gs_at 5 fun K8 hK8 R2 hR2 => ?_
 have J1 : ∀ (m5 : FM), (∀ t, has [14, 15, 16, 17, 18] t = false → look m5 t = look m4 t) → look m5 18 = .bool ((bif decide (s1.2.1 < ((x0).length : Int)) then true else decide (s1.2.1 < ((x1).length : Int)))) → K8 m5 w2 := by
  intro m5 k6 q6
  have q7 := (k6 0 rfl).trans ((k5 0).trans q4)
  have q8 := (k6 1 rfl).trans ((k5 1).trans q5)
  have q9 := (k6 5 rfl).trans ((k5 5).trans q1)
  have q10 := (k6 6 rfl).trans ((k5 6).trans q2)
  have q11 := (k6 7 rfl).trans ((k5 7).trans q3)
  refine hK8 _ _ ?_; clear hK8 hR2
  refine xk hK7 ?_
  refine c_split q6 (fun hc1 => ?_) (fun hc1 => ?_)
  ·replace hb1 := cnd_t hb1 hc1
   refine wp_skip <| xn hK6 <| wp_seq_k fun K9 hK9 => wp_block <| wp_seq_k fun K10 hK10 => nameF fun m6 k7 => bn hb1 fun t2 hE3 hF2 => ?_
   have J3 : ∀ (m7 : FM) (w3 : World), (∀ t, has (6 :: rg 21 10 []) t = false → look m7 t = look m6 t) → look m7 6 = .int .u32 (((t2).toNat : Int)) → HS ⟨S, [], w⟩ S w3 [.osl (v2) (s1.2.2).length 1 cs2 rs1 107] → K10 (fr 53 m7) w3 := by
    clear H; intro m7 w3 k8 q12 H
    have q13 := (k8 0 rfl).trans ((k7 0).trans q7)
    have q14 := (k8 1 rfl).trans ((k7 1).trans q8)
    have q15 := (k8 5 rfl).trans ((k7 5).trans q9)
    have q16 := (k8 7 rfl).trans ((k7 7).trans q11)
    refine hK10 _ _ <| wp_seq_k fun K12 hK12 => nameF fun m8 k9 => bn hF2 fun t3 hE4 hF3 => ?_
    have J2 : ∀ (m9 : FM) (w4 : World), (∀ t, has (6 :: rg 31 10 []) t = false → look m9 t = look m8 t) → look m9 6 = .int .u32 (((t3).toNat : Int)) → HS ⟨S, [], w⟩ S w4 [.osl (v2) (s1.2.2).length 1 cs2 rs1 107] → K12 (fr 53 m9) w4 := by
     clear H; intro m9 w4 k10 q17 H
     have q18 := (k10 0 rfl).trans ((k9 0).trans q13)
     have q19 := (k10 1 rfl).trans ((k9 1).trans q14)
     have q20 := (k10 5 rfl).trans ((k9 5).trans q15)
     have q21 := (k10 7 rfl).trans ((k9 7).trans q16)
     refine hK12 _ _ <| sr fun K14 hK14 => p_mv (v := v2) q20 <| p_mv q17 <| p_val (r_bits (bo := .and) (by simp) rfl rfl (i32_and _ (65535 : UInt32))) <| p_of2 (a_bsliceG (N := 1) (xs := ([(t3 &&& (65535 : UInt32))] : List UInt32)) (RL.cons rpU32 RL.nil) tn63 H rfl rfl rfl) fun w5 v3 cs5 H g3 => ?_
     replace H := hsn H
     refine bn hF3 fun y3 e3 hF3 => p_of3 (a_appendX (k := 1) (v2 := v3) tn63 rfl H rfl rfl g2 rfl (H.slW (k := 0) rfl) g3 e3) fun w6 v4 cs6 rs2 H g4 => ?_
     replace H := hsn H
     replace H := H.sel [1] rfl
     replace H := hsn H
     refine p_as (v := v4) rfl <| xk hK14 <| wp_region_lit <| p_mv q17 <| p_val (r_shr rfl rfl (by decide) (i32_shr _ _)) <| asI rfl <| wpList_nil <| b_norm <| xn hK9 ?_
     refine wp_region_lit <| p_mv q21 <| p_val (r_addI rfl rfl) <| asI rfl <| wpList_nil <| x_norm ?_
     replace H := hsn H
     obtain rfl := osi hF3
     exact ⟨((i32 (shrI .u32 ((t3).toNat : Int) 16)), (w64 (s1.2.1 + 1)), y3), _, rfl, (kS k10 rfl (kN k9 (kS k8 rfl (kN k7 (kS k6 rfl (kN k5 (kS k3 rfl kcx))))))), ⟨_, _, _, rfl, rfl, rfl, H, g4⟩, hh1⟩
    refine sr fun K13 hK13 => p_mv ((k9 7).trans q16) <| p_mv (v := v1_) ((k9 1).trans q14) <| p_val (r_lenR' u63 rfl h1_ H.sub) <| p_val (r_lssI rfl rfl) <| xk hK13 ?_
    refine c_split rfl (fun hc4 => ?_) (fun hc4 => ?_)
    ·replace hE4 := cnd_t hE4 hc4
     refine wp_region_lit <| p_mv ((k9 6).trans q12) <| p_mv (v := v1_) ((k9 1).trans q14) <| p_mv ((k9 7).trans q16) <| bn hE4 fun y2 e2 hE4 => ?_
     obtain ⟨b2, o6, N2, c2, cs4, hv2, hi2, hc5, hr2⟩ := h1_.get (idx_some e2).2
     refine p_val (r_addrV (i := (s1.2.1 : Int).toNat) u63 tsz107 rfl hv2 rfl (idx_some e2).1 hi2) ?_
     obtain rfl := elU32 hr2
     refine p_val (s_load1 (p := (o6 + (s1.2.1 : Int).toNat * 1)) (o := 0) (v := .int .u32 (((y2).toNat : Int))) to107 H.sub rfl hc5 rfl) <| p_val (r_add rfl rfl (i32_wrap _)) <| asI rfl <| wpList_nil <| x_norm ?_
     replace H := hsn H
     obtain rfl := osi hE4
     exact J2 _ _ kcx rfl H
    ·replace hE4 := cnd_f hE4 hc4
     refine wp_skip <| x_norm ?_
     replace H := hsn H
     obtain rfl := osi hE4
     exact J2 _ _ kcx ((k9 6).trans q12) H
   refine sr fun K11 hK11 => p_mv ((k7 7).trans q11) <| p_mv (v := v0_) ((k7 0).trans q7) <| p_val (r_lenR' u63 rfl h0_ H.sub) <| p_val (r_lssI rfl rfl) <| xk hK11 ?_
   refine c_split rfl (fun hc2 => ?_) (fun hc2 => ?_)
   ·replace hE3 := cnd_t hE3 hc2
    refine wp_region_lit <| p_mv ((k7 6).trans q10) <| p_mv (v := v0_) ((k7 0).trans q7) <| p_mv ((k7 7).trans q11) <| bn hE3 fun y1 e1 hE3 => ?_
    obtain ⟨b1, o4, N1, c1, cs3, hv1, hi1, hc3, hr1⟩ := h0_.get (idx_some e1).2
    refine p_val (r_addrV (i := (s1.2.1 : Int).toNat) u63 tsz107 rfl hv1 rfl (idx_some e1).1 hi1) ?_
    obtain rfl := elU32 hr1
    refine p_val (s_load1 (p := (o4 + (s1.2.1 : Int).toNat * 1)) (o := 0) (v := .int .u32 (((y1).toNat : Int))) to107 H.sub rfl hc3 rfl) <| p_val (r_add rfl rfl (i32_wrap _)) <| asI rfl <| wpList_nil <| x_norm ?_
    replace H := hsn H
    obtain rfl := osi hE3
    exact J3 _ _ kcx rfl H
   ·replace hE3 := cnd_f hE3 hc2
    refine wp_skip <| x_norm ?_
    replace H := hsn H
    obtain rfl := osi hE3
    exact J3 _ _ kcx ((k7 6).trans q10) H
  ·replace hb1 := cnd_f hb1 hc1
   refine wp_exit <| x_exit <| x_exit <| b_hit <| x_norm ?_
   replace H := hsn H
   obtain rfl := osi hb1
   obtain rfl := osi hh1
   obtain rfl := osi hE2
   exact J4 _ _ _ _ _ (kS k6 rfl (kN k5 (kS k3 rfl (kN k2 kcx)))) (show _ = (v2 : Value) from q9) q10 H g2
 refine p_gs (j := 4) (gvl_at rfl rfl (k5 13)) (fun hb2 => ?_) (fun hb2 => ?_)
 ·skip
  refine p_skip (gvl_at rfl rfl (k5 13)) hb2 ?_
  rw [put_fr]
  refine p_skip (gvl_at rfl rfl (k5 13)) hb2 ?_
  rw [put_fr]
  refine p_skip (gvl_at rfl rfl (k5 13)) hb2 ?_
  rw [put_fr]
  refine p_skip (gvl_at rfl rfl (k5 13)) hb2 ?_
  rw [put_fr]
  refine p_val (r_pickt (v := .bool (true)) (k5 13) hb2 rfl) <| hR2 _ _ ?_
  exact J1 _ kcx (show (.bool (true) : Value) = .bool ((bif decide (s1.2.1 < ((x0).length : Int)) then true else decide (s1.2.1 < ((x1).length : Int)))) from congrArg Value.bool (by simp only [hb2, cond_true, cond_false]))
 ·skip
  refine p_want (gvl_at rfl rfl (k5 13)) hb2 <| p_mv ((k5 7).trans q3) <| p_want (gvl_at rfl rfl (k5 13)) hb2 <| p_mv (v := v1_) ((k5 1).trans q5) <| p_want (gvl_at rfl rfl (k5 13)) hb2 <| p_val (r_lenR' u63 rfl h1_ H.sub) <| p_want (gvl_at rfl rfl (k5 13)) hb2 <| p_val (r_lssI rfl rfl) <| p_val (r_pickf (v := .bool (decide (s1.2.1 < ((x1).length : Int)))) (k5 13) hb2 rfl) ?_
  refine hR2 _ _ ?_
  exact J1 _ kcx (show (.bool (decide (s1.2.1 < ((x1).length : Int))) : Value) = .bool ((bif decide (s1.2.1 < ((x0).length : Int)) then true else decide (s1.2.1 < ((x1).length : Int)))) from congrArg Value.bool (by simp only [hb2, cond_true, cond_false]))
def r6_Sub_b0 (x0 : List UInt32) (x1 : List UInt32) (s1 : UInt32 × Int × (List UInt32)) : Option ((UInt32 × Int × (List UInt32)) ⊕ ((List UInt32))) :=
  bif decide (s1.2.1 < ((x0).length : Int)) then (Option.bind (idx x0 s1.2.1) fun y1 => Option.bind (bif decide (s1.2.1 < ((x1).length : Int)) then (Option.bind (idx x1 s1.2.1) fun y2 => some ((i32 ((((i32 ((((i32 ((65536 : Int) + ((y1).toNat : Int)))).toNat : Int) - ((s1.1).toNat : Int)))).toNat : Int) - ((y2).toNat : Int))))) else (some ((i32 ((((i32 ((65536 : Int) + ((y1).toNat : Int)))).toNat : Int) - ((s1.1).toNat : Int)))))) (fun t2 => Option.bind (app s1.2.2 ([(t2 &&& (65535 : UInt32))] : List UInt32)) fun y3 => some (.inl (((i32 ((1 : Int) - (((i32 (shrI .u32 ((t2).toNat : Int) 16))).toNat : Int))), (w64 (s1.2.1 + 1)), y3))))) else (some (.inr (s1.2.2)))
def r6_Sub_p (x0 : List UInt32) (x1 : List UInt32) : Option ((List UInt32)) :=
  Option.bind (Option.bind (iter (r6_Sub_b0 x0 x1) (((0 : UInt32), 0, ([] : List UInt32)))) (fun e => some (e))) (fun t1 => Option.bind (r6_trim_p t1) fun y4 => some (y4))
theorem r6_Sub_c {S : Mem} {w : World} (hS : Sub S w) {v0_ : Value} {x0 : List UInt32} (h0_ : RdS S v0_ x0) {v1_ : Value} {x1 : List UInt32} (h1_ : RdS S v1_ x1) {r : (List UInt32)} (hF : r6_Sub_p x0 x1 = some r) :
    Calls Tryz.prog 121 #[v0_, v1_] w fun e w' => Ext w w' ∧ ∃ (v0' : Value), e = .returned (v0') ∧ RdS (gr S w w') v0' r := by
 refine enter (n := 43) Tryz.func121 rfl rfl rfl ?_
 have H := HS.start hS
 unfold r6_Sub_p at hF
 refine sr fun K1 hK1 => asN rfl <| xk hK1 <| sr fun K2 hK2 => ?_
 have g1 : RL S ([] : List Value) ([] : List UInt32) := RL.nil
 refine p_of1 (a_bslice (N := 0) (vals := []) (l := ([] : List Value)) tn63 H rfl rfl rfl g1.len) fun w1 v1 H => ?_
 replace H := hsn H
 refine p_as (v := v1) rfl <| xk hK2 <| sr fun K3 hK3 => asI rfl <| xk hK3 <| wp_seq_k fun K4 hK4 => nameF fun m1 k1 => bn hF fun t1 hE1 hF1 => ?_
 have J2 : ∀ (v5 : Value) (cs7 rs3 : List Value) (m6 : FM) (w6 : World), (∀ t, has (5 :: 6 :: 7 :: 8 :: rg 10 31 []) t = false → look m6 t = look m1 t) → look m6 5 = v5 → HS ⟨S, [], w⟩ S w6 [.osl (v5) (t1).length 1 cs7 rs3 107] → RL S cs7 t1 → K4 (fr 43 m6) w6 := by
  clear H; intro v5 cs7 rs3 m6 w6 k7 q11 H g5
  refine hK4 _ _ <| sr fun K13 hK13 => p_mv (v := v5) q11 ?_
  obtain ⟨S1, hle1, g6, H1⟩ := H.fixX (k := 0) rfl g5; clear H; have H := H1; clear H1
  replace H := hsn H
  refine bn hF1 fun y4 e4 hF1 => p_call (l := [v5]) is84 rfl <| (r6_trim_c H.sub g6 e4).mono <| H.ye fun w7 v6 S2 hle2 H g7 => ?_
  replace g6 := g6.mono hle2
  refine p_as (v := v6) rfl <| xk hK13 <| wp_ret ?_
  obtain rfl := osi hF1
  refine e_1 rfl (q_tmp rfl) ?_
  exact ⟨H.toExt, _, rfl, RdS.mono g7 H.gr⟩
 refine sr fun K5 hK5 => asI rfl <| xk hK5 <| wp_block <| nameF fun m2 k2 => bn hE1 fun out1 hL1 hE2 => ?_
 replace H := hsn H
 refine loopI (5 :: 6 :: 7 :: 8 :: rg 10 31 []) (fun (s1 : UInt32 × Int × (List UInt32)) (m3 : FM) (w2 : World) => ∃ (v2 : Value) (cs2 rs1 : List Value), look m3 5 = v2 ∧ look m3 6 = .int .u32 (((s1.1).toNat : Int)) ∧ look m3 7 = .int .i64 (s1.2.1) ∧ HS ⟨S, [], w⟩ S w2 [.osl (v2) (s1.2.2).length 1 cs2 rs1 107] ∧ RL S cs2 s1.2.2) hL1 ⟨_, _, _, (show _ = (v1 : Value) from ((k2 5).trans (k1 5))), ((k2 6).trans (k1 6)), (k2 7), H, g1⟩ ?_
 clear H; intro k4 s1 m3 w2 k3 hI1 o2 hb1 hh1; obtain ⟨v2, cs2, rs1, q1, q2, q3, H, g2⟩ := hI1
 have q4 : look m3 0 = v0_ := (k3 0 rfl).trans ((k2 0).trans (k1 0))
 have q5 : look m3 1 = v1_ := (k3 1 rfl).trans ((k2 1).trans (k1 1))
 unfold r6_Sub_b0 at hb1
 refine wp_seq_k fun K6 hK6 => sr fun K7 hK7 => p_mv q3 <| p_mv (v := v0_) q4 <| p_val (r_lenR' u63 rfl h0_ H.sub) <| p_val (r_lssI rfl rfl) <| xk hK7 ?_
 refine c_split rfl (fun hc1 => ?_) (fun hc1 => ?_)
 ·replace hb1 := cnd_t hb1 hc1
  refine wp_skip <| xn hK6 <| wp_seq_k fun K8 hK8 => wp_block <| sr fun K9 hK9 => p_mv (v := v0_) q4 <| p_mv q3 <| bn hb1 fun y1 e1 hb1 => ?_
  obtain ⟨b1, o3, N1, c1, cs3, hv1, hi1, hc2, hr1⟩ := h0_.get (idx_some e1).2
  refine p_val (r_addrV (i := (s1.2.1 : Int).toNat) u63 tsz107 rfl hv1 rfl (idx_some e1).1 hi1) ?_
  obtain rfl := elU32 hr1
  refine p_val (s_load1 (p := (o3 + (s1.2.1 : Int).toNat * 1)) (o := 0) (v := .int .u32 (((y1).toNat : Int))) to107 H.sub rfl hc2 rfl) <| p_val (r_add rfl rfl (i32_wrap _)) <| p_mv q2 <| p_val (r_sub rfl rfl (i32_wrap _)) <| asI rfl <| xk hK9 <| wp_seq_k fun K10 hK10 => nameF fun m4 k5 => bn hb1 fun t2 hE3 hF2 => ?_
  have J1 : ∀ (m5 : FM) (w3 : World), (∀ t, has (8 :: rg 23 10 []) t = false → look m5 t = look m4 t) → look m5 8 = .int .u32 (((t2).toNat : Int)) → HS ⟨S, [], w⟩ S w3 [.osl (v2) (s1.2.2).length 1 cs2 rs1 107] → K10 (fr 43 m5) w3 := by
   clear H; intro m5 w3 k6 q6 H
   have q7 := (k6 0 rfl).trans ((k5 0).trans q4)
   have q8 := (k6 1 rfl).trans ((k5 1).trans q5)
   have q9 := (k6 5 rfl).trans ((k5 5).trans q1)
   have q10 := (k6 7 rfl).trans ((k5 7).trans q3)
   refine hK10 _ _ <| sr fun K12 hK12 => p_mv (v := v2) q9 <| p_mv q6 <| p_val (r_bits (bo := .and) (by simp) rfl rfl (i32_and _ (65535 : UInt32))) <| p_of2 (a_bsliceG (N := 1) (xs := ([(t2 &&& (65535 : UInt32))] : List UInt32)) (RL.cons rpU32 RL.nil) tn63 H rfl rfl rfl) fun w4 v3 cs5 H g3 => ?_
   replace H := hsn H
   refine bn hF2 fun y3 e3 hF2 => p_of3 (a_appendX (k := 1) (v2 := v3) tn63 rfl H rfl rfl g2 rfl (H.slW (k := 0) rfl) g3 e3) fun w5 v4 cs6 rs2 H g4 => ?_
   replace H := hsn H
   replace H := H.sel [1] rfl
   replace H := hsn H
   refine p_as (v := v4) rfl <| xk hK12 <| wp_region_lit <| p_mv q6 <| p_val (r_shr rfl rfl (by decide) (i32_shr _ _)) <| p_val (r_sub rfl rfl (i32_wrap _)) <| asI rfl <| wpList_nil <| b_norm ?_
   refine xn hK8 <| wp_region_lit <| p_mv q10 <| p_val (r_addI rfl rfl) <| asI rfl <| wpList_nil <| x_norm ?_
   replace H := hsn H
   obtain rfl := osi hF2
   exact ⟨((i32 ((1 : Int) - (((i32 (shrI .u32 ((t2).toNat : Int) 16))).toNat : Int))), (w64 (s1.2.1 + 1)), y3), _, rfl, (kS k6 rfl (kN k5 (kS k3 rfl kcx))), ⟨_, _, _, rfl, rfl, rfl, H, g4⟩, hh1⟩
  refine sr fun K11 hK11 => p_mv ((k5 7).trans q3) <| p_mv (v := v1_) ((k5 1).trans q5) <| p_val (r_lenR' u63 rfl h1_ H.sub) <| p_val (r_lssI rfl rfl) <| xk hK11 ?_
  refine c_split rfl (fun hc3 => ?_) (fun hc3 => ?_)
  ·replace hE3 := cnd_t hE3 hc3
   refine wp_region_lit <| p_mv (k5 8) <| p_mv (v := v1_) ((k5 1).trans q5) <| p_mv ((k5 7).trans q3) <| bn hE3 fun y2 e2 hE3 => ?_
   obtain ⟨b2, o5, N2, c2, cs4, hv2, hi2, hc4, hr2⟩ := h1_.get (idx_some e2).2
   refine p_val (r_addrV (i := (s1.2.1 : Int).toNat) u63 tsz107 rfl hv2 rfl (idx_some e2).1 hi2) ?_
   obtain rfl := elU32 hr2
   refine p_val (s_load1 (p := (o5 + (s1.2.1 : Int).toNat * 1)) (o := 0) (v := .int .u32 (((y2).toNat : Int))) to107 H.sub rfl hc4 rfl) <| p_val (r_sub rfl rfl (i32_wrap _)) <| asI rfl <| wpList_nil <| x_norm ?_
   replace H := hsn H
   obtain rfl := osi hE3
   exact J1 _ _ kcx rfl H
  ·replace hE3 := cnd_f hE3 hc3
   refine wp_skip <| x_norm ?_
   replace H := hsn H
   obtain rfl := osi hE3
   exact J1 _ _ kcx (k5 8) H
 ·replace hb1 := cnd_f hb1 hc1
  refine wp_exit <| x_exit <| x_exit <| b_hit <| x_norm ?_
  replace H := hsn H
  obtain rfl := osi hb1
  obtain rfl := osi hh1
  obtain rfl := osi hE2
  exact J2 _ _ _ _ _ (kS k3 rfl (kN k2 kcx)) (show _ = (v2 : Value) from q1) H g2
def r6_Mul_b1 (x0 : List UInt32) (x1 : List UInt32) (s1 : Int × (List UInt32)) (s2 : UInt64 × Int × (List UInt32)) : Option ((UInt64 × Int × (List UInt32)) ⊕ (UInt64 × (List UInt32))) :=
  bif decide (s2.2.1 < ((x1).length : Int)) then (Option.bind (idx s2.2.2 (w64 (s1.1 + s2.2.1))) fun y2 => Option.bind (idx x0 s1.1) fun y3 => Option.bind (idx x1 s2.2.1) fun y4 => Option.bind (idx s2.2.2 (w64 (s1.1 + s2.2.1))) fun y5 => Option.bind (setL s2.2.2 ((w64 (s1.1 + s2.2.1)) : Int) (i32 ((((i64 (((s2.1).toNat : Int) + (((i64 ((((i64 ((y2).toNat : Int))).toNat : Int) + (((i64 ((((i64 ((y3).toNat : Int))).toNat : Int) * (((i64 ((y4).toNat : Int))).toNat : Int)))).toNat : Int)))).toNat : Int))) &&& (65535 : UInt64))).toNat : Int))) fun y6 => some (.inl (((i64 (shrI .u64 (((i64 (((s2.1).toNat : Int) + (((i64 ((((i64 ((y2).toNat : Int))).toNat : Int) + (((i64 ((((i64 ((y3).toNat : Int))).toNat : Int) * (((i64 ((y4).toNat : Int))).toNat : Int)))).toNat : Int)))).toNat : Int)))).toNat : Int) 16)), (w64 (s2.2.1 + 1)), y6)))) else (some (.inr ((s2.1, s2.2.2))))
def r6_Mul_b0 (x0 : List UInt32) (x1 : List UInt32) (s1 : Int × (List UInt32)) : Option ((Int × (List UInt32)) ⊕ ((List UInt32))) :=
  bif decide (s1.1 < ((x0).length : Int)) then (Option.bind (Option.bind (Option.bind (iter (r6_Mul_b1 x0 x1 s1) (((0 : UInt64), 0, s1.2))) (fun e => some (e))) (fun t3 => Option.bind (idx t3.2 (w64 (s1.1 + ((x1).length : Int)))) fun y7 => Option.bind (setL t3.2 ((w64 (s1.1 + ((x1).length : Int))) : Int) (i32 ((t3.1).toNat : Int))) fun y8 => some (y8))) (fun t2 => some (.inl (((w64 (s1.1 + 1)), t2))))) else (some (.inr (s1.2)))
def r6_Mul_p (x0 : List UInt32) (x1 : List UInt32) : Option ((List UInt32)) :=
  Option.bind (mkL (w64 (((x0).length : Int) + ((x1).length : Int))) (0 : UInt32)) fun y1 => Option.bind (Option.bind (iter (r6_Mul_b0 x0 x1) ((0, y1))) (fun e => some (e))) (fun t1 => Option.bind (r6_trim_p t1) fun y9 => some (y9))
theorem r6_Mul_c {S : Mem} {w : World} (hS : Sub S w) {v0_ : Value} {x0 : List UInt32} (h0_ : RdS S v0_ x0) {v1_ : Value} {x1 : List UInt32} (h1_ : RdS S v1_ x1) {r : (List UInt32)} (hF : r6_Mul_p x0 x1 = some r) :
    Calls Tryz.prog 123 #[v0_, v1_] w fun e w' => Ext w w' ∧ ∃ (v0' : Value), e = .returned (v0') ∧ RdS (gr S w w') v0' r := by
 refine enter (n := 68) Tryz.func123 rfl rfl rfl ?_
 have H := HS.start hS
 unfold r6_Mul_p at hF
 refine sr fun K1 hK1 => asN rfl <| xk hK1 <| sr fun K2 hK2 => p_mv (v := v0_) rfl <| p_val (r_lenR' u63 rfl h0_ H.sub) <| p_mv (v := v1_) rfl <| p_val (r_lenR' u63 rfl h1_ H.sub) <| p_val (r_addI rfl rfl) ?_
 refine bn hF fun y1 e1 hF => p_of3 (a_makeX (zx := (0 : UInt32)) tn63 rfl H rfl rfl (rpU32c (x := (0 : UInt32)) rfl) e1 (Int.le_refl _) (mkL_some e1).2.1) fun w1 v1 cs1 rs1 H g1 => ?_
 replace H := hsn H
 refine p_as (v := v1) rfl <| xk hK2 <| wp_seq_k fun K3 hK3 => nameF fun m1 k1 => bn hF fun t1 hE1 hF1 => ?_
 have J3 : ∀ (cs11 rs6 : List Value) (m10 : FM) (w9 : World), (∀ t, has (6 :: 7 :: 8 :: rg 15 51 []) t = false → look m10 t = look m1 t) → HS ⟨S, [], w⟩ S w9 [.osl (v1) (t1).length 1 cs11 rs6 107] → RL S cs11 t1 → K3 (fr 68 m10) w9 := by
  clear H; intro cs11 rs6 m10 w9 k12 H g8
  have q20 : look m10 5 = v1 := (k12 5 rfl).trans (k1 5)
  refine hK3 _ _ <| sr fun K16 hK16 => p_mv (v := v1) q20 ?_
  obtain ⟨S1, hle1, g9, H1⟩ := H.fixX (k := 0) rfl g8; clear H; have H := H1; clear H1
  replace H := hsn H
  refine bn hF1 fun y9 e9 hF1 => p_call (l := [v1]) is84 rfl <| (r6_trim_c H.sub g9 e9).mono <| H.ye fun w10 v7 S2 hle2 H g10 => ?_
  replace g9 := g9.mono hle2
  refine p_as (v := v7) rfl <| xk hK16 <| wp_ret ?_
  obtain rfl := osi hF1
  refine e_1 rfl (q_tmp rfl) ?_
  exact ⟨H.toExt, _, rfl, RdS.mono g10 H.gr⟩
 refine sr fun K4 hK4 => asI rfl <| xk hK4 <| wp_block <| nameF fun m2 k2 => bn hE1 fun out1 hL1 hE2 => ?_
 replace H := hsn H
 refine loopI (6 :: 7 :: 8 :: rg 15 51 []) (fun (s1 : Int × (List UInt32)) (m3 : FM) (w2 : World) => ∃ (cs2 rs2 : List Value), look m3 6 = .int .i64 (s1.1) ∧ HS ⟨S, [], w⟩ S w2 [.osl (v1) (s1.2).length 1 cs2 rs2 107] ∧ RL S cs2 s1.2) hL1 ⟨_, _, (k2 6), H, g1⟩ ?_
 clear H; intro k4 s1 m3 w2 k3 hI1 o2 hb1 hh1; obtain ⟨cs2, rs2, q1, H, g2⟩ := hI1
 have q2 : look m3 0 = v0_ := (k3 0 rfl).trans ((k2 0).trans (k1 0))
 have q3 : look m3 1 = v1_ := (k3 1 rfl).trans ((k2 1).trans (k1 1))
 have q4 : look m3 5 = v1 := (k3 5 rfl).trans ((k2 5).trans (k1 5))
 unfold r6_Mul_b0 at hb1
 refine wp_seq_k fun K5 hK5 => sr fun K6 hK6 => p_mv q1 <| p_mv (v := v0_) q2 <| p_val (r_lenR' u63 rfl h0_ H.sub) <| p_val (r_lssI rfl rfl) <| xk hK6 ?_
 refine c_split rfl (fun hc1 => ?_) (fun hc1 => ?_)
 ·replace hb1 := cnd_t hb1 hc1
  refine wp_skip <| xn hK5 <| wp_seq_k fun K7 hK7 => nameF fun m4 k5 => bn hb1 fun t2 hE3 hF2 => ?_
  have J2 : ∀ (cs10 rs5 : List Value) (m9 : FM) (w8 : World), (∀ t, has (7 :: 8 :: rg 21 45 []) t = false → look m9 t = look m4 t) → HS ⟨S, [], w⟩ S w8 [.osl (v1) (t2).length 1 cs10 rs5 107] → RL S cs10 t2 → K7 (fr 68 m9) w8 := by
   clear H; intro cs10 rs5 m9 w8 k11 H g7
   have q16 := (k11 0 rfl).trans ((k5 0).trans q2)
   have q17 := (k11 1 rfl).trans ((k5 1).trans q3)
   have q18 := (k11 5 rfl).trans ((k5 5).trans q4)
   have q19 := (k11 6 rfl).trans ((k5 6).trans q1)
   refine hK7 _ _ <| wp_region_lit <| p_mv q19 <| p_val (r_addI rfl rfl) <| asI rfl <| wpList_nil <| x_norm ?_
   replace H := hsn H
   obtain rfl := osi hF2
   exact ⟨((w64 (s1.1 + 1)), t2), _, rfl, (kS k11 rfl (kN k5 (kS k3 rfl kcx))), ⟨_, _, rfl, H, g7⟩, hh1⟩
  refine wp_block <| sr fun K8 hK8 => asI rfl <| xk hK8 <| wp_seq_k fun K9 hK9 => nameF fun m5 k6 => bn hE3 fun t3 hE4 hF3 => ?_
  have J1 : ∀ (cs8 rs4 : List Value) (m8 : FM) (w6 : World), (∀ t, has (7 :: 8 :: rg 21 37 []) t = false → look m8 t = look m5 t) → look m8 7 = .int .u64 (((t3.1).toNat : Int)) → HS ⟨S, [], w⟩ S w6 [.osl (v1) (t3.2).length 1 cs8 rs4 107] → RL S cs8 t3.2 → K9 (fr 68 m8) w6 := by
   clear H; intro cs8 rs4 m8 w6 k10 q11 H g5
   have q12 := (k10 0 rfl).trans ((k6 0).trans ((k5 0).trans q2))
   have q13 := (k10 1 rfl).trans ((k6 1).trans ((k5 1).trans q3))
   have q14 := (k10 5 rfl).trans ((k6 5).trans ((k5 5).trans q4))
   have q15 := (k10 6 rfl).trans ((k6 6).trans ((k5 6).trans q1))
   refine hK9 _ _ <| wp_region_lit <| p_mv (v := v1) q14 <| p_mv q15 <| p_mv (v := v1_) q13 <| p_val (r_lenR' u63 rfl h1_ H.sub) <| p_val (r_addI rfl rfl) <| p_mv q11 <| p_val (r_conv u22 u107 rfl (i32_wrap _)) ?_
   refine bn hF3 fun y7 e7 hF3 => ?_
   obtain ⟨b5, c5, hv5⟩ := H.ownAt (k := 0) rfl (idx_lt e7)
   refine p_val (r_addrV (i := ((w64 (s1.1 + ((x1).length : Int))) : Int).toNat) u63 tsz107 rfl hv5 rfl (idx_some e7).1 (idx_lt e7)) ?_
   subst hv5
   refine bn hF3 fun y8 e8 hF3 => p_oft (a_storeX (k := 0) (l := [Value.int .u32 ((((i32 ((t3.1).toNat : Int))).toNat : Int))]) tsz107 rfl H rfl g5 rfl rfl (cells_one rfl) rpU32 e8) fun w7 cs9 H g6 => ?_
   replace H := hsn H
   refine wpList_nil <| b_norm <| x_norm ?_
   replace H := hsn H
   obtain rfl := osi hF3
   exact J2 _ _ _ _ (kS k10 rfl (kN k6 kcx)) H g6
  refine sr fun K10 hK10 => asI rfl <| xk hK10 <| wp_block <| nameF fun m6 k7 => bn hE4 fun out2 hL2 hE5 => ?_
  replace H := hsn H
  refine loopI (7 :: 8 :: rg 21 37 []) (fun (s2 : UInt64 × Int × (List UInt32)) (m7 : FM) (w3 : World) => ∃ (cs3 rs3 : List Value), look m7 7 = .int .u64 (((s2.1).toNat : Int)) ∧ look m7 8 = .int .i64 (s2.2.1) ∧ HS ⟨S, [], w⟩ S w3 [.osl (v1) (s2.2.2).length 1 cs3 rs3 107] ∧ RL S cs3 s2.2.2) hL2 ⟨_, _, ((k7 7).trans (k6 7)), (k7 8), H, g2⟩ ?_
  clear H; intro k9 s2 m7 w3 k8 hI2 o5 hb2 hh2; obtain ⟨cs3, rs3, q5, q6, H, g3⟩ := hI2
  have q7 := (k8 0 rfl).trans ((k7 0).trans ((k6 0).trans ((k5 0).trans q2)))
  have q8 := (k8 1 rfl).trans ((k7 1).trans ((k6 1).trans ((k5 1).trans q3)))
  have q9 := (k8 5 rfl).trans ((k7 5).trans ((k6 5).trans ((k5 5).trans q4)))
  have q10 := (k8 6 rfl).trans ((k7 6).trans ((k6 6).trans ((k5 6).trans q1)))
  unfold r6_Mul_b1 at hb2
  refine wp_seq_k fun K11 hK11 => sr fun K12 hK12 => p_mv q6 <| p_mv (v := v1_) q8 <| p_val (r_lenR' u63 rfl h1_ H.sub) <| p_val (r_lssI rfl rfl) <| xk hK12 ?_
  refine c_split rfl (fun hc2 => ?_) (fun hc2 => ?_)
  ·replace hb2 := cnd_t hb2 hc2
   refine wp_skip <| xn hK11 <| wp_seq_k fun K13 hK13 => wp_block <| wp_seq_k fun K14 hK14 => bn hb2 fun y2 e2 hb2 => ?_
   obtain ⟨b1, c1, hv1⟩ := H.ownAt (k := 0) rfl (idx_lt e2)
   subst hv1
   have hr1 := RL.get g3 (idx_some e2).2; generalize hghr1 : piece cs3 _ _ = cs4 at hr1
   obtain rfl := elU32 hr1
   refine bn hb2 fun y3 e3 hb2 => ?_
   obtain ⟨b2, o6, N1, c2, cs5, hv2, hi1, hc3, hr2⟩ := h0_.get (idx_some e3).2
   obtain rfl := elU32 hr2
   refine bn hb2 fun y4 e4 hb2 => ?_
   obtain ⟨b3, o7, N2, c3, cs6, hv3, hi2, hc4, hr3⟩ := h1_.get (idx_some e4).2
   obtain rfl := elU32 hr3
   apply wp_region_ext 21 (kindsF []) rfl rfl (by kernel_rfl); intro vs1
   simp only [tkS, tkZ, drS, drZ]
   replace H := H.drew
   refine tp (r_move q5) <| tp (r_move (v := (sl b1 0 (s2.2.2).length c1)) q9) <| tp (r_move q10) <| tp (r_move q6) <| tp (r_addI rfl rfl) <| tp (r_addrV (i := ((w64 (s1.1 + s2.2.1)) : Int).toNat) u63 tsz107 rfl rfl rfl (idx_some e2).1 (idx_lt e2)) <| t_v (fun w hx => o_load1 (v := .int .u32 (((y2).toNat : Int))) to107 (H.ext hx) (k := 0) rfl rfl (idx_lt e2) hghr1) <| tp (r_conv u107 u22 rfl (i64_wrap _)) ?_
   refine tp (r_move (v := v0_) q7) <| tp (r_move q10) <| tp (r_addrV (i := (s1.1 : Int).toNat) u63 tsz107 rfl hv2 rfl (idx_some e3).1 hi1) <| t_v (fun w hx => s_load1 (p := (o6 + (s1.1 : Int).toNat * 1)) (o := 0) (v := .int .u32 (((y3).toNat : Int))) to107 (H.ext hx).sub rfl hc3 rfl) <| tp (r_conv u107 u22 rfl (i64_wrap _)) <| tp (r_move (v := v1_) q8) <| tp (r_move q6) ?_
   refine tp (r_addrV (i := (s2.2.1 : Int).toNat) u63 tsz107 rfl hv3 rfl (idx_some e4).1 hi2) <| t_v (fun w hx => s_load1 (p := (o7 + (s2.2.1 : Int).toNat * 1)) (o := 0) (v := .int .u32 (((y4).toNat : Int))) to107 (H.ext hx).sub rfl hc4 rfl) <| tp (r_conv u107 u22 rfl (i64_wrap _)) <| tp (r_mul rfl rfl (i64_wrap _)) <| tp (r_add rfl rfl (i64_wrap _)) <| tp (r_add rfl rfl (i64_wrap _)) ?_
   refine t_nil (fun w4 hx hF hA => ?_)
   replace H := H.ext hx; clear hx hF hA
   refine asI rfl ?_
   refine wpList_nil ?_; refine on_norm ?_
   refine xn hK14 <| sr fun K15 hK15 => p_mv (v := sl b1 0 (s2.2.2).length c1) q9 <| p_mv q10 <| p_mv q6 <| p_val (r_addI rfl rfl) <| mvI rfl <| p_val (r_bits (bo := .and) (by simp) rfl rfl (i64_and _ (65535 : UInt64))) <| p_val (r_conv u22 u107 rfl (i32_wrap _)) ?_
   refine bn hb2 fun y5 e5 hb2 => p_val (r_addrV (i := ((w64 (s1.1 + s2.2.1)) : Int).toNat) u63 tsz107 rfl (HS.ownV H (k := 0) rfl) rfl (idx_some e5).1 (idx_lt e5)) <| bn hb2 fun y6 e6 hb2 => ?_
   refine p_oft (a_storeX (k := 0) (l := [Value.int .u32 ((((i32 ((((i64 (((s2.1).toNat : Int) + (((i64 ((((i64 ((y2).toNat : Int))).toNat : Int) + (((i64 ((((i64 ((y3).toNat : Int))).toNat : Int) * (((i64 ((y4).toNat : Int))).toNat : Int)))).toNat : Int)))).toNat : Int))) &&& (65535 : UInt64))).toNat : Int))).toNat : Int))]) tsz107 rfl H rfl g3 rfl rfl (cells_one rfl) rpU32 e6) fun w5 cs7 H g4 => ?_
   replace H := hsn H
   refine xk hK15 <| wp_region_lit <| mvI rfl <| p_val (r_shr rfl rfl (by decide) (i64_shr _ _)) <| asI rfl <| wpList_nil <| b_norm <| xn hK13 <| wp_region_lit ?_
   refine p_mv q6 <| p_val (r_addI rfl rfl) <| asI rfl <| wpList_nil <| x_norm ?_
   replace H := hsn H
   obtain rfl := osi hb2
   exact ⟨((i64 (shrI .u64 (((i64 (((s2.1).toNat : Int) + (((i64 ((((i64 ((y2).toNat : Int))).toNat : Int) + (((i64 ((((i64 ((y3).toNat : Int))).toNat : Int) * (((i64 ((y4).toNat : Int))).toNat : Int)))).toNat : Int)))).toNat : Int)))).toNat : Int) 16)), (w64 (s2.2.1 + 1)), y6), _, rfl, (kS k8 rfl kcx), ⟨_, _, rfl, rfl, H, g4⟩, hh2⟩
  ·replace hb2 := cnd_f hb2 hc2
   refine wp_exit <| x_exit <| x_exit <| b_hit <| x_norm ?_
   replace H := hsn H
   obtain rfl := osi hb2
   obtain rfl := osi hh2
   obtain rfl := osi hE5
   exact J1 _ _ _ _ (kS k8 rfl (kN k7 kcx)) q5 H g3
 ·replace hb1 := cnd_f hb1 hc1
  refine wp_exit <| x_exit <| x_exit <| b_hit <| x_norm ?_
  replace H := hsn H
  obtain rfl := osi hb1
  obtain rfl := osi hh1
  obtain rfl := osi hE2
  exact J3 _ _ _ _ (kS k3 rfl (kN k2 kcx)) H g2
end Go.Proofs.YtmbcolbbekbccaaGreat
namespace Go.Proofs.YtmbcolbbekbccaaGreat
open Go Go.RowKit
attribute [local irreducible] wpList wpT Code.wp Calls Code.rounds
theorem is69 : IsFn Tryz.prog 69 := isFn Tryz.func69
theorem is70 : IsFn Tryz.prog 70 := isFn Tryz.func70
theorem is71 : IsFn Tryz.prog 71 := isFn Tryz.func71
theorem is121 : IsFn Tryz.prog 121 := isFn Tryz.func121
theorem is123 : IsFn Tryz.prog 123 := isFn Tryz.func123
theorem is150 : IsFn Tryz.prog 150 := isFn Tryz.func150
def r6_Left_b1 (s2 : Int × (List UInt32)) : Option ((Int × (List UInt32)) ⊕ ((List UInt32))) :=
  bif decide ((0 : Int) < s2.1) then (Option.bind (idx s2.2 (w64 (s2.1 - 1))) fun y2 => Option.bind (idx s2.2 s2.1) fun y3 => Option.bind (setL s2.2 (s2.1 : Int) y2) fun y4 => some (.inl (((w64 (s2.1 - 1)), y4)))) else (some (.inr (s2.2)))
def r6_Left_b3 (x1 : List UInt32) (t5 : UInt32) (s4 : UInt64 × Int × (List UInt32)) : Option ((UInt64 × Int × (List UInt32)) ⊕ ((List UInt32))) :=
  bif decide (s4.2.1 ≤ ((x1).length : Int)) then (Option.bind (bif decide (s4.2.1 < ((x1).length : Int)) then (Option.bind (idx x1 s4.2.1) fun y12 => some ((i64 (((s4.1).toNat : Int) + (((i64 ((((i64 ((t5).toNat : Int))).toNat : Int) * (((i64 ((y12).toNat : Int))).toNat : Int)))).toNat : Int))))) else (some (s4.1))) (fun t6 => Option.bind (idx s4.2.2 s4.2.1) fun y13 => Option.bind (idx s4.2.2 s4.2.1) fun y14 => Option.bind (setL s4.2.2 (s4.2.1 : Int) (i32 ((((i64 ((((i64 ((((i64 ((y13).toNat : Int))).toNat : Int) + 1099511627776))).toNat : Int) - ((t6).toNat : Int))) &&& (65535 : UInt64))).toNat : Int))) fun y15 => some (.inl (((i64 ((16777216 : Int) - (((i64 (shrI .u64 (((i64 ((((i64 ((((i64 ((y13).toNat : Int))).toNat : Int) + 1099511627776))).toNat : Int) - ((t6).toNat : Int)))).toNat : Int) 16))).toNat : Int))), (w64 (s4.2.1 + 1)), y15))))) else (some (.inr (s4.2.2)))
def r6_Left_b2 (x1 : List UInt32) (s3 : (List UInt32)) : Option (((List UInt32)) ⊕ ((List UInt32))) :=
  Option.bind (idx s3 ((x1).length : Int)) fun y8 => Option.bind (bif decide ((0 : Int) < ((y8).toNat : Int)) then (some (true)) else (Option.bind (subH s3 ((x1).length : Int)) fun y9 => Option.bind (r6_Cmp_p y9 x1) fun y10 => some (decide ((0 : Int) ≤ y10)))) (fun t4 => bif t4 then (Option.bind (idx s3 ((x1).length : Int)) fun y11 => Option.bind (bif (((y11).toNat : Int) == 0) then (some ((1 : UInt32))) else (some (y11))) (fun t5 => Option.bind (iter (r6_Left_b3 x1 t5) (((0 : UInt64), 0, s3))) (fun e => some (.inl (e))))) else (some (.inr (s3))))
def r6_Left_b0 (x0 : List UInt32) (x1 : List UInt32) (s1 : Int × (List UInt32)) : Option ((Int × (List UInt32)) ⊕ ((List UInt32))) :=
  bif decide ((0 : Int) ≤ s1.1) then (Option.bind (Option.bind (Option.bind (iter (r6_Left_b1) ((((x1).length : Int), s1.2))) (fun e => some (e))) (fun t3 => Option.bind (idx x0 s1.1) fun y5 => Option.bind (idx t3 0) fun y6 => Option.bind (setL t3 (0 : Int) y5) fun y7 => Option.bind (iter (r6_Left_b2 x1) (y7)) (fun e => some (e)))) (fun t2 => some (.inl (((w64 (s1.1 - 1)), t2))))) else (some (.inr (s1.2)))
def r6_Left_p (x0 : List UInt32) (x1 : List UInt32) : Option ((List UInt32)) :=
  Option.bind (mkL (w64 (((x1).length : Int) + 1)) (0 : UInt32)) fun y1 => Option.bind (Option.bind (iter (r6_Left_b0 x0 x1) (((w64 (((x0).length : Int) - 1)), y1))) (fun e => some (e))) (fun t1 => Option.bind (r6_trim_p t1) fun y16 => some (y16))
theorem r6_Left_c {S : Mem} {w : World} (hS : Sub S w) {v0_ : Value} {x0 : List UInt32} (h0_ : RdS S v0_ x0) {v1_ : Value} {x1 : List UInt32} (h1_ : RdS S v1_ x1) {r : (List UInt32)} (hF : r6_Left_p x0 x1 = some r) :
    Calls Tryz.prog 70 #[v0_, v1_] w fun e w' => Ext w w' ∧ ∃ (v0' : Value), e = .returned (v0') ∧ RdS (gr S w w') v0' r := by
 refine enter (n := 102) Tryz.func70 rfl rfl rfl ?_
 have H := HS.start hS
 unfold r6_Left_p at hF
 refine sr fun K1 hK1 => asN rfl <| xk hK1 <| sr fun K2 hK2 => p_mv (v := v1_) rfl <| p_val (r_lenR' u63 rfl h1_ H.sub) <| asI rfl <| xk hK2 <| sr fun K3 hK3 => ?_
 refine mvI rfl <| p_val (r_addI rfl rfl) <| bn hF fun y1 e1 hF => p_of3 (a_makeX (zx := (0 : UInt32)) tn63 rfl H rfl rfl (rpU32c (x := (0 : UInt32)) rfl) e1 (Int.le_refl _) (mkL_some e1).2.1) fun w1 v1 cs1 rs1 H g1 => ?_
 replace H := hsn H
 refine p_as (v := v1) rfl <| xk hK3 <| wp_seq_k fun K4 hK4 => nameF fun m1 k1 => bn hF fun t1 hE1 hF1 => ?_
 have J6 : ∀ (cs17 rs8 : List Value) (m20 : FM) (w15 : World), (∀ t, has (rg 7 7 (rg 19 81 [])) t = false → look m20 t = look m1 t) → HS ⟨S, [], w⟩ S w15 [.osl (v1) (t1).length 1 cs17 rs8 107] → RL S cs17 t1 → K4 (fr 102 m20) w15 := by
  clear H; intro cs17 rs8 m20 w15 k24 H g12
  have q55 : look m20 6 = v1 := (k24 6 rfl).trans (k1 6)
  refine hK4 _ _ <| sr fun K31 hK31 => p_mv (v := v1) q55 ?_
  obtain ⟨S1, hle1, g13, H1⟩ := H.fixX (k := 0) rfl g12; clear H; have H := H1; clear H1
  replace H := hsn H
  refine bn hF1 fun y16 e16 hF1 => p_call (l := [v1]) is84 rfl <| (r6_trim_c H.sub g13 e16).mono <| H.ye fun w16 v9 S2 hle2 H g14 => ?_
  replace g13 := g13.mono hle2
  refine p_as (v := v9) rfl <| xk hK31 <| wp_ret ?_
  obtain rfl := osi hF1
  refine e_1 rfl (q_tmp rfl) ?_
  exact ⟨H.toExt, _, rfl, RdS.mono g14 H.gr⟩
 refine sr fun K5 hK5 => p_mv (v := v0_) (k1 0) <| p_val (r_lenR' u63 rfl h0_ H.sub) <| p_val (r_subI rfl rfl) <| asI rfl <| xk hK5 <| wp_block <| nameF fun m2 k2 => bn hE1 fun out1 hL1 hE2 => ?_
 replace H := hsn H
 refine loopI (rg 7 7 (rg 22 78 [])) (fun (s1 : Int × (List UInt32)) (m3 : FM) (w2 : World) => ∃ (cs2 rs2 : List Value), look m3 7 = .int .i64 (s1.1) ∧ HS ⟨S, [], w⟩ S w2 [.osl (v1) (s1.2).length 1 cs2 rs2 107] ∧ RL S cs2 s1.2) hL1 ⟨_, _, (k2 7), H, g1⟩ ?_
 clear H; intro k4 s1 m3 w2 k3 hI1 o2 hb1 hh1; obtain ⟨cs2, rs2, q1, H, g2⟩ := hI1
 have q2 : look m3 0 = v0_ := (k3 0 rfl).trans ((k2 0).trans (k1 0))
 have q3 : look m3 1 = v1_ := (k3 1 rfl).trans ((k2 1).trans (k1 1))
 have q4 : look m3 5 = .int .i64 (((x1).length : Int)) := (k3 5 rfl).trans ((k2 5).trans (k1 5))
 have q5 : look m3 6 = v1 := (k3 6 rfl).trans ((k2 6).trans (k1 6))
 unfold r6_Left_b0 at hb1
 refine wp_seq_k fun K6 hK6 => sr fun K7 hK7 => p_mv q1 <| p_val (r_geqI rfl rfl) <| xk hK7 ?_
 refine c_split rfl (fun hc1 => ?_) (fun hc1 => ?_)
 ·replace hb1 := cnd_t hb1 hc1
  refine wp_skip <| xn hK6 <| wp_seq_k fun K8 hK8 => nameF fun m4 k5 => bn hb1 fun t2 hE3 hF2 => ?_
  have J5 : ∀ (cs16 rs7 : List Value) (m19 : FM) (w14 : World), (∀ t, has (rg 8 6 (rg 26 74 [])) t = false → look m19 t = look m4 t) → HS ⟨S, [], w⟩ S w14 [.osl (v1) (t2).length 1 cs16 rs7 107] → RL S cs16 t2 → K8 (fr 102 m19) w14 := by
   clear H; intro cs16 rs7 m19 w14 k23 H g11
   have q50 := (k23 0 rfl).trans ((k5 0).trans q2)
   have q51 := (k23 1 rfl).trans ((k5 1).trans q3)
   have q52 := (k23 5 rfl).trans ((k5 5).trans q4)
   have q53 := (k23 6 rfl).trans ((k5 6).trans q5)
   have q54 := (k23 7 rfl).trans ((k5 7).trans q1)
   refine hK8 _ _ <| wp_region_lit <| p_mv q54 <| p_val (r_subI rfl rfl) <| asI rfl <| wpList_nil <| x_norm ?_
   replace H := hsn H
   obtain rfl := osi hF2
   exact ⟨((w64 (s1.1 - 1)), t2), _, rfl, (kS k23 rfl (kN k5 (kS k3 rfl kcx))), ⟨_, _, rfl, H, g11⟩, hh1⟩
  refine wp_block <| wp_seq_k fun K9 hK9 => nameF fun m5 k6 => bn hE3 fun t3 hE4 hF3 => ?_
  have J4 : ∀ (cs6 rs4 : List Value) (m8 : FM) (w5 : World), (∀ t, has (8 :: rg 26 13 []) t = false → look m8 t = look m5 t) → HS ⟨S, [], w⟩ S w5 [.osl (v1) (t3).length 1 cs6 rs4 107] → RL S cs6 t3 → K9 (fr 102 m8) w5 := by
   clear H; intro cs6 rs4 m8 w5 k10 H g5
   have q12 := (k10 0 rfl).trans ((k6 0).trans ((k5 0).trans q2))
   have q13 := (k10 1 rfl).trans ((k6 1).trans ((k5 1).trans q3))
   have q14 := (k10 5 rfl).trans ((k6 5).trans ((k5 5).trans q4))
   have q15 := (k10 6 rfl).trans ((k6 6).trans ((k5 6).trans q5))
   have q16 := (k10 7 rfl).trans ((k6 7).trans ((k5 7).trans q1))
   refine hK9 _ _ <| sr fun K14 hK14 => p_mv (v := v1) q15 <| p_mv (v := v0_) q12 <| p_mv q16 <| bn hF3 fun y5 e5 hF3 => ?_
   obtain ⟨b3, o6, N1, c3, cs7, hv3, hi1, hc3, hr2⟩ := h0_.get (idx_some e5).2
   refine p_val (r_addrV (i := (s1.1 : Int).toNat) u63 tsz107 rfl hv3 rfl (idx_some e5).1 hi1) ?_
   obtain rfl := elU32 hr2
   refine p_val (s_load1 (p := (o6 + (s1.1 : Int).toNat * 1)) (o := 0) (v := .int .u32 (((y5).toNat : Int))) to107 H.sub rfl hc3 rfl) <| bn hF3 fun y6 e6 hF3 => ?_
   obtain ⟨b4, c4, hv4⟩ := H.ownAt (k := 0) rfl (idx_lt e6)
   refine p_val (r_addrV (i := (0 : Int).toNat) u63 tsz107 rfl hv4 rfl (idx_some e6).1 (idx_lt e6)) ?_
   subst hv4
   refine bn hF3 fun y7 e7 hF3 => p_oft (a_storeX (k := 0) (l := [Value.int .u32 (((y5).toNat : Int))]) tsz107 rfl H rfl g5 rfl rfl (cells_one rfl) rpU32 e7) fun w6 cs8 H g6 => ?_
   replace H := hsn H
   refine xk hK14 <| wp_block <| nameF fun m9 k11 => bn hF3 fun out3 hL3 hE6 => ?_
   replace H := hsn H
   refine loopI (9 :: 10 :: 11 :: 12 :: 13 :: rg 45 55 []) (fun (s3 : (List UInt32)) (m10 : FM) (w7 : World) => ∃ (cs9 rs5 : List Value), HS ⟨S, [], w⟩ S w7 [.osl (sl b4 0 (t3).length c4) (s3).length 1 cs9 rs5 107] ∧ RL S cs9 s3) hL3 ⟨_, _, H, g6⟩ ?_
   clear H; intro k13 s3 m10 w7 k12 hI3 o7 hb3 hh3; obtain ⟨cs9, rs5, H, g7⟩ := hI3
   have q17 := (k12 0 rfl).trans ((k11 0).trans q12)
   have q18 := (k12 1 rfl).trans ((k11 1).trans q13)
   have q19 := (k12 5 rfl).trans ((k11 5).trans q14)
   have q20 := (k12 6 rfl).trans ((k11 6).trans q15)
   have q21 := (k12 7 rfl).trans ((k11 7).trans q16)
   unfold r6_Left_b2 at hb3
   refine wp_seq_k fun K15 hK15 => sr fun K16 hK16 => p_mv (v := sl b4 0 (t3).length c4) q20 <| p_mv q19 <| bn hb3 fun y8 e8 hb3 => p_val (r_addrV (i := (((x1).length : Int) : Int).toNat) u63 tsz107 rfl (HS.ownV H (k := 0) rfl) rfl (idx_some e8).1 (idx_lt e8)) ?_
   have hr3 := RL.get g7 (idx_some e8).2; generalize hghr3 : piece cs9 _ _ = cs10 at hr3
   obtain rfl := elU32 hr3
   refine p_val (o_load1 (v := .int .u32 (((y8).toNat : Int))) to107 H (k := 0) rfl rfl (idx_lt e8) hghr3) <| p_val (r_gtrI rfl rfl) <| mvB rfl <| nameL fun m11 k14 => gs_at 7 fun K17 hK17 R2 hR2 => bn hb3 fun t4 hE7 hF4 => ?_
   have J3 : ∀ (m12 : FM) (w9 : World), (∀ t, has (rg 51 7 []) t = false → look m12 t = look m11 t) → look m12 57 = .bool (t4) → HS ⟨S, [], w⟩ S w9 [.osl (sl b4 0 (t3).length c4) (s3).length 1 cs9 rs5 107] → K17 m12 w9 := by
    clear H; intro m12 w9 k15 q22 H
    have q23 := (k15 0 rfl).trans ((k14 0).trans q17)
    have q24 := (k15 1 rfl).trans ((k14 1).trans q18)
    have q25 := (k15 5 rfl).trans ((k14 5).trans q19)
    have q26 := (k15 6 rfl).trans ((k14 6).trans q20)
    have q27 := (k15 7 rfl).trans ((k14 7).trans q21)
    refine hK17 _ _ <| xk hK16 ?_
    refine c_split q22 (fun hc4 => ?_) (fun hc4 => ?_)
    ·replace hF4 := cnd_t hF4 hc4
     refine wp_skip <| xn hK15 <| wp_block <| sr fun K18 hK18 => p_mv (v := sl b4 0 (t3).length c4) q26 <| p_mv q25 <| bn hF4 fun y11 e11 hF4 => p_val (r_addrV (i := (((x1).length : Int) : Int).toNat) u63 tsz107 rfl (HS.ownV H (k := 0) rfl) rfl (idx_some e11).1 (idx_lt e11)) ?_
     have hr4 := RL.get g7 (idx_some e11).2; generalize hghr4 : piece cs9 _ _ = cs11 at hr4
     obtain rfl := elU32 hr4
     refine p_val (o_load1 (v := .int .u32 (((y11).toNat : Int))) to107 H (k := 0) rfl rfl (idx_lt e11) hghr4) <| asI rfl <| xk hK18 <| wp_seq_k fun K19 hK19 => nameF fun m13 k16 => bn hF4 fun t5 hE8 hF5 => ?_
     have J2 : ∀ (m14 : FM) (w10 : World), (∀ t, has [9, 62, 63] t = false → look m14 t = look m13 t) → look m14 9 = .int .u32 (((t5).toNat : Int)) → HS ⟨S, [], w⟩ S w10 [.osl (sl b4 0 (t3).length c4) (s3).length 1 cs9 rs5 107] → K19 (fr 102 m14) w10 := by
      clear H; intro m14 w10 k17 q28 H
      have q29 := (k17 0 rfl).trans ((k16 0).trans q23)
      have q30 := (k17 1 rfl).trans ((k16 1).trans q24)
      have q31 := (k17 5 rfl).trans ((k16 5).trans q25)
      have q32 := (k17 6 rfl).trans ((k16 6).trans q26)
      have q33 := (k17 7 rfl).trans ((k16 7).trans q27)
      refine hK19 _ _ <| sr fun K21 hK21 => asI rfl <| xk hK21 <| sr fun K22 hK22 => asI rfl <| xk hK22 <| wp_block <| nameF fun m15 k18 => ?_
      refine bn hF5 fun out4 hL4 hE9 => ?_
      replace H := hsn H
      refine loopI (10 :: 11 :: 12 :: 13 :: rg 64 36 []) (fun (s4 : UInt64 × Int × (List UInt32)) (m16 : FM) (w11 : World) => ∃ (cs12 rs6 : List Value), look m16 10 = .int .u64 (((s4.1).toNat : Int)) ∧ look m16 11 = .int .i64 (s4.2.1) ∧ HS ⟨S, [], w⟩ S w11 [.osl (sl b4 0 (t3).length c4) (s4.2.2).length 1 cs12 rs6 107] ∧ RL S cs12 s4.2.2) hL4 ⟨_, _, (k18 10), (k18 11), H, g7⟩ ?_
      clear H; intro k20 s4 m16 w11 k19 hI4 o10 hb5 hh4; obtain ⟨cs12, rs6, q34, q35, H, g9⟩ := hI4
      have q36 := (k19 0 rfl).trans ((k18 0).trans q29)
      have q37 := (k19 1 rfl).trans ((k18 1).trans q30)
      have q38 := (k19 5 rfl).trans ((k18 5).trans q31)
      have q39 := (k19 6 rfl).trans ((k18 6).trans q32)
      have q40 := (k19 7 rfl).trans ((k18 7).trans q33)
      have q41 := (k19 9 rfl).trans ((k18 9).trans q28)
      unfold r6_Left_b3 at hb5
      refine wp_seq_k fun K23 hK23 => sr fun K24 hK24 => p_mv q35 <| p_mv q38 <| p_val (r_leqI rfl rfl) <| xk hK24 ?_
      refine c_split rfl (fun hc6 => ?_) (fun hc6 => ?_)
      ·replace hb5 := cnd_t hb5 hc6
       refine wp_skip <| xn hK23 <| wp_seq_k fun K25 hK25 => wp_block <| sr fun K26 hK26 => p_mv q34 <| asI rfl <| xk hK26 <| wp_seq_k fun K27 hK27 => ?_
       refine nameF fun m17 k21 => bn hb5 fun t6 hE10 hF6 => ?_
       have J1 : ∀ (m18 : FM) (w12 : World), (∀ t, has (12 :: rg 70 13 []) t = false → look m18 t = look m17 t) → look m18 12 = .int .u64 (((t6).toNat : Int)) → HS ⟨S, [], w⟩ S w12 [.osl (sl b4 0 (t3).length c4) (s4.2.2).length 1 cs12 rs6 107] → K27 (fr 102 m18) w12 := by
        clear H; intro m18 w12 k22 q42 H
        have q43 := (k22 0 rfl).trans ((k21 0).trans q36)
        have q44 := (k22 1 rfl).trans ((k21 1).trans q37)
        have q45 := (k22 5 rfl).trans ((k21 5).trans q38)
        have q46 := (k22 6 rfl).trans ((k21 6).trans q39)
        have q47 := (k22 7 rfl).trans ((k21 7).trans q40)
        have q48 := (k22 9 rfl).trans ((k21 9).trans q41)
        have q49 := (k22 11 rfl).trans ((k21 11).trans q35)
        refine hK27 _ _ <| sr fun K29 hK29 => p_mv (v := sl b4 0 (t3).length c4) q46 <| p_mv q49 <| bn hF6 fun y13 e13 hF6 => p_val (r_addrV (i := (s4.2.1 : Int).toNat) u63 tsz107 rfl (HS.ownV H (k := 0) rfl) rfl (idx_some e13).1 (idx_lt e13)) ?_
        have hr6 := RL.get g9 (idx_some e13).2; generalize hghr6 : piece cs12 _ _ = cs14 at hr6
        obtain rfl := elU32 hr6
        refine p_val (o_load1 (v := .int .u32 (((y13).toNat : Int))) to107 H (k := 0) rfl rfl (idx_lt e13) hghr6) <| p_val (r_conv u107 u22 rfl (i64_wrap _)) <| p_val (r_add rfl rfl (i64_wrap _)) <| p_mv q42 <| p_val (r_sub rfl rfl (i64_wrap _)) <| asI rfl <| xk hK29 <| sr fun K30 hK30 => p_mv (v := sl b4 0 (t3).length c4) q46 ?_
        refine p_mv q49 <| mvI rfl <| p_val (r_bits (bo := .and) (by simp) rfl rfl (i64_and _ (65535 : UInt64))) <| p_val (r_conv u22 u107 rfl (i32_wrap _)) <| bn hF6 fun y14 e14 hF6 => p_val (r_addrV (i := (s4.2.1 : Int).toNat) u63 tsz107 rfl (HS.ownV H (k := 0) rfl) rfl (idx_some e14).1 (idx_lt e14)) <| bn hF6 fun y15 e15 hF6 => ?_
        refine p_oft (a_storeX (k := 0) (l := [Value.int .u32 ((((i32 ((((i64 ((((i64 ((((i64 ((y13).toNat : Int))).toNat : Int) + 1099511627776))).toNat : Int) - ((t6).toNat : Int))) &&& (65535 : UInt64))).toNat : Int))).toNat : Int))]) tsz107 rfl H rfl g9 rfl rfl (cells_one rfl) rpU32 e15) fun w13 cs15 H g10 => ?_
        replace H := hsn H
        refine xk hK30 <| wp_region_lit <| mvI rfl <| p_val (r_shr rfl rfl (by decide) (i64_shr _ _)) <| p_val (r_sub rfl rfl (i64_wrap _)) <| asI rfl <| wpList_nil <| b_norm <| xn hK25 ?_
        refine wp_region_lit <| p_mv q49 <| p_val (r_addI rfl rfl) <| asI rfl <| wpList_nil <| x_norm ?_
        replace H := hsn H
        obtain rfl := osi hF6
        exact ⟨((i64 ((16777216 : Int) - (((i64 (shrI .u64 (((i64 ((((i64 ((((i64 ((y13).toNat : Int))).toNat : Int) + 1099511627776))).toNat : Int) - ((t6).toNat : Int)))).toNat : Int) 16))).toNat : Int))), (w64 (s4.2.1 + 1)), y15), _, rfl, (kS k22 rfl (kN k21 (kS k19 rfl kcx))), ⟨_, _, rfl, rfl, H, g10⟩, hh4⟩
       refine sr fun K28 hK28 => p_mv ((k21 11).trans q35) <| p_mv ((k21 5).trans q38) <| p_val (r_lssI rfl rfl) <| xk hK28 ?_
       refine c_split rfl (fun hc7 => ?_) (fun hc7 => ?_)
       ·replace hE10 := cnd_t hE10 hc7
        refine wp_region_lit <| p_mv (k21 12) <| p_mv ((k21 9).trans q41) <| p_val (r_conv u107 u22 rfl (i64_wrap _)) <| p_mv (v := v1_) ((k21 1).trans q37) <| p_mv ((k21 11).trans q35) <| bn hE10 fun y12 e12 hE10 => ?_
        obtain ⟨b7, o12, N2, c7, cs13, hv7, hi2, hc8, hr5⟩ := h1_.get (idx_some e12).2
        refine p_val (r_addrV (i := (s4.2.1 : Int).toNat) u63 tsz107 rfl hv7 rfl (idx_some e12).1 hi2) ?_
        obtain rfl := elU32 hr5
        refine p_val (s_load1 (p := (o12 + (s4.2.1 : Int).toNat * 1)) (o := 0) (v := .int .u32 (((y12).toNat : Int))) to107 H.sub rfl hc8 rfl) <| p_val (r_conv u107 u22 rfl (i64_wrap _)) <| p_val (r_mul rfl rfl (i64_wrap _)) <| p_val (r_add rfl rfl (i64_wrap _)) <| asI rfl <| wpList_nil <| x_norm ?_
        replace H := hsn H
        obtain rfl := osi hE10
        exact J1 _ _ kcx rfl H
       ·replace hE10 := cnd_f hE10 hc7
        refine wp_skip <| x_norm ?_
        replace H := hsn H
        obtain rfl := osi hE10
        exact J1 _ _ kcx (k21 12) H
      ·replace hb5 := cnd_f hb5 hc6
       refine wp_exit <| x_exit <| x_exit <| b_hit <| b_norm <| x_norm ?_
       replace H := hsn H
       obtain rfl := osi hb5
       obtain rfl := osi hh4
       obtain rfl := osi hE9
       exact ⟨s4.2.2, _, rfl, (kS k19 rfl (kN k18 (kS k17 rfl (kN k16 (kS k15 rfl (kN k14 (kS k12 rfl kcx))))))), ⟨_, _, H, g9⟩, hh3⟩
     refine sr fun K20 hK20 => p_mv (k16 9) <| p_val (r_eqlI rfl rfl) <| xk hK20 ?_
     refine c_split rfl (fun hc5 => ?_) (fun hc5 => ?_)
     ·replace hE8 := cnd_t hE8 hc5
      refine wp_region_lit <| asI rfl <| wpList_nil <| x_norm ?_
      replace H := hsn H
      obtain rfl := osi hE8
      exact J2 _ _ kcx rfl H
     ·replace hE8 := cnd_f hE8 hc5
      refine wp_skip <| x_norm ?_
      replace H := hsn H
      obtain rfl := osi hE8
      exact J2 _ _ kcx (k16 9) H
    ·replace hF4 := cnd_f hF4 hc4
     refine wp_exit <| x_exit <| x_exit <| b_hit <| b_norm <| x_norm ?_
     replace H := hsn H
     obtain rfl := osi hF4
     obtain rfl := osi hh3
     obtain rfl := osi hE6
     exact J5 _ _ _ _ (kS k15 rfl (kN k14 (kS k12 rfl (kN k11 (kS k10 rfl (kN k6 kcx)))))) H g7
   refine p_gs (j := 5) (gvl_at rfl rfl (k14 50)) (fun hb4 => ?_) (fun hb4 => ?_)
   ·replace hE7 := cnd_t hE7 hb4
    refine p_skip (gvl_at rfl rfl (k14 50)) hb4 ?_
    rw [put_fr]
    refine p_skip (gvl_at rfl rfl (k14 50)) hb4 ?_
    rw [put_fr]
    refine p_skip (gvl_at rfl rfl (k14 50)) hb4 ?_
    rw [put_fr]
    refine p_skip (gvl_at rfl rfl (k14 50)) hb4 ?_
    rw [put_fr]
    refine p_skip (gvl_at rfl rfl (k14 50)) hb4 ?_
    rw [put_fr]
    refine p_skip (gvl_at rfl rfl (k14 50)) hb4 ?_
    rw [put_fr]
    refine p_val (r_pickt (v := .bool (true)) (k14 50) hb4 rfl) <| hR2 _ _ ?_
    replace H := hsn H
    obtain rfl := osi hE7
    exact J3 _ _ kcx rfl H
   ·replace hE7 := cnd_f hE7 hb4
    refine p_want (gvl_at rfl rfl (k14 50)) hb4 <| p_mv (v := sl b4 0 (t3).length c4) ((k14 6).trans q20) <| p_want (gvl_at rfl rfl (k14 50)) hb4 <| p_mv ((k14 5).trans q19) <| p_want (gvl_at rfl rfl (k14 50)) hb4 <| bn hE7 fun y9 e9 hE7 => p_val (r_subH (h := (((x1).length : Int) : Int).toNat) u63 tsz107 rfl rfl (subH_some e9).1 (RdS.ofOwn H (k := 0) rfl g7) (subH_some e9).2.1) ?_
    refine p_want (gvl_at rfl rfl (k14 50)) hb4 <| p_mv (v := v1_) ((k14 1).trans q18) <| p_want (gvl_at rfl rfl (k14 50)) hb4 <| bn hE7 fun y10 e10 hE7 => p_call (l := [(subN (sl b4 0 (t3).length c4) 1 0 (((x1).length : Int) : Int).toNat), v1_]) is69 rfl <| (r6_Cmp_c (subMem w7) (RdS.subH (RdS.ofOwn H (k := 0) rfl g7) e9) (h1_.mono H.sub) e10).mono <| H.xe fun w8 H => ?_
    refine p_want (gvl_at rfl rfl (k14 50)) hb4 <| p_val (r_geqI rfl rfl) <| p_val (r_pickf (v := .bool (decide ((0 : Int) ≤ y10))) (k14 50) hb4 rfl) <| hR2 _ _ ?_
    replace H := hsn H
    obtain rfl := osi hE7
    exact J3 _ _ kcx rfl H
  refine sr fun K10 hK10 => p_mv ((k6 5).trans ((k5 5).trans q4)) <| asI rfl <| xk hK10 <| wp_block <| nameF fun m6 k7 => bn hE4 fun out2 hL2 hE5 => ?_
  replace H := hsn H
  refine loopI (8 :: rg 27 12 []) (fun (s2 : Int × (List UInt32)) (m7 : FM) (w3 : World) => ∃ (cs3 rs3 : List Value), look m7 8 = .int .i64 (s2.1) ∧ HS ⟨S, [], w⟩ S w3 [.osl (v1) (s2.2).length 1 cs3 rs3 107] ∧ RL S cs3 s2.2) hL2 ⟨_, _, (k7 8), H, g2⟩ ?_
  clear H; intro k9 s2 m7 w3 k8 hI2 o5 hb2 hh2; obtain ⟨cs3, rs3, q6, H, g3⟩ := hI2
  have q7 := (k8 0 rfl).trans ((k7 0).trans ((k6 0).trans ((k5 0).trans q2)))
  have q8 := (k8 1 rfl).trans ((k7 1).trans ((k6 1).trans ((k5 1).trans q3)))
  have q9 := (k8 5 rfl).trans ((k7 5).trans ((k6 5).trans ((k5 5).trans q4)))
  have q10 := (k8 6 rfl).trans ((k7 6).trans ((k6 6).trans ((k5 6).trans q5)))
  have q11 := (k8 7 rfl).trans ((k7 7).trans ((k6 7).trans ((k5 7).trans q1)))
  unfold r6_Left_b1 at hb2
  refine wp_seq_k fun K11 hK11 => sr fun K12 hK12 => p_mv q6 <| p_val (r_gtrI rfl rfl) <| xk hK12 ?_
  refine c_split rfl (fun hc2 => ?_) (fun hc2 => ?_)
  ·replace hb2 := cnd_t hb2 hc2
   refine wp_skip <| xn hK11 <| wp_seq_k fun K13 hK13 => wp_block <| wp_region_lit <| p_mv (v := v1) q10 <| p_mv q6 <| p_mv (v := v1) q10 <| p_mv q6 ?_
   refine p_val (r_subI rfl rfl) <| bn hb2 fun y2 e2 hb2 => ?_
   obtain ⟨b1, c1, hv1⟩ := H.ownAt (k := 0) rfl (idx_lt e2)
   refine p_val (r_addrV (i := ((w64 (s2.1 - 1)) : Int).toNat) u63 tsz107 rfl hv1 rfl (idx_some e2).1 (idx_lt e2)) ?_
   subst hv1
   have hr1 := RL.get g3 (idx_some e2).2; generalize hghr1 : piece cs3 _ _ = cs4 at hr1
   obtain rfl := elU32 hr1
   refine p_val (o_load1 (v := .int .u32 (((y2).toNat : Int))) to107 H (k := 0) rfl rfl (idx_lt e2) hghr1) <| bn hb2 fun y3 e3 hb2 => p_val (r_addrV (i := (s2.1 : Int).toNat) u63 tsz107 rfl (HS.ownV H (k := 0) rfl) rfl (idx_some e3).1 (idx_lt e3)) <| bn hb2 fun y4 e4 hb2 => ?_
   refine p_oft (a_storeX (k := 0) (l := [Value.int .u32 (((y2).toNat : Int))]) tsz107 rfl H rfl g3 rfl rfl (cells_one rfl) rpU32 e4) fun w4 cs5 H g4 => ?_
   replace H := hsn H
   refine wpList_nil <| b_norm <| xn hK13 <| wp_region_lit <| p_mv q6 <| p_val (r_subI rfl rfl) <| asI rfl <| wpList_nil <| x_norm ?_
   replace H := hsn H
   obtain rfl := osi hb2
   exact ⟨((w64 (s2.1 - 1)), y4), _, rfl, (kS k8 rfl kcx), ⟨_, _, rfl, H, g4⟩, hh2⟩
  ·replace hb2 := cnd_f hb2 hc2
   refine wp_exit <| x_exit <| x_exit <| b_hit <| x_norm ?_
   replace H := hsn H
   obtain rfl := osi hb2
   obtain rfl := osi hh2
   obtain rfl := osi hE5
   exact J4 _ _ _ _ (kS k8 rfl (kN k7 kcx)) H g3
 ·replace hb1 := cnd_f hb1 hc1
  refine wp_exit <| x_exit <| x_exit <| b_hit <| x_norm ?_
  replace H := hsn H
  obtain rfl := osi hb1
  obtain rfl := osi hh1
  obtain rfl := osi hE2
  exact J6 _ _ _ _ (kS k3 rfl (kN k2 kcx)) H g2
def r6_Modulus_p (x0 : Int) : Option ((List UInt32)) :=
  bif (x0 == 0) then (some (([(65535 : UInt32), (65535 : UInt32), (65535 : UInt32), (65535 : UInt32), (65535 : UInt32), (65535 : UInt32), (0 : UInt32), (0 : UInt32), (0 : UInt32), (0 : UInt32), (0 : UInt32), (0 : UInt32), (1 : UInt32), (0 : UInt32), (65535 : UInt32), (65535 : UInt32)] : List UInt32))) else (some (([(9553 : UInt32), (64611 : UInt32), (51906 : UInt32), (62393 : UInt32), (40580 : UInt32), (42775 : UInt32), (64173 : UInt32), (48358 : UInt32), (65535 : UInt32), (65535 : UInt32), (65535 : UInt32), (65535 : UInt32), (0 : UInt32), (0 : UInt32), (65535 : UInt32), (65535 : UInt32)] : List UInt32)))
theorem r6_Modulus_c {S : Mem} {w : World} (hS : Sub S w) {x0 : Int} {r : (List UInt32)} (hF : r6_Modulus_p x0 = some r) :
    Calls Tryz.prog 71 #[.int .i64 (x0)] w fun e w' => Ext w w' ∧ ∃ (v0' : Value), e = .returned (v0') ∧ RdS (gr S w w') v0' r := by
 refine enter (n := 7) Tryz.func71 rfl rfl rfl ?_
 have H := HS.start hS
 unfold r6_Modulus_p at hF
 refine sr fun K1 hK1 => asN rfl <| xk hK1 <| wp_seq_k fun K2 hK2 => sr fun K3 hK3 => mvI rfl <| p_val (r_eqlI rfl rfl) <| xk hK3 ?_
 refine c_split rfl (fun hc1 => ?_) (fun hc1 => ?_)
 ·replace hF := cnd_t hF hc1
  refine sr fun K4 hK4 => p_of2 (a_bsliceG (N := 16) (xs := [65535, 65535, 65535, 65535, 65535, 65535, 0, 0, 0, 0, 0, 0, 1, 0, 65535, 65535]) (RL.u32s _) tn63 H rfl (by kernel_rfl) rfl) fun w1 v1 cs1 H g1 => ?_
  replace H := hsn H
  refine p_as (v := v1) rfl <| xk hK4 <| wp_ret <| x_ret ?_
  obtain ⟨S1, hle1, g3, H1⟩ := H.fixX (k := 0) rfl g1; clear H; have H := H1; clear H1
  replace H := hsn H
  obtain rfl := osi hF
  refine e_1 rfl (q_tmp rfl) ?_
  exact ⟨H.toExt, _, rfl, RdS.mono g3 H.gr⟩
 ·replace hF := cnd_f hF hc1
  refine wp_skip <| xn hK2 <| sr fun K5 hK5 => p_of2 (a_bsliceG (N := 16) (xs := [9553, 64611, 51906, 62393, 40580, 42775, 64173, 48358, 65535, 65535, 65535, 65535, 0, 0, 65535, 65535]) (RL.u32s _) tn63 H rfl (by kernel_rfl) rfl) fun w2 v2 cs2 H g2 => ?_
  replace H := hsn H
  refine p_as (v := v2) rfl <| xk hK5 <| wp_ret ?_
  obtain ⟨S2, hle2, g4, H1⟩ := H.fixX (k := 0) rfl g2; clear H; have H := H1; clear H1
  replace H := hsn H
  obtain rfl := osi hF
  refine e_1 rfl (q_tmp rfl) ?_
  exact ⟨H.toExt, _, rfl, RdS.mono g4 H.gr⟩
def r6_Sum_p (x0 : Int) (x1 : List UInt32) (x2 : List UInt32) : Option ((List UInt32)) :=
  Option.bind (r6_Add_p x1 x2) fun y1 => Option.bind (r6_Modulus_p x0) fun y2 => Option.bind (r6_Left_p y1 y2) fun y3 => some (y3)
theorem r6_Sum_c {S : Mem} {w : World} (hS : Sub S w) {x0 : Int} {v1_ : Value} {x1 : List UInt32} (h1_ : RdS S v1_ x1) {v2_ : Value} {x2 : List UInt32} (h2_ : RdS S v2_ x2) {r : (List UInt32)} (hF : r6_Sum_p x0 x1 x2 = some r) :
    Calls Tryz.prog 106 #[.int .i64 (x0), v1_, v2_] w fun e w' => Ext w w' ∧ ∃ (v0' : Value), e = .returned (v0') ∧ RdS (gr S w w') v0' r := by
 refine enter (n := 13) Tryz.func106 rfl rfl rfl ?_
 have H := HS.start hS
 unfold r6_Sum_p at hF
 refine sr fun K1 hK1 => asN rfl <| xk hK1 <| sr fun K2 hK2 => p_mv (v := v1_) rfl <| p_mv (v := v2_) rfl <| bn hF fun y1 e1 hF => p_call (l := [v1_, v2_]) is150 rfl <| (r6_Add_c H.sub h1_ h2_ e1).mono <| H.ye fun w1 v1 S1 hle1 H g1 => ?_
 replace h1_ := h1_.mono hle1
 replace h2_ := h2_.mono hle1
 refine mvI rfl <| bn hF fun y2 e2 hF => p_call (l := [.int .i64 (x0)]) is71 rfl <| (r6_Modulus_c H.sub e2).mono <| H.ye fun w2 v2 S2 hle2 H g2 => ?_
 replace g1 := g1.mono hle2
 refine bn hF fun y3 e3 hF => p_call (l := [v1, v2]) is70 rfl <| (r6_Left_c H.sub g1 g2 e3).mono <| H.ye fun w3 v3 S3 hle3 H g3 => ?_
 replace g1 := g1.mono hle3
 replace g2 := g2.mono hle3
 refine p_as (v := v3) rfl <| xk hK2 <| wp_ret ?_
 obtain rfl := osi hF
 refine e_1 rfl (q_tmp rfl) ?_
 exact ⟨H.toExt, _, rfl, RdS.mono g3 H.gr⟩
def r6_Product_p (x0 : Int) (x1 : List UInt32) (x2 : List UInt32) : Option ((List UInt32)) :=
  Option.bind (r6_Mul_p x1 x2) fun y1 => Option.bind (r6_Modulus_p x0) fun y2 => Option.bind (r6_Left_p y1 y2) fun y3 => some (y3)
theorem r6_Product_c {S : Mem} {w : World} (hS : Sub S w) {x0 : Int} {v1_ : Value} {x1 : List UInt32} (h1_ : RdS S v1_ x1) {v2_ : Value} {x2 : List UInt32} (h2_ : RdS S v2_ x2) {r : (List UInt32)} (hF : r6_Product_p x0 x1 x2 = some r) :
    Calls Tryz.prog 65 #[.int .i64 (x0), v1_, v2_] w fun e w' => Ext w w' ∧ ∃ (v0' : Value), e = .returned (v0') ∧ RdS (gr S w w') v0' r := by
 refine enter (n := 13) Tryz.func65 rfl rfl rfl ?_
 have H := HS.start hS
 unfold r6_Product_p at hF
 refine sr fun K1 hK1 => asN rfl <| xk hK1 <| sr fun K2 hK2 => p_mv (v := v1_) rfl <| p_mv (v := v2_) rfl <| bn hF fun y1 e1 hF => p_call (l := [v1_, v2_]) is123 rfl <| (r6_Mul_c H.sub h1_ h2_ e1).mono <| H.ye fun w1 v1 S1 hle1 H g1 => ?_
 replace h1_ := h1_.mono hle1
 replace h2_ := h2_.mono hle1
 refine mvI rfl <| bn hF fun y2 e2 hF => p_call (l := [.int .i64 (x0)]) is71 rfl <| (r6_Modulus_c H.sub e2).mono <| H.ye fun w2 v2 S2 hle2 H g2 => ?_
 replace g1 := g1.mono hle2
 refine bn hF fun y3 e3 hF => p_call (l := [v1, v2]) is70 rfl <| (r6_Left_c H.sub g1 g2 e3).mono <| H.ye fun w3 v3 S3 hle3 H g3 => ?_
 replace g1 := g1.mono hle3
 replace g2 := g2.mono hle3
 refine p_as (v := v3) rfl <| xk hK2 <| wp_ret ?_
 obtain rfl := osi hF
 refine e_1 rfl (q_tmp rfl) ?_
 exact ⟨H.toExt, _, rfl, RdS.mono g3 H.gr⟩
def r6_Opposite_p (x0 : Int) (x1 : List UInt32) : Option ((List UInt32)) :=
  Option.bind (r6_Modulus_p x0) fun y1 => Option.bind (r6_Modulus_p x0) fun y2 => Option.bind (r6_Left_p x1 y2) fun y3 => Option.bind (r6_Sub_p y1 y3) fun y4 => Option.bind (r6_Modulus_p x0) fun y5 => Option.bind (r6_Left_p y4 y5) fun y6 => some (y6)
theorem r6_Opposite_c {S : Mem} {w : World} (hS : Sub S w) {x0 : Int} {v1_ : Value} {x1 : List UInt32} (h1_ : RdS S v1_ x1) {r : (List UInt32)} (hF : r6_Opposite_p x0 x1 = some r) :
    Calls Tryz.prog 152 #[.int .i64 (x0), v1_] w fun e w' => Ext w w' ∧ ∃ (v0' : Value), e = .returned (v0') ∧ RdS (gr S w w') v0' r := by
 refine enter (n := 15) Tryz.func152 rfl rfl rfl ?_
 have H := HS.start hS
 unfold r6_Opposite_p at hF
 refine sr fun K1 hK1 => asN rfl <| xk hK1 <| sr fun K2 hK2 => mvI rfl <| bn hF fun y1 e1 hF => p_call (l := [.int .i64 (x0)]) is71 rfl <| (r6_Modulus_c H.sub e1).mono <| H.ye fun w1 v1 S1 hle1 H g1 => ?_
 replace h1_ := h1_.mono hle1
 refine p_mv (v := v1_) rfl <| mvI rfl <| bn hF fun y2 e2 hF => p_call (l := [.int .i64 (x0)]) is71 rfl <| (r6_Modulus_c H.sub e2).mono <| H.ye fun w2 v2 S2 hle2 H g2 => ?_
 replace h1_ := h1_.mono hle2
 replace g1 := g1.mono hle2
 refine bn hF fun y3 e3 hF => p_call (l := [v1_, v2]) is70 rfl <| (r6_Left_c H.sub h1_ g2 e3).mono <| H.ye fun w3 v3 S3 hle3 H g3 => ?_
 replace h1_ := h1_.mono hle3
 replace g1 := g1.mono hle3
 replace g2 := g2.mono hle3
 refine bn hF fun y4 e4 hF => p_call (l := [v1, v3]) is121 rfl <| (r6_Sub_c H.sub g1 g3 e4).mono <| H.ye fun w4 v4 S4 hle4 H g4 => ?_
 replace g1 := g1.mono hle4
 replace g3 := g3.mono hle4
 refine mvI rfl <| bn hF fun y5 e5 hF => p_call (l := [.int .i64 (x0)]) is71 rfl <| (r6_Modulus_c H.sub e5).mono <| H.ye fun w5 v5 S5 hle5 H g5 => ?_
 replace g4 := g4.mono hle5
 refine bn hF fun y6 e6 hF => p_call (l := [v4, v5]) is70 rfl <| (r6_Left_c H.sub g4 g5 e6).mono <| H.ye fun w6 v6 S6 hle6 H g6 => ?_
 replace g4 := g4.mono hle6
 replace g5 := g5.mono hle6
 refine p_as (v := v6) rfl <| xk hK2 <| wp_ret ?_
 obtain rfl := osi hF
 refine e_1 rfl (q_tmp rfl) ?_
 exact ⟨H.toExt, _, rfl, RdS.mono g6 H.gr⟩
end Go.Proofs.YtmbcolbbekbccaaGreat
