/- What some functions compute, and that they do. Conditions: as each theorem says. -/
import Derived.Test.YtdomaggikbmooaaDoorCdB
import Derived.Test.YtdomaggikbmooaaDoorCdW
namespace Go.Proofs.YtdomaggikbmooaaDoor
open Go Go.RowKit
attribute [local irreducible] wpList wpT Code.wp Calls Code.rounds
theorem tg34 : TAgg Tryd.prog 34 2 := ⟨fun _ => by kernel_rfl, fun _ => by kernel_rfl⟩
theorem to5 : TOne Tryd.prog 5 := ⟨fun _ => by kernel_rfl, fun _ => by kernel_rfl⟩
theorem tz46 : TZero Tryd.prog 46 (.agg #[.pointer none, .slice none 0 0]) := fun _ => by kernel_rfl
theorem u21 : Tryd.prog.underlying 21 = some (.int .i32) := by kernel_rfl
theorem eg34 : Tryd.prog.eqGuardType Tryd.prog.depth 34 = false := by kernel_rfl
theorem is20 : IsFn Tryd.prog 20 := isFn Tryd.func20 (by kernel_rfl) (by kernel_rfl)
theorem is31 : IsFn Tryd.prog 31 := isFn Tryd.func31 (by kernel_rfl) (by kernel_rfl)
theorem is33 : IsFn Tryd.prog 33 := isFn Tryd.func33 (by kernel_rfl) (by kernel_rfl)
theorem is34 : IsFn Tryd.prog 34 := isFn Tryd.func34 (by kernel_rfl) (by kernel_rfl)
theorem is35 : IsFn Tryd.prog 35 := isFn Tryd.func35 (by kernel_rfl) (by kernel_rfl)
theorem is37 : IsFn Tryd.prog 37 := isFn Tryd.func37 (by kernel_rfl) (by kernel_rfl)
theorem is38 : IsFn Tryd.prog 38 := isFn Tryd.func38 (by kernel_rfl) (by kernel_rfl)
theorem is39 : IsFn Tryd.prog 39 := isFn Tryd.func39 (by kernel_rfl) (by kernel_rfl)
theorem is40 : IsFn Tryd.prog 40 := isFn Tryd.func40 (by kernel_rfl) (by kernel_rfl)
theorem is42 : IsFn Tryd.prog 42 := isFn Tryd.func42 (by kernel_rfl) (by kernel_rfl)
theorem is44 : IsFn Tryd.prog 44 := isFn Tryd.func44 (by kernel_rfl) (by kernel_rfl)
theorem is45 : IsFn Tryd.prog 45 := isFn Tryd.func45 (by kernel_rfl) (by kernel_rfl)
theorem pt34 : Tryd.prog.underlying 34 = some (.struct (fieldsOf Tryd.prog 34)) := by kernel_rfl
theorem ptf34 : (fieldsOf Tryd.prog 34).toList.map (fun f => (f.name, f.type, f.offset)) = [("Name", 9, 0), ("Value", 9, 1)] := by kernel_rfl
theorem pts34 : Tryd.prog.stoodInHeld 34 = false := by kernel_rfl
theorem tsz5 : TSz Tryd.prog 5 1 := fun _ => by kernel_rfl
def seneschalref01_Same_b0 (x0 : List ((List UInt8) × (List UInt8))) (x1 : List ((List UInt8) × (List UInt8))) (s1 : Int) : Option ((Int) ⊕ ((Bool) ⊕ (Unit))) :=
  bif decide (s1 < ((x0).length : Int)) then (Option.bind (idx x0 s1) fun y1 => Option.bind (idx x1 s1) fun y2 => bif (!((y1.1 == y2.1) && (y1.2 == y2.2))) then (some (.inr (.inl (false)))) else (some (.inl ((w64 (s1 + 1)))))) else (some (.inr (.inr (()))))
def seneschalref01_Same_p (x0 : List ((List UInt8) × (List UInt8))) (x1 : List ((List UInt8) × (List UInt8))) : Option (Bool) :=
  bif (((x0).length : Int) != ((x1).length : Int)) then (some (false)) else (jn (Option.bind (iter (seneschalref01_Same_b0 x0 x1) (0)) (fun e => jnO e (fun e1 => some (.inr (e1))) (fun e2 => some (.inl (e2))))) (fun t1 => some (true)) (fun e => some (e)))
theorem seneschalref01_Same_c {S : Mem} {w : World} (hS : Sub S w) {v0_ : Value} {x0 : List ((List UInt8) × (List UInt8))} (h0_ : RdS S v0_ x0) {v1_ : Value} {x1 : List ((List UInt8) × (List UInt8))} (h1_ : RdS S v1_ x1) {r : Bool} (hF : seneschalref01_Same_p x0 x1 = some r) :
    Calls Tryd.prog 28 #[v0_, v1_] w fun e w' => e = .returned (.bool (r)) ∧ Ext w w' := by
  refine enter (n := 26) Tryd.func28 rfl rfl rfl ?_
  have H := HS.start hS
  unfold seneschalref01_Same_p at hF
  refine wp_seq_k ?_; intro K1 hK1
  refine wp_region_lit ?_
  refine p_val (r_assign (v := .bool (false)) rfl) ?_
  refine wpList_nil ?_
  refine x_norm ?_; refine hK1 _ _ ?_; clear hK1
  refine wp_seq_k ?_; intro K2 hK2
  refine wp_seq_k ?_; intro K3 hK3
  refine wp_region_lit ?_
  refine p_val (r_move (v := v0_) rfl) ?_
  refine p_val (r_lenR' u28 rfl h0_ H.sub) ?_
  refine p_val (r_move (v := v1_) rfl) ?_
  refine p_val (r_lenR' u28 rfl h1_ H.sub) ?_
  refine p_val (r_neq (t := (((x0).length : Int) != ((x1).length : Int))) rfl rfl rfl) ?_
  refine wpList_nil ?_
  refine x_norm ?_; refine hK3 _ _ ?_; clear hK3
  refine c_split (t := (((x0).length : Int) != ((x1).length : Int))) rfl (fun hc1 => ?_) (fun hc1 => ?_)
  · replace hF := cnd_t hF hc1
    refine wp_seq_k ?_; intro K4 hK4
    refine wp_region_lit ?_
    refine p_val (r_assign (v := .bool (false)) rfl) ?_
    refine wpList_nil ?_
    refine x_norm ?_; refine hK4 _ _ ?_; clear hK4
    refine wp_ret ?_
    refine x_ret ?_
    obtain rfl := Option.some.inj hF
    refine e_1 rfl (q_tmp (v := .bool (false)) rfl) ?_
    exact ⟨rfl, H.toExt⟩
  · replace hF := cnd_f hF hc1
    refine wp_skip ?_
    refine x_norm ?_; refine hK2 _ _ ?_; clear hK2
    refine wp_seq_k ?_; intro K5 hK5
    refine nameF fun m1 k1 => ?_
    obtain ⟨o1, hE1, hF1⟩ := jn_some hF
    have J1 : ∀ (t1 : Unit) (m4 : FM) (w3 : World), o1 = .inl t1 → (∀ t, has [4, 5, 11, 12, 13, 14, 15, 16, 17, 18, 19, 20, 21, 22, 23, 24, 25] t = false → look m4 t = look m1 t) → HS ⟨S, [], w⟩ S w3 [] → K5 (fr 26 m4) w3 := by
      clear H; intro t1 m4 w3 ho k5 H
      replace hF1 := jnO_l hF1 ho
      refine hK5 _ _ ?_
      refine wp_seq_k ?_; intro K12 hK12
      refine wp_region_lit ?_
      refine p_val (r_assign (v := .bool (true)) rfl) ?_
      refine wpList_nil ?_
      refine x_norm ?_; refine hK12 _ _ ?_; clear hK12
      refine wp_ret ?_
      obtain rfl := Option.some.inj hF1
      refine e_1 rfl (q_tmp (v := .bool (true)) rfl) ?_
      exact ⟨rfl, H.toExt⟩
    refine wp_seq_k ?_; intro K6 hK6
    refine wp_region_lit ?_
    refine p_val (r_assign (v := .int .i64 (0)) rfl) ?_
    refine wpList_nil ?_
    refine x_norm ?_; refine hK6 _ _ ?_; clear hK6
    refine wp_block ?_
    refine nameF fun m2 k2 => ?_
    obtain ⟨out1, hL1, hE2⟩ := bnd hE1
    replace H : HS ⟨S, [], w⟩ S w [] := H
    refine loopI [4, 5, 11, 12, 13, 14, 15, 16, 17, 18, 19, 20, 21, 22, 23, 24, 25] (fun (s1 : Int) (m3 : FM) (w1 : World) => look m3 5 = .int .i64 (s1) ∧ HS ⟨S, [], w⟩ S w1 []) hL1 ⟨(k2 5), H⟩ ?_
    clear H; intro k4 s1 m3 w1 k3 hI1 o2 hb1 hh1; obtain ⟨q1, H⟩ := hI1
    have q2 : look m3 0 = v0_ := (k3 0 rfl).trans ((k2 0).trans (k1 0))
    have q3 : look m3 1 = v1_ := (k3 1 rfl).trans ((k2 1).trans (k1 1))
    unfold seneschalref01_Same_b0 at hb1
    refine wp_seq_k ?_; intro K7 hK7
    refine wp_seq_k ?_; intro K8 hK8
    refine wp_region_lit ?_
    refine p_val (r_move (v := .int .i64 (s1)) q1) ?_
    refine p_val (r_move (v := v0_) q2) ?_
    refine p_val (r_lenR' u28 rfl h0_ H.sub) ?_
    refine p_val (r_lss (t := decide (s1 < ((x0).length : Int))) rfl rfl rfl) ?_
    refine wpList_nil ?_
    refine x_norm ?_; refine hK8 _ _ ?_; clear hK8
    refine c_split (t := decide (s1 < ((x0).length : Int))) rfl (fun hc2 => ?_) (fun hc2 => ?_)
    · replace hb1 := cnd_t hb1 hc2
      refine wp_skip ?_
      refine x_norm ?_; refine hK7 _ _ ?_; clear hK7
      refine wp_seq_k ?_; intro K9 hK9
      refine wp_block ?_
      refine wp_seq_k ?_; intro K10 hK10
      obtain ⟨y1, e1, hb1⟩ := bnd hb1
      obtain ⟨b1, o3, N1, c1, cs1, hv1, hi1, hc3, hr1⟩ := h0_.get (idx_some e1).2
      obtain ⟨c2, c3, rfl, g1, g2⟩ := elP hr1
      obtain rfl := elT g1
      obtain rfl := elT g2
      obtain ⟨y2, e2, hb1⟩ := bnd hb1
      obtain ⟨b2, o4, N2, c4, cs2, hv2, hi2, hc4, hr2⟩ := h1_.get (idx_some e2).2
      obtain ⟨c5, c6, rfl, g3, g4⟩ := elP hr2
      obtain rfl := elT g3
      obtain rfl := elT g4
      apply wp_region_ext 9 (kinds []) rfl rfl (by kernel_rfl); intro vs1
      simp only [List.take_succ_cons, List.take_zero, List.drop_succ_cons, List.drop_zero]
      replace H := H.drew
      refine t_val (fun w hx => r_move (v := v0_) q2) rfl rfl ?_
      refine t_val (fun w hx => r_move (v := .int .i64 (s1)) q1) rfl rfl ?_
      refine t_val (fun w hx => r_addrV (i := (s1 : Int).toNat) u28 tsz34 rfl hv1 rfl (idx_some e1).1 hi1) rfl rfl ?_
      refine t_val (fun w hx => s_load (p := (o3 + (s1 : Int).toNat * 2)) (o := 0) (l := ([str (y1.1)] ++ ([str (y1.2)]))) tg34 (H.ext hx).sub rfl hc3 rfl rfl) rfl rfl ?_
      refine t_val (fun w hx => r_move (v := v1_) q3) rfl rfl ?_
      refine t_val (fun w hx => r_move (v := .int .i64 (s1)) q1) rfl rfl ?_
      refine t_val (fun w hx => r_addrV (i := (s1 : Int).toNat) u28 tsz34 rfl hv2 rfl (idx_some e2).1 hi2) rfl rfl ?_
      refine t_val (fun w hx => s_load (p := (o4 + (s1 : Int).toNat * 2)) (o := 0) (l := ([str (y2.1)] ++ ([str (y2.2)]))) tg34 (H.ext hx).sub rfl hc4 rfl rfl) rfl rfl ?_
      refine t_val (fun w hx => r_neP2 (t := (!((y1.1 == y2.1) && (y1.2 == y2.2)))) pt34 ptf34 (by decide) (by decide) pts34 eg34 u9 to9 rfl rfl rfl) rfl rfl ?_
      refine t_nil (fun w2 hx hF hA => ?_)
      replace H := H.ext hx; clear hx hF hA
      refine wpList_nil ?_; refine on_norm ?_
      refine x_norm ?_; refine hK10 _ _ ?_; clear hK10
      refine c_split (t := (!((y1.1 == y2.1) && (y1.2 == y2.2)))) rfl (fun hc5 => ?_) (fun hc5 => ?_)
      · replace hb1 := cnd_t hb1 hc5
        refine wp_seq_k ?_; intro K11 hK11
        refine wp_region_lit ?_
        refine p_val (r_assign (v := .bool (false)) rfl) ?_
        refine wpList_nil ?_
        refine x_norm ?_; refine hK11 _ _ ?_; clear hK11
        refine wp_ret ?_
        refine b_ret ?_
        refine x_ret ?_
        refine x_ret ?_
        refine b_ret ?_
        refine x_ret ?_
        obtain rfl := Option.some.inj hb1
        obtain rfl := Option.some.inj hh1
        obtain rfl := Option.some.inj hE2
        obtain rfl := Option.some.inj hF1
        refine e_1 rfl (q_tmp (v := .bool (false)) rfl) ?_
        exact ⟨rfl, H.toExt⟩
      · replace hb1 := cnd_f hb1 hc5
        refine wp_skip ?_
        refine b_norm ?_
        refine x_norm ?_; refine hK9 _ _ ?_; clear hK9
        refine wp_region_lit ?_
        refine p_val (r_move (v := .int .i64 (s1)) q1) ?_
        refine p_val (r_add (r := w64 (s1 + 1)) rfl rfl rfl) ?_
        refine p_val (r_assign (v := .int .i64 ((w64 (s1 + 1)))) rfl) ?_
        refine wpList_nil ?_
        refine x_norm ?_
        replace H : HS ⟨S, [], w⟩ S w2 [] := H
        obtain rfl := Option.some.inj hb1
        exact ⟨(w64 (s1 + 1)), _, rfl, (by (repeat (refine keep_cons rfl ?_)); refine keep_sub k3 rfl ?_; (repeat (refine keep_cons rfl ?_)); exact fun _ _ => rfl), ⟨rfl, H⟩, hh1⟩
    · replace hb1 := cnd_f hb1 hc2
      refine wp_exit ?_
      refine x_exit ?_
      refine x_exit ?_
      refine b_hit ?_
      refine x_norm ?_
      replace H : HS ⟨S, [], w⟩ S w1 [] := H
      obtain rfl := Option.some.inj hb1
      obtain rfl := Option.some.inj hh1
      obtain rfl := Option.some.inj hE2
      exact J1 _ _ _ rfl (by (repeat (refine keep_cons rfl ?_)); refine keep_sub k3 rfl ?_; (repeat (refine keep_cons rfl ?_)); refine keep_name k2 ?_; (repeat (refine keep_cons rfl ?_)); exact fun _ _ => rfl) H
def codec_index_b0 (x0 : List UInt8) (x1 : UInt8) (s1 : Nat) : Option ((Nat) ⊕ ((Int) ⊕ (Unit))) :=
  bif decide (s1 < (x0).length) then (bif ((((i8 (nxR x0 s1))).toNat : Int) == ((x1).toNat : Int)) then (some (.inr (.inl (((s1 : Nat) : Int))))) else (some (.inl ((nxP x0 s1))))) else (some (.inr (.inr (()))))
def codec_index_p (x0 : List UInt8) (x1 : UInt8) : Option (Int) :=
  jn (Option.bind (iter (codec_index_b0 x0 x1) (0)) (fun e => jnO e (fun e1 => some (.inr (e1))) (fun e2 => some (.inl (e2))))) (fun t1 => some ((-1))) (fun e => some (e))
theorem codec_index_c {S : Mem} {w : World} (hS : Sub S w) {x0 : List UInt8} {x1 : UInt8} {r : Int} (hF : codec_index_p x0 x1 = some r) :
    Calls Tryd.prog 35 #[str (x0), .int .u8 (((x1).toNat : Int))] w fun e w' => e = .returned (.int .i64 (r)) ∧ Ext w w' := by
  refine enter (n := 18) Tryd.func35 rfl rfl rfl ?_
  have H := HS.start hS
  unfold codec_index_p at hF
  refine wp_seq_k ?_; intro K1 hK1
  refine wp_region_lit ?_
  refine p_val (r_assign (v := .int .i64 (0)) rfl) ?_
  refine wpList_nil ?_
  refine x_norm ?_; refine hK1 _ _ ?_; clear hK1
  refine wp_seq_k ?_; intro K2 hK2
  refine nameF fun m1 k1 => ?_
  obtain ⟨o1, hE1, hF1⟩ := jn_some hF
  have J1 : ∀ (t1 : Unit) (m4 : FM) (w4 : World), o1 = .inl t1 → (∀ t, has [4, 5, 6, 7, 8, 9, 10, 11, 12, 13, 14, 15, 16, 17] t = false → look m4 t = look m1 t) → HS ⟨S, [], w⟩ S w4 [] → K2 (fr 18 m4) w4 := by
    clear H; intro t1 m4 w4 ho k5 H
    replace hF1 := jnO_l hF1 ho
    refine hK2 _ _ ?_
    refine wp_seq_k ?_; intro K9 hK9
    refine wp_region_lit ?_
    refine p_val (r_assign (v := .int .i64 ((-1))) rfl) ?_
    refine wpList_nil ?_
    refine x_norm ?_; refine hK9 _ _ ?_; clear hK9
    refine wp_ret ?_
    obtain rfl := Option.some.inj hF1
    refine e_1 rfl (q_tmp (v := .int .i64 ((-1))) rfl) ?_
    exact ⟨rfl, H.toExt⟩
  refine wp_seq_k ?_; intro K3 hK3
  refine wp_region_lit ?_
  refine p_val (r_move (v := str (x0)) (k1 0)) ?_
  refine p_ofb (a_rangeT (l := x0) H u9 rfl) ?_; clear H; intro w1 b1 H
  replace H : HS ⟨S, [], w⟩ S w1 [.obj b1 (itT (x0) (0))] := H
  refine wpList_nil ?_
  refine x_norm ?_; refine hK3 _ _ ?_; clear hK3
  refine wp_block ?_
  refine nameF fun m2 k2 => ?_
  obtain ⟨out1, hL1, hE2⟩ := bnd hE1
  replace H : HS ⟨S, [], w⟩ S w1 [.obj b1 (itT (x0) (0))] := H
  refine loopI [4, 5, 6, 9, 10, 11, 12, 13, 14, 15, 16, 17] (fun (s1 : Nat) (m3 : FM) (w2 : World) => HS ⟨S, [], w⟩ S w2 [.obj b1 (itT (x0) (s1))]) hL1 H ?_
  clear H; intro k4 s1 m3 w2 k3 hI1 o2 hb1 hh1; have H := hI1
  have q1 : look m3 1 = .int .u8 (((x1).toNat : Int)) := (k3 1 rfl).trans ((k2 1).trans (k1 1))
  have q2 : look m3 8 = .pointer (some ⟨b1, 0, none⟩) := (k3 8 rfl).trans (k2 8)
  unfold codec_index_b0 at hb1
  refine wp_seq_k ?_; intro K4 hK4
  refine wp_region_lit ?_
  refine p_ofc (c := nxV x0 s1) (a_nextT (k := 0) H q2 rfl) ?_; clear H; intro w3 H
  replace H : HS ⟨S, [], w⟩ S w3 [.obj b1 (itT (x0) ((nxP x0 s1)))] := H
  refine p_val (r_nx0 rfl) ?_
  refine wpList_nil ?_
  refine x_norm ?_; refine hK4 _ _ ?_; clear hK4
  refine wp_seq_k ?_; intro K5 hK5
  refine c_split (t := decide (s1 < (x0).length)) rfl (fun hc1 => ?_) (fun hc1 => ?_)
  · replace hb1 := cnd_t hb1 hc1
    refine wp_skip ?_
    refine x_norm ?_; refine hK5 _ _ ?_; clear hK5
    refine wp_block ?_
    refine wp_seq_k ?_; intro K6 hK6
    refine wp_region_lit ?_
    refine p_val (r_nx1 rfl hc1) ?_
    refine p_val (r_nx2 rfl hc1) ?_
    refine p_val (r_assign (v := .int .i64 (((s1 : Nat) : Int))) rfl) ?_
    refine p_val (r_assign (v := .int .i32 ((nxR x0 s1))) rfl) ?_
    refine wpList_nil ?_
    refine x_norm ?_; refine hK6 _ _ ?_; clear hK6
    refine wp_seq_k ?_; intro K7 hK7
    refine wp_region_lit ?_
    refine p_val (r_move (v := .int .i32 ((nxR x0 s1))) rfl) ?_
    refine p_val (r_conv (r := (((i8 (nxR x0 s1))).toNat : Int)) u21 u5 rfl (i8_wrap _)) ?_
    refine p_val (r_move (v := .int .u8 (((x1).toNat : Int))) q1) ?_
    refine p_val (r_eql (t := ((((i8 (nxR x0 s1))).toNat : Int) == ((x1).toNat : Int))) rfl rfl rfl) ?_
    refine wpList_nil ?_
    refine x_norm ?_; refine hK7 _ _ ?_; clear hK7
    refine c_split (t := ((((i8 (nxR x0 s1))).toNat : Int) == ((x1).toNat : Int))) rfl (fun hc2 => ?_) (fun hc2 => ?_)
    · replace hb1 := cnd_t hb1 hc2
      refine wp_seq_k ?_; intro K8 hK8
      refine wp_region_lit ?_
      refine p_val (r_move (v := .int .i64 (((s1 : Nat) : Int))) rfl) ?_
      refine p_val (r_assign (v := .int .i64 (((s1 : Nat) : Int))) rfl) ?_
      refine wpList_nil ?_
      refine x_norm ?_; refine hK8 _ _ ?_; clear hK8
      refine wp_ret ?_
      refine b_ret ?_
      refine x_ret ?_
      refine b_ret ?_
      refine x_ret ?_
      obtain rfl := Option.some.inj hb1
      obtain rfl := Option.some.inj hh1
      obtain rfl := Option.some.inj hE2
      obtain rfl := Option.some.inj hF1
      refine e_1 rfl (q_tmp (v := .int .i64 (((s1 : Nat) : Int))) rfl) ?_
      exact ⟨rfl, H.toExt⟩
    · replace hb1 := cnd_f hb1 hc2
      refine wp_skip ?_
      refine b_norm ?_
      refine x_norm ?_
      replace H : HS ⟨S, [], w⟩ S w3 [.obj b1 (itT (x0) ((nxP x0 s1)))] := H
      obtain rfl := Option.some.inj hb1
      exact ⟨(nxP x0 s1), _, rfl, (by (repeat (refine keep_cons rfl ?_)); refine keep_sub k3 rfl ?_; (repeat (refine keep_cons rfl ?_)); exact fun _ _ => rfl), H, hh1⟩
  · replace hb1 := cnd_f hb1 hc1
    refine wp_exit ?_
    refine x_exit ?_
    refine x_exit ?_
    refine b_hit ?_
    refine x_norm ?_
    replace H := H.sel [] rfl
    replace H : HS ⟨S, [], w⟩ S w3 [] := H
    obtain rfl := Option.some.inj hb1
    obtain rfl := Option.some.inj hh1
    obtain rfl := Option.some.inj hE2
    exact J1 _ _ _ rfl (by (repeat (refine keep_cons rfl ?_)); refine keep_sub k3 rfl ?_; (repeat (refine keep_cons rfl ?_)); refine keep_name k2 ?_; (repeat (refine keep_cons rfl ?_)); exact fun _ _ => rfl) H
def codec_digits_p (x0 : List UInt8) (x1 : List UInt8) : Option (UInt8 × Bool) :=
  bif decide (((x0).length : Int) < 2) then (some (((0 : UInt8), false))) else (Option.bind (idx x0 0) fun y1 => Option.bind (codec_index_p x1 y1) fun y2 => Option.bind (idx x0 1) fun y3 => Option.bind (codec_index_p x1 y3) fun y4 => some (((i8 (bits .or .i64 (shlI .i64 (Int.tmod y2 16) 4) (Int.tmod y4 16))), (bif decide ((0 : Int) ≤ y2) then decide ((0 : Int) ≤ y4) else false))))
theorem codec_digits_c {S : Mem} {w : World} (hS : Sub S w) {x0 : List UInt8} {x1 : List UInt8} {r : UInt8 × Bool} (hF : codec_digits_p x0 x1 = some r) :
    Calls Tryd.prog 31 #[str (x0), str (x1)] w fun e w' => e = .returned (.tuple #[.int .u8 (((r.1).toNat : Int)), .bool (r.2)]) ∧ Ext w w' := by
  refine enter (n := 32) Tryd.func31 rfl rfl rfl ?_
  have H := HS.start hS
  unfold codec_digits_p at hF
  refine wp_seq_k ?_; intro K1 hK1
  refine wp_region_lit ?_
  refine p_val (r_assign (v := .int .u8 (0)) rfl) ?_
  refine p_val (r_assign (v := .bool (false)) rfl) ?_
  refine wpList_nil ?_
  refine x_norm ?_; refine hK1 _ _ ?_; clear hK1
  refine wp_seq_k ?_; intro K2 hK2
  refine wp_seq_k ?_; intro K3 hK3
  refine wp_region_lit ?_
  refine p_val (r_move (v := str (x0)) rfl) ?_
  refine p_val (r_lenT (N := (x0).length) u9 rfl rfl) ?_
  refine p_val (r_lss (t := decide (((x0).length : Int) < 2)) rfl rfl rfl) ?_
  refine wpList_nil ?_
  refine x_norm ?_; refine hK3 _ _ ?_; clear hK3
  refine c_split (t := decide (((x0).length : Int) < 2)) rfl (fun hc1 => ?_) (fun hc1 => ?_)
  · replace hF := cnd_t hF hc1
    refine wp_seq_k ?_; intro K4 hK4
    refine wp_region_lit ?_
    refine p_val (r_assign (v := .int .u8 (0)) rfl) ?_
    refine p_val (r_assign (v := .bool (false)) rfl) ?_
    refine wpList_nil ?_
    refine x_norm ?_; refine hK4 _ _ ?_; clear hK4
    refine wp_ret ?_
    refine x_ret ?_
    obtain rfl := Option.some.inj hF
    refine e_2 rfl (q_tmp (v := .int .u8 (0)) rfl) (q_tmp (v := .bool (false)) rfl) ?_
    exact ⟨rfl, H.toExt⟩
  · replace hF := cnd_f hF hc1
    refine wp_skip ?_
    refine x_norm ?_; refine hK2 _ _ ?_; clear hK2
    refine wp_seq_k ?_; intro K5 hK5
    obtain ⟨y1, e1, hF⟩ := bnd hF
    obtain ⟨y2, e2, hF⟩ := bnd hF
    obtain ⟨y3, e3, hF⟩ := bnd hF
    obtain ⟨y4, e4, hF⟩ := bnd hF
    apply wp_region_ext 8 (kinds [(3, .inl (.int .i64 (y2))), (7, .inl (.int .i64 (y4)))]) rfl rfl (by kernel_rfl); intro vs1
    simp only [List.take_succ_cons, List.take_zero, List.drop_succ_cons, List.drop_zero]
    replace H := H.drew
    refine t_val (fun w hx => r_move (v := str (x1)) rfl) rfl rfl ?_
    refine t_val (fun w hx => r_move (v := str (x0)) rfl) rfl rfl ?_
    refine t_val (fun w hx => r_idxT (i := (0 : Int).toNat) (u := y1) u9 rfl rfl (idx_some e1).1 (idx_some e1).2) rfl rfl ?_
    refine t_call (l := [str (x1), .int .u8 (((y1).toNat : Int))]) rfl rfl is35 rfl (fun w hx hF => (codec_index_c (H.ext hx).sub e2).mono (fun _ _ ⟨he, hx⟩ => ⟨he, hx⟩)) ?_
    refine t_val (fun w hx => r_move (v := str (x1)) rfl) rfl rfl ?_
    refine t_val (fun w hx => r_move (v := str (x0)) rfl) rfl rfl ?_
    refine t_val (fun w hx => r_idxT (i := (1 : Int).toNat) (u := y3) u9 rfl rfl (idx_some e3).1 (idx_some e3).2) rfl rfl ?_
    refine t_call (l := [str (x1), .int .u8 (((y3).toNat : Int))]) rfl rfl is35 rfl (fun w hx hF => (codec_index_c (H.ext hx).sub e4).mono (fun _ _ ⟨he, hx⟩ => ⟨he, hx⟩)) ?_
    refine t_nil (fun w1 hx hF hA => ?_)
    replace H := H.ext hx; clear hx hF hA
    refine p_val (r_assign (v := .int .i64 (y2)) rfl) ?_
    refine p_val (r_assign (v := .int .i64 (y4)) rfl) ?_
    refine wpList_nil ?_; refine on_norm ?_
    refine x_norm ?_; refine hK5 _ _ ?_; clear hK5
    refine wp_seq_k ?_; intro K6 hK6
    refine wp_region_lit ?_
    refine p_val (r_move (v := .int .i64 (y2)) rfl) ?_
    refine p_val (r_rem (r := Int.tmod y2 16) rfl rfl (by decide) rfl) ?_
    refine p_val (r_shl (r := shlI .i64 (Int.tmod y2 16) 4) rfl rfl (by decide) rfl) ?_
    refine p_val (r_move (v := .int .i64 (y4)) rfl) ?_
    refine p_val (r_rem (r := Int.tmod y4 16) rfl rfl (by decide) rfl) ?_
    refine p_val (r_bits (bo := .or) (by simp) (r := (bits .or .i64 (shlI .i64 (Int.tmod y2 16) 4) (Int.tmod y4 16))) rfl rfl rfl) ?_
    refine p_val (r_conv (r := (((i8 (bits .or .i64 (shlI .i64 (Int.tmod y2 16) 4) (Int.tmod y4 16)))).toNat : Int)) u3 u5 rfl (i8_wrap _)) ?_
    refine p_val (r_move (v := .int .i64 (y2)) rfl) ?_
    refine p_val (r_geq (t := decide ((0 : Int) ≤ y2)) rfl rfl rfl) ?_
    refine p_val (r_move (v := .bool (decide ((0 : Int) ≤ y2))) rfl) ?_
    refine nameL fun m1 k1 => ?_
    refine gs_at 3 fun K7 hK7 R1 hR1 => ?_
    have J1 : ∀ (m2 : FM), (∀ t, has [29, 30, 31] t = false → look m2 t = look m1 t) → look m2 31 = .bool ((bif decide ((0 : Int) ≤ y2) then decide ((0 : Int) ≤ y4) else false)) → K7 m2 w1 := by
      intro m2 k2 q1
      have q2 : look m2 25 = .int .u8 ((((i8 (bits .or .i64 (shlI .i64 (Int.tmod y2 16) 4) (Int.tmod y4 16)))).toNat : Int)) := (k2 25 rfl).trans (k1 25)
      refine hK7 _ _ ?_; clear hK7 hR1
      refine p_val (r_assign (v := .int .u8 ((((i8 (bits .or .i64 (shlI .i64 (Int.tmod y2 16) 4) (Int.tmod y4 16)))).toNat : Int))) q2) ?_
      refine p_val (r_assign (v := .bool ((bif decide ((0 : Int) ≤ y2) then decide ((0 : Int) ≤ y4) else false))) q1) ?_
      refine wpList_nil ?_
      refine x_norm ?_; refine hK6 _ _ ?_; clear hK6
      refine wp_ret ?_
      obtain rfl := Option.some.inj hF
      refine e_2 rfl (q_tmp (v := .int .u8 ((((i8 (bits .or .i64 (shlI .i64 (Int.tmod y2 16) 4) (Int.tmod y4 16)))).toNat : Int))) rfl) (q_tmp (v := .bool ((bif decide ((0 : Int) ≤ y2) then decide ((0 : Int) ≤ y4) else false))) rfl) ?_
      exact ⟨rfl, H.toExt⟩
    refine p_gs (j := 9) (gvl_at rfl rfl (k1 28)) (fun hb1 => ?_) (fun hb1 => ?_)
    · skip
      refine p_want (gvl_at rfl rfl (k1 28)) hb1 ?_
      refine p_val (r_move (v := .int .i64 (y4)) (k1 7)) ?_
      refine p_want (gvl_at rfl rfl (k1 28)) hb1 ?_
      refine p_val (r_geq (t := decide ((0 : Int) ≤ y4)) rfl rfl rfl) ?_
      refine p_val (r_pickt (v := .bool (decide ((0 : Int) ≤ y4))) (k1 28) hb1 rfl) ?_
      refine hR1 _ _ ?_
      exact J1 _ (by (repeat (refine keep_cons rfl ?_)); exact fun _ _ => rfl) (show (.bool (decide ((0 : Int) ≤ y4)) : Value) = .bool ((bif decide ((0 : Int) ≤ y2) then decide ((0 : Int) ≤ y4) else false)) from congrArg Value.bool (by simp only [hb1, cond_true, cond_false]))
    · skip
      refine p_skip (gvl_at rfl rfl (k1 28)) hb1 ?_
      rw [put_fr]
      refine p_skip (gvl_at rfl rfl (k1 28)) hb1 ?_
      rw [put_fr]
      refine p_val (r_pickf (v := .bool (false)) (k1 28) hb1 rfl) ?_
      refine hR1 _ _ ?_
      exact J1 _ (by (repeat (refine keep_cons rfl ?_)); exact fun _ _ => rfl) (show (.bool (false) : Value) = .bool ((bif decide ((0 : Int) ≤ y2) then decide ((0 : Int) ≤ y4) else false)) from congrArg Value.bool (by simp only [hb1, cond_true, cond_false]))
def codec_FromHex_b0 (s1 : (List UInt8) × (List UInt8)) : Option (((List UInt8) × (List UInt8)) ⊕ (((List UInt8) × Int) ⊕ ((List UInt8)))) :=
  bif (s1.1 != ([] : List UInt8)) then (Option.bind (codec_digits_p s1.1 ([48, 49, 50, 51, 52, 53, 54, 55, 56, 57, 97, 98, 99, 100, 101, 102] : List UInt8)) fun y3 => bif (!y3.2) then (some (.inr (.inl ((([] : List UInt8), 10))))) else (Option.bind (app s1.2 ([y3.1] : List UInt8)) fun y4 => Option.bind (subL s1.1 2) fun y5 => some (.inl ((y5, y4))))) else (some (.inr (.inr (s1.2))))
def codec_FromHex_p (x0 : List UInt8) : Option ((List UInt8) × Int) :=
  Option.bind (mkL 0 (0 : UInt8)) fun y1 => Option.bind (chk (decide (0 ≤ (w64 (Int.tdiv ((x0).length : Int) 2))) && decide ((w64 (Int.tdiv ((x0).length : Int) 2)) ≤ (LIM : Int)))) fun y2 => jn (Option.bind (iter (codec_FromHex_b0) ((x0, y1))) (fun e => jnO e (fun e1 => some (.inr (e1))) (fun e2 => some (.inl (e2))))) (fun t1 => some ((t1, 0))) (fun e => some (e))
theorem codec_FromHex_c {S : Mem} {w : World} (hS : Sub S w) {x0 : List UInt8} {r : (List UInt8) × Int} (hF : codec_FromHex_p x0 = some r) :
    Calls Tryd.prog 11 #[str (x0)] w fun e w' => e = .returned (.tuple #[str (r.1), .int .i64 (r.2)]) ∧ Ext w w' := by
  refine enter (n := 28) Tryd.func11 rfl rfl rfl ?_
  have H := HS.start hS
  unfold codec_FromHex_p at hF
  refine wp_seq_k ?_; intro K1 hK1
  refine wp_region_lit ?_
  refine p_val (r_assign (v := str (([] : List UInt8))) rfl) ?_
  refine p_val (r_assign (v := .int .i64 (0)) rfl) ?_
  refine wpList_nil ?_
  refine x_norm ?_; refine hK1 _ _ ?_; clear hK1
  refine wp_seq_k ?_; intro K2 hK2
  refine wp_region_lit ?_
  refine p_val (r_move (v := str (x0)) rfl) ?_
  refine p_val (r_lenT (N := (x0).length) u9 rfl rfl) ?_
  refine p_val (r_quo (r := w64 (Int.tdiv ((x0).length : Int) 2)) rfl rfl (by decide) rfl) ?_
  obtain ⟨y1, e1, hF⟩ := bnd hF
  obtain ⟨y2, e2, hF⟩ := bnd hF
  refine p_of1 (a_makeX (zx := (0 : UInt8)) tn40 rfl H rfl rfl (rpU8c (x := (0 : UInt8)) rfl) e1 (of_decide_eq_true (and_l (chk_some e2))) (of_decide_eq_true (and_r (chk_some e2)))) ?_; clear H; rintro w1 v1 ⟨cs1, rs1, H, g1⟩
  replace H : HS ⟨S, [], w⟩ S w1 [.osl (v1) (y1).length 1 cs1 rs1 5] := H
  refine p_val (r_assign (v := v1) rfl) ?_
  refine wpList_nil ?_
  refine x_norm ?_; refine hK2 _ _ ?_; clear hK2
  refine wp_seq_k ?_; intro K3 hK3
  refine nameF fun m1 k1 => ?_
  obtain ⟨o1, hE1, hF1⟩ := jn_some hF
  have J1 : ∀ (t1 : (List UInt8)) (v5 : Value) (cs5 rs4 : List Value) (m4 : FM) (w6 : World), o1 = .inl t1 → (∀ t, has [0, 2, 3, 4, 5, 6, 11, 12, 13, 14, 15, 16, 17, 18, 19, 20, 21, 22, 23, 24, 25] t = false → look m4 t = look m1 t) → look m4 4 = v5 → HS ⟨S, [], w⟩ S w6 [.osl (v5) (t1).length 1 cs5 rs4 5] → RL S cs5 t1 → K3 (fr 28 m4) w6 := by
    clear H; intro t1 v5 cs5 rs4 m4 w6 ho k5 q3 H g5
    replace hF1 := jnO_l hF1 ho
    refine hK3 _ _ ?_
    refine wp_seq_k ?_; intro K11 hK11
    refine wp_region_lit ?_
    refine p_val (r_move (v := v5) q3) ?_
    refine p_val (r_strO u40 u5 u9 rfl H (k := 0) rfl g5) ?_
    refine p_val (r_assign (v := str (t1)) rfl) ?_
    refine p_val (r_assign (v := .int .i64 (0)) rfl) ?_
    refine wpList_nil ?_
    refine x_norm ?_; refine hK11 _ _ ?_; clear hK11
    refine wp_ret ?_
    obtain rfl := Option.some.inj hF1
    refine e_2 rfl (q_tmp (v := str (t1)) rfl) (q_tmp (v := .int .i64 (0)) rfl) ?_
    exact ⟨rfl, H.toExt⟩
  refine wp_block ?_
  refine nameF fun m2 k2 => ?_
  obtain ⟨out1, hL1, hE2⟩ := bnd hE1
  replace H : HS ⟨S, [], w⟩ S w1 [.osl (v1) (y1).length 1 cs1 rs1 5] := H
  refine loopI [0, 2, 3, 4, 5, 6, 11, 12, 13, 14, 15, 16, 17, 18, 19, 20, 21, 22, 23, 24, 25] (fun (s1 : (List UInt8) × (List UInt8)) (m3 : FM) (w2 : World) => ∃ (v2 : Value) (cs2 rs2 : List Value), look m3 0 = str (s1.1) ∧ look m3 4 = v2 ∧ HS ⟨S, [], w⟩ S w2 [.osl (v2) (s1.2).length 1 cs2 rs2 5] ∧ RL S cs2 s1.2) hL1 ⟨_, _, _, ((k2 0).trans (k1 0)), (show _ = (v1 : Value) from ((k2 4).trans (k1 4))), H, g1⟩ ?_
  clear H; intro k4 s1 m3 w2 k3 hI1 o2 hb1 hh1; obtain ⟨v2, cs2, rs2, q1, q2, H, g2⟩ := hI1
  unfold codec_FromHex_b0 at hb1
  refine wp_seq_k ?_; intro K4 hK4
  refine wp_seq_k ?_; intro K5 hK5
  refine wp_region_lit ?_
  refine p_val (r_move (v := str (s1.1)) q1) ?_
  refine p_val (r_neT (t := (s1.1 != ([] : List UInt8))) rfl rfl rfl) ?_
  refine wpList_nil ?_
  refine x_norm ?_; refine hK5 _ _ ?_; clear hK5
  refine c_split (t := (s1.1 != ([] : List UInt8))) rfl (fun hc1 => ?_) (fun hc1 => ?_)
  · replace hb1 := cnd_t hb1 hc1
    refine wp_skip ?_
    refine x_norm ?_; refine hK4 _ _ ?_; clear hK4
    refine wp_seq_k ?_; intro K6 hK6
    refine wp_block ?_
    refine wp_seq_k ?_; intro K7 hK7
    refine wp_region_lit ?_
    refine p_val (r_move (v := str (s1.1)) q1) ?_
    obtain ⟨y3, e3, hb1⟩ := bnd hb1
    refine p_call (l := [str (s1.1), str (([48, 49, 50, 51, 52, 53, 54, 55, 56, 57, 97, 98, 99, 100, 101, 102] : List UInt8))]) is31 rfl ?_
    refine (codec_digits_c H.sub e3).mono ?_; rintro _ w3 ⟨rfl, hx⟩; replace H := H.ext hx; clear hx
    refine p_val (r_move (v := .tuple #[.int .u8 (((y3.1).toNat : Int)), .bool (y3.2)]) rfl) ?_
    refine p_val (r_extract (v := .int .u8 (((y3.1).toNat : Int))) rfl rfl) ?_
    refine p_val (r_extract (v := .bool (y3.2)) rfl rfl) ?_
    refine p_val (r_assign (v := .int .u8 (((y3.1).toNat : Int))) rfl) ?_
    refine p_val (r_assign (v := .bool (y3.2)) rfl) ?_
    refine wpList_nil ?_
    refine x_norm ?_; refine hK7 _ _ ?_; clear hK7
    refine wp_seq_k ?_; intro K8 hK8
    refine wp_seq_k ?_; intro K9 hK9
    refine wp_region_lit ?_
    refine p_val (r_move (v := .bool (y3.2)) rfl) ?_
    refine p_val (r_not (t := (!y3.2)) rfl rfl) ?_
    refine wpList_nil ?_
    refine x_norm ?_; refine hK9 _ _ ?_; clear hK9
    refine c_split (t := (!y3.2)) rfl (fun hc2 => ?_) (fun hc2 => ?_)
    · replace hb1 := cnd_t hb1 hc2
      refine wp_seq_k ?_; intro K10 hK10
      refine wp_region_lit ?_
      refine p_val (r_assign (v := str (([] : List UInt8))) rfl) ?_
      refine p_val (r_assign (v := .int .i64 (10)) rfl) ?_
      refine wpList_nil ?_
      refine x_norm ?_; refine hK10 _ _ ?_; clear hK10
      refine wp_ret ?_
      refine x_ret ?_
      refine b_ret ?_
      refine x_ret ?_
      refine x_ret ?_
      refine b_ret ?_
      refine x_ret ?_
      obtain rfl := Option.some.inj hb1
      obtain rfl := Option.some.inj hh1
      obtain rfl := Option.some.inj hE2
      obtain rfl := Option.some.inj hF1
      refine e_2 rfl (q_tmp (v := str (([] : List UInt8))) rfl) (q_tmp (v := .int .i64 (10)) rfl) ?_
      exact ⟨rfl, H.toExt⟩
    · replace hb1 := cnd_f hb1 hc2
      refine wp_skip ?_
      refine x_norm ?_; refine hK8 _ _ ?_; clear hK8
      refine wp_region_lit ?_
      refine p_val (r_move (v := v2) q2) ?_
      refine p_val (r_move (v := .int .u8 (((y3.1).toNat : Int))) rfl) ?_
      have g3 : RL S ([Value.int .u8 (((y3.1).toNat : Int))] ++ ([] : List Value)) ([y3.1] : List UInt8) := (RL.cons rpU8 RL.nil)
      refine p_of1 (a_bslice (N := 1) (vals := [(0, .int .u8 (((y3.1).toNat : Int)))]) (l := ([Value.int .u8 (((y3.1).toNat : Int))] ++ ([] : List Value))) tn40 H rfl rfl rfl g3.len) ?_; clear H; intro w4 v3 H
      generalize ([Value.int .u8 (((y3.1).toNat : Int))] ++ ([] : List Value)) = cs3 at H g3
      replace H : HS ⟨S, [], w⟩ S w4 [.osl (v3) (([y3.1] : List UInt8)).length 1 cs3 [] 5, .osl (v2) (s1.2).length 1 cs2 rs2 5] := H
      obtain ⟨y4, e4, hb1⟩ := bnd hb1
      refine p_of1 (a_appendX (k := 1) (v2 := v3) tn40 rfl H rfl rfl g2 rfl (H.slW (k := 0) rfl) g3 e4) ?_; clear H; rintro w5 v4 ⟨cs4, rs3, H, g4⟩
      replace H : HS ⟨S, [], w⟩ S w5 [.osl (v3) (([y3.1] : List UInt8)).length 1 cs3 [] 5, .osl (v4) (y4).length 1 cs4 rs3 5] := H
      replace H := H.sel [1] rfl
      replace H : HS ⟨S, [], w⟩ S w5 [.osl (v4) (y4).length 1 cs4 rs3 5] := H
      refine p_val (r_assign (v := v4) rfl) ?_
      refine wpList_nil ?_
      refine b_norm ?_
      refine x_norm ?_; refine hK6 _ _ ?_; clear hK6
      refine wp_region_lit ?_
      refine p_val (r_move (v := str (s1.1)) q1) ?_
      obtain ⟨y5, e5, hb1⟩ := bnd hb1
      refine p_val (r_sliceTL (p := (2 : Int).toNat) (r := y5) u9 rfl rfl (subL_some e5).1 (subL_some e5).2.1 (subL_some e5).2.2) ?_
      refine p_val (r_assign (v := str (y5)) rfl) ?_
      refine wpList_nil ?_
      refine x_norm ?_
      replace H : HS ⟨S, [], w⟩ S w5 [.osl (v4) (y4).length 1 cs4 rs3 5] := H
      obtain rfl := Option.some.inj hb1
      exact ⟨(y5, y4), _, rfl, (by (repeat (refine keep_cons rfl ?_)); refine keep_sub k3 rfl ?_; (repeat (refine keep_cons rfl ?_)); exact fun _ _ => rfl), ⟨_, _, _, rfl, rfl, H, g4⟩, hh1⟩
  · replace hb1 := cnd_f hb1 hc1
    refine wp_exit ?_
    refine x_exit ?_
    refine x_exit ?_
    refine b_hit ?_
    refine x_norm ?_
    replace H : HS ⟨S, [], w⟩ S w2 [.osl (v2) (s1.2).length 1 cs2 rs2 5] := H
    obtain rfl := Option.some.inj hb1
    obtain rfl := Option.some.inj hh1
    obtain rfl := Option.some.inj hE2
    exact J1 _ _ _ _ _ _ rfl (by (repeat (refine keep_cons rfl ?_)); refine keep_sub k3 rfl ?_; (repeat (refine keep_cons rfl ?_)); refine keep_name k2 ?_; (repeat (refine keep_cons rfl ?_)); exact fun _ _ => rfl) (show _ = (v2 : Value) from q2) H g2
def codec_FromBase64_b0 (x0 : List UInt8) (s1 : (List UInt8) × Int × Int × Int) : Option (((List UInt8) × Int × Int × Int) ⊕ (((List UInt8) × Int) ⊕ ((List UInt8) × Int × Int))) :=
  bif decide (s1.2.2.2 < ((x0).length : Int)) then (jn (Option.bind (idx x0 s1.2.2.2) fun y1 => Option.bind (codec_index_p ([65, 66, 67, 68, 69, 70, 71, 72, 73, 74, 75, 76, 77, 78, 79, 80, 81, 82, 83, 84, 85, 86, 87, 88, 89, 90, 97, 98, 99, 100, 101, 102, 103, 104, 105, 106, 107, 108, 109, 110, 111, 112, 113, 114, 115, 116, 117, 118, 119, 120, 121, 122, 48, 49, 50, 51, 52, 53, 54, 55, 56, 57, 45, 95] : List UInt8) y1) fun y2 => bif decide (y2 < 0) then (some (.inr ((([] : List UInt8), 11)))) else (bif decide ((8 : Int) ≤ (w64 (s1.2.2.1 + 6))) then (Option.bind (chk (decide (0 ≤ (w64 ((w64 (s1.2.2.1 + 6)) - 8))))) fun y3 => Option.bind (app s1.1 ([(i8 (shrI .i64 (bits .or .i64 (shlI .i64 s1.2.1 6) y2) (w64 ((w64 (s1.2.2.1 + 6)) - 8))))] : List UInt8)) fun y4 => Option.bind (chk (decide (0 ≤ (w64 ((w64 (s1.2.2.1 + 6)) - 8))))) fun y5 => some (.inl (((bits .and .i64 (bits .or .i64 (shlI .i64 s1.2.1 6) y2) (w64 ((shlI .i64 1 (w64 ((w64 (s1.2.2.1 + 6)) - 8))) - 1))), (w64 ((w64 (s1.2.2.1 + 6)) - 8)), y4)))) else (some (.inl (((bits .or .i64 (shlI .i64 s1.2.1 6) y2), (w64 (s1.2.2.1 + 6)), s1.1)))))) (fun t2 => some (.inl ((t2.2.2, t2.1, t2.2.1, (w64 (s1.2.2.2 + 1)))))) (fun e => some (.inr (.inl (e))))) else (some (.inr (.inr ((s1.1, s1.2.1, s1.2.2.1)))))
def codec_FromBase64_p (x0 : List UInt8) : Option ((List UInt8) × Int) :=
  jn (Option.bind (iter (codec_FromBase64_b0 x0) ((([] : List UInt8), 0, 0, 0))) (fun e => jnO e (fun e1 => some (.inr (e1))) (fun e2 => some (.inl (e2))))) (fun t1 => bif (bif decide ((6 : Int) ≤ t1.2.2) then true else (t1.2.1 != 0)) then (some ((([] : List UInt8), 11))) else (some ((t1.1, 0)))) (fun e => some (e))
theorem codec_FromBase64_c {S : Mem} {w : World} (hS : Sub S w) {x0 : List UInt8} {r : (List UInt8) × Int} (hF : codec_FromBase64_p x0 = some r) :
    Calls Tryd.prog 16 #[str (x0)] w fun e w' => e = .returned (.tuple #[str (r.1), .int .i64 (r.2)]) ∧ Ext w w' := by
  refine enter (n := 52) Tryd.func16 rfl rfl rfl ?_
  have H := HS.start hS
  unfold codec_FromBase64_p at hF
  refine wp_seq_k ?_; intro K1 hK1
  refine wp_region_lit ?_
  refine p_val (r_assign (v := str (([] : List UInt8))) rfl) ?_
  refine p_val (r_assign (v := .int .i64 (0)) rfl) ?_
  refine wpList_nil ?_
  refine x_norm ?_; refine hK1 _ _ ?_; clear hK1
  refine wp_seq_k ?_; intro K2 hK2
  refine wp_region_lit ?_
  refine p_val (r_assign (v := .slice none 0 0) rfl) ?_
  refine wpList_nil ?_
  refine x_norm ?_; refine hK2 _ _ ?_; clear hK2
  refine wp_seq_k ?_; intro K3 hK3
  refine wp_region_lit ?_
  refine p_val (r_assign (v := .int .i64 (0)) rfl) ?_
  refine p_val (r_assign (v := .int .i64 (0)) rfl) ?_
  refine wpList_nil ?_
  refine x_norm ?_; refine hK3 _ _ ?_; clear hK3
  refine wp_seq_k ?_; intro K4 hK4
  refine nameF fun m1 k1 => ?_
  obtain ⟨o1, hE1, hF1⟩ := jn_some hF
  have J3 : ∀ (t1 : (List UInt8) × Int × Int) (v6 : Value) (cs6 rs5 : List Value) (m6 : FM) (w7 : World), o1 = .inl t1 → (∀ t, has [2, 3, 4, 5, 6, 8, 9, 10, 11, 12, 13, 14, 15, 16, 17, 18, 19, 20, 21, 22, 23, 24, 25, 26, 27, 28, 29, 30, 31, 32, 33, 34, 35, 36, 37, 38, 39, 40, 41, 42, 43] t = false → look m6 t = look m1 t) → look m6 4 = v6 → look m6 5 = .int .i64 (t1.2.1) → look m6 6 = .int .i64 (t1.2.2) → HS ⟨S, [], w⟩ S w7 [.osl (v6) (t1.1).length 1 cs6 rs5 5] → RL S cs6 t1.1 → K4 (fr 52 m6) w7 := by
    clear H; intro t1 v6 cs6 rs5 m6 w7 ho k7 q13 q14 q15 H g7
    replace hF1 := jnO_l hF1 ho
    refine hK4 _ _ ?_
    refine wp_seq_k ?_; intro K18 hK18
    refine wp_seq_k ?_; intro K19 hK19
    refine wp_region_lit ?_
    refine p_val (r_move (v := .int .i64 (t1.2.2)) q15) ?_
    refine p_val (r_geq (t := decide ((6 : Int) ≤ t1.2.2)) rfl rfl rfl) ?_
    refine p_val (r_move (v := .bool (decide ((6 : Int) ≤ t1.2.2))) rfl) ?_
    refine nameL fun m7 k8 => ?_
    refine gs_at 3 fun K20 hK20 R6 hR6 => ?_
    have J2 : ∀ (m8 : FM), (∀ t, has [47, 48, 49] t = false → look m8 t = look m7 t) → look m8 49 = .bool ((bif decide ((6 : Int) ≤ t1.2.2) then true else (t1.2.1 != 0))) → K20 m8 w7 := by
      intro m8 k9 q16
      have q17 : look m8 4 = v6 := (k9 4 rfl).trans ((k8 4).trans q13)
      refine hK20 _ _ ?_; clear hK20 hR6
      refine wpList_nil ?_
      refine x_norm ?_; refine hK19 _ _ ?_; clear hK19
      refine c_split (t := (bif decide ((6 : Int) ≤ t1.2.2) then true else (t1.2.1 != 0))) q16 (fun hc4 => ?_) (fun hc4 => ?_)
      · replace hF1 := cnd_t hF1 hc4
        refine wp_seq_k ?_; intro K21 hK21
        refine wp_region_lit ?_
        refine p_val (r_assign (v := str (([] : List UInt8))) rfl) ?_
        refine p_val (r_assign (v := .int .i64 (11)) rfl) ?_
        refine wpList_nil ?_
        refine x_norm ?_; refine hK21 _ _ ?_; clear hK21
        refine wp_ret ?_
        refine x_ret ?_
        obtain rfl := Option.some.inj hF1
        refine e_2 rfl (q_tmp (v := str (([] : List UInt8))) rfl) (q_tmp (v := .int .i64 (11)) rfl) ?_
        exact ⟨rfl, H.toExt⟩
      · replace hF1 := cnd_f hF1 hc4
        refine wp_skip ?_
        refine x_norm ?_; refine hK18 _ _ ?_; clear hK18
        refine wp_seq_k ?_; intro K22 hK22
        refine wp_region_lit ?_
        refine p_val (r_move (v := v6) q17) ?_
        refine p_val (r_strO u40 u5 u9 rfl H (k := 0) rfl g7) ?_
        refine p_val (r_assign (v := str (t1.1)) rfl) ?_
        refine p_val (r_assign (v := .int .i64 (0)) rfl) ?_
        refine wpList_nil ?_
        refine x_norm ?_; refine hK22 _ _ ?_; clear hK22
        refine wp_ret ?_
        obtain rfl := Option.some.inj hF1
        refine e_2 rfl (q_tmp (v := str (t1.1)) rfl) (q_tmp (v := .int .i64 (0)) rfl) ?_
        exact ⟨rfl, H.toExt⟩
    refine p_gs (j := 2) (gvl_at rfl rfl (k8 46)) (fun hb2 => ?_) (fun hb2 => ?_)
    · skip
      refine p_skip (gvl_at rfl rfl (k8 46)) hb2 ?_
      rw [put_fr]
      refine p_skip (gvl_at rfl rfl (k8 46)) hb2 ?_
      rw [put_fr]
      refine p_val (r_pickt (v := .bool (true)) (k8 46) hb2 rfl) ?_
      refine hR6 _ _ ?_
      exact J2 _ (by (repeat (refine keep_cons rfl ?_)); exact fun _ _ => rfl) (show (.bool (true) : Value) = .bool ((bif decide ((6 : Int) ≤ t1.2.2) then true else (t1.2.1 != 0))) from congrArg Value.bool (by simp only [hb2, cond_true, cond_false]))
    · skip
      refine p_want (gvl_at rfl rfl (k8 46)) hb2 ?_
      refine p_val (r_move (v := .int .i64 (t1.2.1)) ((k8 5).trans q14)) ?_
      refine p_want (gvl_at rfl rfl (k8 46)) hb2 ?_
      refine p_val (r_neq (t := (t1.2.1 != 0)) rfl rfl rfl) ?_
      refine p_val (r_pickf (v := .bool ((t1.2.1 != 0))) (k8 46) hb2 rfl) ?_
      refine hR6 _ _ ?_
      exact J2 _ (by (repeat (refine keep_cons rfl ?_)); exact fun _ _ => rfl) (show (.bool ((t1.2.1 != 0)) : Value) = .bool ((bif decide ((6 : Int) ≤ t1.2.2) then true else (t1.2.1 != 0))) from congrArg Value.bool (by simp only [hb2, cond_true, cond_false]))
  refine wp_seq_k ?_; intro K5 hK5
  refine wp_region_lit ?_
  refine p_val (r_move (v := str (x0)) (k1 0)) ?_
  refine p_of1 (a_bytes (l := x0) u9 u40 u5 H rfl) ?_; clear H; rintro w1 v1 ⟨rs1, H⟩
  have g1 : RL S (u8s x0) x0 := RL.of_u8s _
  replace H : HS ⟨S, [], w⟩ S w1 [.osl (v1) (x0).length 1 (u8s x0) rs1 5] := H
  refine p_val (r_lenO u40 rfl H (k := 0) rfl rfl) ?_
  refine p_val (r_move (v := .int .i64 (0)) rfl) ?_
  refine wpList_nil ?_
  refine x_norm ?_; refine hK5 _ _ ?_; clear hK5
  refine wp_block ?_
  refine nameF fun m2 k2 => ?_
  obtain ⟨out1, hL1, hE2⟩ := bnd hE1
  replace H := H.nilOwn 1 5; have g3 : RL S [] ([] : List UInt8) := RL.nil
  replace H : HS ⟨S, [], w⟩ S w1 [.osl (.slice none 0 0) (([] : List UInt8)).length 1 [] [] 5, .osl (v1) (x0).length 1 (u8s x0) rs1 5] := H
  refine loopI [2, 3, 4, 5, 6, 8, 9, 13, 14, 15, 16, 17, 18, 19, 20, 21, 22, 23, 24, 25, 26, 27, 28, 29, 30, 31, 32, 33, 34, 35, 36, 37, 38, 39, 40, 41, 42, 43] (fun (s1 : (List UInt8) × Int × Int × Int) (m3 : FM) (w2 : World) => ∃ (v2 : Value) (cs1 rs2 : List Value), look m3 4 = v2 ∧ look m3 5 = .int .i64 (s1.2.1) ∧ look m3 6 = .int .i64 (s1.2.2.1) ∧ look m3 13 = .int .i64 (s1.2.2.2) ∧ HS ⟨S, [], w⟩ S w2 [.osl (v2) (s1.1).length 1 cs1 rs2 5, .osl (v1) (x0).length 1 (u8s x0) rs1 5] ∧ RL S cs1 s1.1) hL1 ⟨_, _, _, (show _ = (.slice none 0 0 : Value) from ((k2 4).trans (k1 4))), ((k2 5).trans (k1 5)), ((k2 6).trans (k1 6)), (k2 13), H, g3⟩ ?_
  clear H; intro k4 s1 m3 w2 k3 hI1 o2 hb1 hh1; obtain ⟨v2, cs1, rs2, q1, q2, q3, q4, H, g2⟩ := hI1
  have q5 : look m3 11 = v1 := (k3 11 rfl).trans (k2 11)
  have q6 : look m3 12 = .int .i64 (((x0).length : Int)) := (k3 12 rfl).trans (k2 12)
  unfold codec_FromBase64_b0 at hb1
  refine wp_seq_k ?_; intro K6 hK6
  refine wp_region_lit ?_
  refine p_val (r_lss (t := decide (s1.2.2.2 < ((x0).length : Int))) q4 q6 rfl) ?_
  refine wpList_nil ?_
  refine x_norm ?_; refine hK6 _ _ ?_; clear hK6
  refine wp_seq_k ?_; intro K7 hK7
  refine c_split (t := decide (s1.2.2.2 < ((x0).length : Int))) rfl (fun hc1 => ?_) (fun hc1 => ?_)
  · replace hb1 := cnd_t hb1 hc1
    refine wp_skip ?_
    refine x_norm ?_; refine hK7 _ _ ?_; clear hK7
    refine wp_seq_k ?_; intro K8 hK8
    refine nameF fun m4 k5 => ?_
    obtain ⟨o3, hE3, hF2⟩ := jn_some hb1
    have J1 : ∀ (t2 : Int × Int × (List UInt8)) (v5 : Value) (cs5 rs4 : List Value) (m5 : FM) (w6 : World), o3 = .inl t2 → (∀ t, has [2, 3, 4, 5, 6, 8, 9, 15, 16, 17, 18, 19, 20, 21, 22, 23, 24, 25, 26, 27, 28, 29, 30, 31, 32, 33, 34, 35, 36, 37, 38, 39, 40, 41, 42] t = false → look m5 t = look m4 t) → look m5 4 = v5 → look m5 5 = .int .i64 (t2.1) → look m5 6 = .int .i64 (t2.2.1) → HS ⟨S, [], w⟩ S w6 [.osl (v5) (t2.2.2).length 1 cs5 rs4 5, .osl (v1) (x0).length 1 (u8s x0) rs1 5] → RL S cs5 t2.2.2 → K8 (fr 52 m5) w6 := by
      clear H; intro t2 v5 cs5 rs4 m5 w6 ho k6 q7 q8 q9 H g6
      replace hF2 := jnO_l hF2 ho
      have q10 : look m5 11 = v1 := (k6 11 rfl).trans ((k5 11).trans q5)
      have q11 : look m5 12 = .int .i64 (((x0).length : Int)) := (k6 12 rfl).trans ((k5 12).trans q6)
      have q12 : look m5 13 = .int .i64 (s1.2.2.2) := (k6 13 rfl).trans ((k5 13).trans q4)
      refine hK8 _ _ ?_
      refine wp_region_lit ?_
      refine p_val (r_add (r := w64 (s1.2.2.2 + 1)) q12 rfl rfl) ?_
      refine p_val (r_move (v := .int .i64 ((w64 (s1.2.2.2 + 1)))) rfl) ?_
      refine wpList_nil ?_
      refine x_norm ?_
      replace H : HS ⟨S, [], w⟩ S w6 [.osl (v5) (t2.2.2).length 1 cs5 rs4 5, .osl (v1) (x0).length 1 (u8s x0) rs1 5] := H
      obtain rfl := Option.some.inj hF2
      exact ⟨(t2.2.2, t2.1, t2.2.1, (w64 (s1.2.2.2 + 1))), _, rfl, (by (repeat (refine keep_cons rfl ?_)); refine keep_sub k6 rfl ?_; (repeat (refine keep_cons rfl ?_)); refine keep_name k5 ?_; (repeat (refine keep_cons rfl ?_)); refine keep_sub k3 rfl ?_; (repeat (refine keep_cons rfl ?_)); exact fun _ _ => rfl), ⟨_, _, _, (show _ = (v5 : Value) from q7), q8, q9, rfl, H, g6⟩, hh1⟩
    refine wp_block ?_
    refine wp_seq_k ?_; intro K9 hK9
    refine wp_region_lit ?_
    obtain ⟨y1, e1, hE3⟩ := bnd hE3
    obtain ⟨b1, c1, hv1⟩ := H.ownAt (k := 1) rfl (idx_lt e1)
    refine p_val (r_addrV (i := (s1.2.2.2 : Int).toNat) u40 tsz5 ((k5 11).trans q5) hv1 ((k5 13).trans q4) (idx_some e1).1 (idx_lt e1)) ?_
    subst hv1
    have hr1 := RL.get g1 (idx_some e1).2; generalize hghr1 : piece (u8s x0) _ _ = cs2 at hr1
    obtain rfl := elU8 hr1
    refine p_val (o_load1 (v := .int .u8 (((y1).toNat : Int))) to5 H (k := 1) rfl rfl (idx_lt e1) hghr1) ?_
    refine p_val (r_assign (v := .int .u8 (((y1).toNat : Int))) rfl) ?_
    refine wpList_nil ?_
    refine x_norm ?_; refine hK9 _ _ ?_; clear hK9
    refine wp_seq_k ?_; intro K10 hK10
    refine wp_region_lit ?_
    refine p_val (r_move (v := .int .u8 (((y1).toNat : Int))) rfl) ?_
    obtain ⟨y2, e2, hE3⟩ := bnd hE3
    refine p_call (l := [str (([65, 66, 67, 68, 69, 70, 71, 72, 73, 74, 75, 76, 77, 78, 79, 80, 81, 82, 83, 84, 85, 86, 87, 88, 89, 90, 97, 98, 99, 100, 101, 102, 103, 104, 105, 106, 107, 108, 109, 110, 111, 112, 113, 114, 115, 116, 117, 118, 119, 120, 121, 122, 48, 49, 50, 51, 52, 53, 54, 55, 56, 57, 45, 95] : List UInt8)), .int .u8 (((y1).toNat : Int))]) is35 rfl ?_
    refine (codec_index_c H.sub e2).mono ?_; rintro _ w3 ⟨rfl, hx⟩; replace H := H.ext hx; clear hx
    refine p_val (r_assign (v := .int .i64 (y2)) rfl) ?_
    refine wpList_nil ?_
    refine x_norm ?_; refine hK10 _ _ ?_; clear hK10
    refine wp_seq_k ?_; intro K11 hK11
    refine wp_seq_k ?_; intro K12 hK12
    refine wp_region_lit ?_
    refine p_val (r_move (v := .int .i64 (y2)) rfl) ?_
    refine p_val (r_lss (t := decide (y2 < 0)) rfl rfl rfl) ?_
    refine wpList_nil ?_
    refine x_norm ?_; refine hK12 _ _ ?_; clear hK12
    refine c_split (t := decide (y2 < 0)) rfl (fun hc2 => ?_) (fun hc2 => ?_)
    · replace hE3 := cnd_t hE3 hc2
      refine wp_seq_k ?_; intro K13 hK13
      refine wp_region_lit ?_
      refine p_val (r_assign (v := str (([] : List UInt8))) rfl) ?_
      refine p_val (r_assign (v := .int .i64 (11)) rfl) ?_
      refine wpList_nil ?_
      refine x_norm ?_; refine hK13 _ _ ?_; clear hK13
      refine wp_ret ?_
      refine x_ret ?_
      refine b_ret ?_
      refine x_ret ?_
      refine x_ret ?_
      refine b_ret ?_
      refine x_ret ?_
      obtain rfl := Option.some.inj hE3
      obtain rfl := Option.some.inj hF2
      obtain rfl := Option.some.inj hh1
      obtain rfl := Option.some.inj hE2
      obtain rfl := Option.some.inj hF1
      refine e_2 rfl (q_tmp (v := str (([] : List UInt8))) rfl) (q_tmp (v := .int .i64 (11)) rfl) ?_
      exact ⟨rfl, H.toExt⟩
    · replace hE3 := cnd_f hE3 hc2
      refine wp_skip ?_
      refine x_norm ?_; refine hK11 _ _ ?_; clear hK11
      refine wp_seq_k ?_; intro K14 hK14
      refine wp_region_lit ?_
      refine p_val (r_move (v := .int .i64 (s1.2.1)) ((k5 5).trans q2)) ?_
      refine p_val (r_shl (r := shlI .i64 s1.2.1 6) rfl rfl (by decide) rfl) ?_
      refine p_val (r_move (v := .int .i64 (y2)) rfl) ?_
      refine p_val (r_bits (bo := .or) (by simp) (r := (bits .or .i64 (shlI .i64 s1.2.1 6) y2)) rfl rfl rfl) ?_
      refine p_val (r_move (v := .int .i64 (s1.2.2.1)) ((k5 6).trans q3)) ?_
      refine p_val (r_add (r := w64 (s1.2.2.1 + 6)) rfl rfl rfl) ?_
      refine p_val (r_assign (v := .int .i64 ((bits .or .i64 (shlI .i64 s1.2.1 6) y2))) rfl) ?_
      refine p_val (r_assign (v := .int .i64 ((w64 (s1.2.2.1 + 6)))) rfl) ?_
      refine wpList_nil ?_
      refine x_norm ?_; refine hK14 _ _ ?_; clear hK14
      refine wp_seq_k ?_; intro K15 hK15
      refine wp_region_lit ?_
      refine p_val (r_move (v := .int .i64 ((w64 (s1.2.2.1 + 6)))) rfl) ?_
      refine p_val (r_geq (t := decide ((8 : Int) ≤ (w64 (s1.2.2.1 + 6)))) rfl rfl rfl) ?_
      refine wpList_nil ?_
      refine x_norm ?_; refine hK15 _ _ ?_; clear hK15
      refine c_split (t := decide ((8 : Int) ≤ (w64 (s1.2.2.1 + 6)))) rfl (fun hc3 => ?_) (fun hc3 => ?_)
      · replace hE3 := cnd_t hE3 hc3
        refine wp_seq_k ?_; intro K16 hK16
        refine wp_region_lit ?_
        refine p_val (r_move (v := .int .i64 ((w64 (s1.2.2.1 + 6)))) rfl) ?_
        refine p_val (r_sub (r := w64 ((w64 (s1.2.2.1 + 6)) - 8)) rfl rfl rfl) ?_
        refine p_val (r_assign (v := .int .i64 ((w64 ((w64 (s1.2.2.1 + 6)) - 8)))) rfl) ?_
        refine wpList_nil ?_
        refine x_norm ?_; refine hK16 _ _ ?_; clear hK16
        refine wp_seq_k ?_; intro K17 hK17
        refine wp_region_lit ?_
        refine p_val (r_move (v := v2) ((k5 4).trans q1)) ?_
        refine p_val (r_move (v := .int .i64 ((bits .or .i64 (shlI .i64 s1.2.1 6) y2))) rfl) ?_
        refine p_val (r_move (v := .int .i64 ((w64 ((w64 (s1.2.2.1 + 6)) - 8)))) rfl) ?_
        obtain ⟨y3, e3, hE3⟩ := bnd hE3
        refine p_val (r_shr (r := shrI .i64 (bits .or .i64 (shlI .i64 s1.2.1 6) y2) (w64 ((w64 (s1.2.2.1 + 6)) - 8))) rfl rfl (Int.not_lt.2 (of_decide_eq_true (chk_some e3))) rfl) ?_
        refine p_val (r_conv (r := (((i8 (shrI .i64 (bits .or .i64 (shlI .i64 s1.2.1 6) y2) (w64 ((w64 (s1.2.2.1 + 6)) - 8))))).toNat : Int)) u3 u5 rfl (i8_wrap _)) ?_
        have g4 : RL S ([Value.int .u8 ((((i8 (shrI .i64 (bits .or .i64 (shlI .i64 s1.2.1 6) y2) (w64 ((w64 (s1.2.2.1 + 6)) - 8))))).toNat : Int))] ++ ([] : List Value)) ([(i8 (shrI .i64 (bits .or .i64 (shlI .i64 s1.2.1 6) y2) (w64 ((w64 (s1.2.2.1 + 6)) - 8))))] : List UInt8) := (RL.cons rpU8 RL.nil)
        refine p_of1 (a_bslice (N := 1) (vals := [(0, .int .u8 ((((i8 (shrI .i64 (bits .or .i64 (shlI .i64 s1.2.1 6) y2) (w64 ((w64 (s1.2.2.1 + 6)) - 8))))).toNat : Int)))]) (l := ([Value.int .u8 ((((i8 (shrI .i64 (bits .or .i64 (shlI .i64 s1.2.1 6) y2) (w64 ((w64 (s1.2.2.1 + 6)) - 8))))).toNat : Int))] ++ ([] : List Value))) tn40 H rfl rfl rfl g4.len) ?_; clear H; intro w4 v3 H
        generalize ([Value.int .u8 ((((i8 (shrI .i64 (bits .or .i64 (shlI .i64 s1.2.1 6) y2) (w64 ((w64 (s1.2.2.1 + 6)) - 8))))).toNat : Int))] ++ ([] : List Value)) = cs3 at H g4
        replace H : HS ⟨S, [], w⟩ S w4 [.osl (v3) (([(i8 (shrI .i64 (bits .or .i64 (shlI .i64 s1.2.1 6) y2) (w64 ((w64 (s1.2.2.1 + 6)) - 8))))] : List UInt8)).length 1 cs3 [] 5, .osl (v2) (s1.1).length 1 cs1 rs2 5, .osl (sl b1 0 (x0).length c1) (x0).length 1 (u8s x0) rs1 5] := H
        obtain ⟨y4, e4, hE3⟩ := bnd hE3
        refine p_of1 (a_appendX (k := 1) (v2 := v3) tn40 rfl H rfl rfl g2 rfl (H.slW (k := 0) rfl) g4 e4) ?_; clear H; rintro w5 v4 ⟨cs4, rs3, H, g5⟩
        replace H : HS ⟨S, [], w⟩ S w5 [.osl (v3) (([(i8 (shrI .i64 (bits .or .i64 (shlI .i64 s1.2.1 6) y2) (w64 ((w64 (s1.2.2.1 + 6)) - 8))))] : List UInt8)).length 1 cs3 [] 5, .osl (v4) (y4).length 1 cs4 rs3 5, .osl (sl b1 0 (x0).length c1) (x0).length 1 (u8s x0) rs1 5] := H
        replace H := H.sel [1, 2] rfl
        replace H : HS ⟨S, [], w⟩ S w5 [.osl (v4) (y4).length 1 cs4 rs3 5, .osl (sl b1 0 (x0).length c1) (x0).length 1 (u8s x0) rs1 5] := H
        refine p_val (r_assign (v := v4) rfl) ?_
        refine wpList_nil ?_
        refine x_norm ?_; refine hK17 _ _ ?_; clear hK17
        refine wp_region_lit ?_
        refine p_val (r_move (v := .int .i64 ((bits .or .i64 (shlI .i64 s1.2.1 6) y2))) rfl) ?_
        refine p_val (r_move (v := .int .i64 ((w64 ((w64 (s1.2.2.1 + 6)) - 8)))) rfl) ?_
        obtain ⟨y5, e5, hE3⟩ := bnd hE3
        refine p_val (r_shl (r := shlI .i64 1 (w64 ((w64 (s1.2.2.1 + 6)) - 8))) rfl rfl (Int.not_lt.2 (of_decide_eq_true (chk_some e5))) rfl) ?_
        refine p_val (r_sub (r := w64 ((shlI .i64 1 (w64 ((w64 (s1.2.2.1 + 6)) - 8))) - 1)) rfl rfl rfl) ?_
        refine p_val (r_bits (bo := .and) (by simp) (r := (bits .and .i64 (bits .or .i64 (shlI .i64 s1.2.1 6) y2) (w64 ((shlI .i64 1 (w64 ((w64 (s1.2.2.1 + 6)) - 8))) - 1)))) rfl rfl rfl) ?_
        refine p_val (r_assign (v := .int .i64 ((bits .and .i64 (bits .or .i64 (shlI .i64 s1.2.1 6) y2) (w64 ((shlI .i64 1 (w64 ((w64 (s1.2.2.1 + 6)) - 8))) - 1))))) rfl) ?_
        refine wpList_nil ?_
        refine b_norm ?_
        refine x_norm ?_
        replace H : HS ⟨S, [], w⟩ S w5 [.osl (v4) (y4).length 1 cs4 rs3 5, .osl (sl b1 0 (x0).length c1) (x0).length 1 (u8s x0) rs1 5] := H
        obtain rfl := Option.some.inj hE3
        exact J1 _ _ _ _ _ _ rfl (by (repeat (refine keep_cons rfl ?_)); exact fun _ _ => rfl) rfl rfl rfl H g5
      · replace hE3 := cnd_f hE3 hc3
        refine wp_skip ?_
        refine b_norm ?_
        refine x_norm ?_
        replace H : HS ⟨S, [], w⟩ S w3 [.osl (v2) (s1.1).length 1 cs1 rs2 5, .osl (sl b1 0 (x0).length c1) (x0).length 1 (u8s x0) rs1 5] := H
        obtain rfl := Option.some.inj hE3
        exact J1 _ _ _ _ _ _ rfl (by (repeat (refine keep_cons rfl ?_)); exact fun _ _ => rfl) (show _ = (v2 : Value) from ((k5 4).trans q1)) rfl rfl H g2
  · replace hb1 := cnd_f hb1 hc1
    refine wp_exit ?_
    refine x_exit ?_
    refine x_exit ?_
    refine b_hit ?_
    refine x_norm ?_
    replace H := H.sel [0] rfl
    replace H : HS ⟨S, [], w⟩ S w2 [.osl (v2) (s1.1).length 1 cs1 rs2 5] := H
    obtain rfl := Option.some.inj hb1
    obtain rfl := Option.some.inj hh1
    obtain rfl := Option.some.inj hE2
    exact J3 _ _ _ _ _ _ rfl (by (repeat (refine keep_cons rfl ?_)); refine keep_sub k3 rfl ?_; (repeat (refine keep_cons rfl ?_)); refine keep_name k2 ?_; (repeat (refine keep_cons rfl ?_)); exact fun _ _ => rfl) (show _ = (v2 : Value) from q1) q2 q3 H g2
def codec_Get_b0 (x0 : List ((List UInt8) × (List UInt8))) (x1 : List UInt8) (s1 : (List UInt8) × Int × Int) : Option (((List UInt8) × Int × Int) ⊕ ((List UInt8) × Int)) :=
  bif decide ((0 : Int) ≤ s1.2.2) then (Option.bind (Option.bind (idx x0 s1.2.2) fun y1 => bif (y1.1 == x1) then (Option.bind (idx x0 s1.2.2) fun y2 => some ((y2.2, (w64 (s1.2.1 + 1))))) else (some ((s1.1, s1.2.1)))) (fun t2 => some (.inl ((t2.1, t2.2, (w64 (s1.2.2 - 1))))))) else (some (.inr ((s1.1, s1.2.1))))
def codec_Get_p (x0 : List ((List UInt8) × (List UInt8))) (x1 : List UInt8) : Option ((List UInt8) × Int) :=
  Option.bind (Option.bind (iter (codec_Get_b0 x0 x1) ((([] : List UInt8), 0, (w64 (((x0).length : Int) - 1))))) (fun e => some (e))) (fun t1 => some ((t1.1, t1.2)))
theorem codec_Get_c {S : Mem} {w : World} (hS : Sub S w) {v0_ : Value} {x0 : List ((List UInt8) × (List UInt8))} (h0_ : RdS S v0_ x0) {x1 : List UInt8} {r : (List UInt8) × Int} (hF : codec_Get_p x0 x1 = some r) :
    Calls Tryd.prog 29 #[v0_, str (x1)] w fun e w' => e = .returned (.tuple #[str (r.1), .int .i64 (r.2)]) ∧ Ext w w' := by
  refine enter (n := 32) Tryd.func29 rfl rfl rfl ?_
  have H := HS.start hS
  unfold codec_Get_p at hF
  refine wp_seq_k ?_; intro K1 hK1
  refine wp_region_lit ?_
  refine p_val (r_assign (v := str (([] : List UInt8))) rfl) ?_
  refine p_val (r_assign (v := .int .i64 (0)) rfl) ?_
  refine wpList_nil ?_
  refine x_norm ?_; refine hK1 _ _ ?_; clear hK1
  refine wp_seq_k ?_; intro K2 hK2
  refine wp_region_lit ?_
  refine p_val (r_assign (v := str (([] : List UInt8))) rfl) ?_
  refine p_val (r_assign (v := .int .i64 (0)) rfl) ?_
  refine wpList_nil ?_
  refine x_norm ?_; refine hK2 _ _ ?_; clear hK2
  refine wp_seq_k ?_; intro K3 hK3
  refine nameF fun m1 k1 => ?_
  obtain ⟨t1, hE1, hF1⟩ := bnd hF
  have J2 : ∀ (m6 : FM) (w3 : World), (∀ t, has [6, 7, 8, 9, 10, 11, 12, 13, 14, 15, 16, 17, 18, 19, 20, 21, 22, 23, 24, 25, 26, 27, 28, 29] t = false → look m6 t = look m1 t) → look m6 6 = str (t1.1) → look m6 7 = .int .i64 (t1.2) → HS ⟨S, [], w⟩ S w3 [] → K3 (fr 32 m6) w3 := by
    clear H; intro m6 w3 k7 q11 q12 H
    refine hK3 _ _ ?_
    refine wp_seq_k ?_; intro K10 hK10
    refine wp_region_lit ?_
    refine p_val (r_move (v := str (t1.1)) q11) ?_
    refine p_val (r_move (v := .int .i64 (t1.2)) q12) ?_
    refine p_val (r_assign (v := str (t1.1)) rfl) ?_
    refine p_val (r_assign (v := .int .i64 (t1.2)) rfl) ?_
    refine wpList_nil ?_
    refine x_norm ?_; refine hK10 _ _ ?_; clear hK10
    refine wp_ret ?_
    obtain rfl := Option.some.inj hF1
    refine e_2 rfl (q_tmp (v := str (t1.1)) rfl) (q_tmp (v := .int .i64 (t1.2)) rfl) ?_
    exact ⟨rfl, H.toExt⟩
  refine wp_seq_k ?_; intro K4 hK4
  refine wp_region_lit ?_
  refine p_val (r_move (v := v0_) (k1 0)) ?_
  refine p_val (r_lenR' u28 rfl h0_ H.sub) ?_
  refine p_val (r_sub (r := w64 (((x0).length : Int) - 1)) rfl rfl rfl) ?_
  refine p_val (r_assign (v := .int .i64 ((w64 (((x0).length : Int) - 1)))) rfl) ?_
  refine wpList_nil ?_
  refine x_norm ?_; refine hK4 _ _ ?_; clear hK4
  refine wp_block ?_
  refine nameF fun m2 k2 => ?_
  obtain ⟨out1, hL1, hE2⟩ := bnd hE1
  replace H : HS ⟨S, [], w⟩ S w [] := H
  refine loopI [6, 7, 8, 12, 13, 14, 15, 16, 17, 18, 19, 20, 21, 22, 23, 24, 25, 26, 27, 28, 29] (fun (s1 : (List UInt8) × Int × Int) (m3 : FM) (w1 : World) => look m3 6 = str (s1.1) ∧ look m3 7 = .int .i64 (s1.2.1) ∧ look m3 8 = .int .i64 (s1.2.2) ∧ HS ⟨S, [], w⟩ S w1 []) hL1 ⟨((k2 6).trans (k1 6)), ((k2 7).trans (k1 7)), (k2 8), H⟩ ?_
  clear H; intro k4 s1 m3 w1 k3 hI1 o2 hb1 hh1; obtain ⟨q1, q2, q3, H⟩ := hI1
  have q4 : look m3 0 = v0_ := (k3 0 rfl).trans ((k2 0).trans (k1 0))
  have q5 : look m3 1 = str (x1) := (k3 1 rfl).trans ((k2 1).trans (k1 1))
  unfold codec_Get_b0 at hb1
  refine wp_seq_k ?_; intro K5 hK5
  refine wp_seq_k ?_; intro K6 hK6
  refine wp_region_lit ?_
  refine p_val (r_move (v := .int .i64 (s1.2.2)) q3) ?_
  refine p_val (r_geq (t := decide ((0 : Int) ≤ s1.2.2)) rfl rfl rfl) ?_
  refine wpList_nil ?_
  refine x_norm ?_; refine hK6 _ _ ?_; clear hK6
  refine c_split (t := decide ((0 : Int) ≤ s1.2.2)) rfl (fun hc1 => ?_) (fun hc1 => ?_)
  · replace hb1 := cnd_t hb1 hc1
    refine wp_skip ?_
    refine x_norm ?_; refine hK5 _ _ ?_; clear hK5
    refine wp_seq_k ?_; intro K7 hK7
    refine nameF fun m4 k5 => ?_
    obtain ⟨t2, hE3, hF2⟩ := bnd hb1
    have J1 : ∀ (m5 : FM) (w2 : World), (∀ t, has [6, 7, 16, 17, 18, 19, 20, 21, 22, 23, 24, 25, 26, 27, 28, 29] t = false → look m5 t = look m4 t) → look m5 6 = str (t2.1) → look m5 7 = .int .i64 (t2.2) → HS ⟨S, [], w⟩ S w2 [] → K7 (fr 32 m5) w2 := by
      clear H; intro m5 w2 k6 q6 q7 H
      have q8 : look m5 0 = v0_ := (k6 0 rfl).trans ((k5 0).trans q4)
      have q9 : look m5 1 = str (x1) := (k6 1 rfl).trans ((k5 1).trans q5)
      have q10 : look m5 8 = .int .i64 (s1.2.2) := (k6 8 rfl).trans ((k5 8).trans q3)
      refine hK7 _ _ ?_
      refine wp_region_lit ?_
      refine p_val (r_move (v := .int .i64 (s1.2.2)) q10) ?_
      refine p_val (r_sub (r := w64 (s1.2.2 - 1)) rfl rfl rfl) ?_
      refine p_val (r_assign (v := .int .i64 ((w64 (s1.2.2 - 1)))) rfl) ?_
      refine wpList_nil ?_
      refine x_norm ?_
      replace H : HS ⟨S, [], w⟩ S w2 [] := H
      obtain rfl := Option.some.inj hF2
      exact ⟨(t2.1, t2.2, (w64 (s1.2.2 - 1))), _, rfl, (by (repeat (refine keep_cons rfl ?_)); refine keep_sub k6 rfl ?_; (repeat (refine keep_cons rfl ?_)); refine keep_name k5 ?_; (repeat (refine keep_cons rfl ?_)); refine keep_sub k3 rfl ?_; (repeat (refine keep_cons rfl ?_)); exact fun _ _ => rfl), ⟨q6, q7, rfl, H⟩, hh1⟩
    refine wp_block ?_
    refine wp_seq_k ?_; intro K8 hK8
    refine wp_region_lit ?_
    refine p_val (r_move (v := v0_) ((k5 0).trans q4)) ?_
    refine p_val (r_move (v := .int .i64 (s1.2.2)) ((k5 8).trans q3)) ?_
    obtain ⟨y1, e1, hE3⟩ := bnd hE3
    obtain ⟨b1, o4, N1, c1, cs1, hv1, hi1, hc2, hr1⟩ := h0_.get (idx_some e1).2
    refine p_val (r_addrV (i := (s1.2.2 : Int).toNat) u28 tsz34 rfl hv1 rfl (idx_some e1).1 hi1) ?_
    obtain ⟨c2, c3, rfl, g1, g2⟩ := elP hr1
    obtain rfl := elT g1
    obtain rfl := elT g2
    refine p_val (r_field fa34_0 rfl) ?_
    refine p_val (s_load1 (p := (o4 + (s1.2.2 : Int).toNat * 2)) (o := 0) (v := str (y1.1)) to9 H.sub rfl hc2 rfl) ?_
    refine p_val (r_move (v := str (x1)) ((k5 1).trans q5)) ?_
    refine p_val (r_eqT (t := (y1.1 == x1)) rfl rfl rfl) ?_
    refine wpList_nil ?_
    refine x_norm ?_; refine hK8 _ _ ?_; clear hK8
    refine c_split (t := (y1.1 == x1)) rfl (fun hc3 => ?_) (fun hc3 => ?_)
    · replace hE3 := cnd_t hE3 hc3
      refine wp_seq_k ?_; intro K9 hK9
      refine wp_region_lit ?_
      refine p_val (r_move (v := v0_) ((k5 0).trans q4)) ?_
      refine p_val (r_move (v := .int .i64 (s1.2.2)) ((k5 8).trans q3)) ?_
      obtain ⟨y2, e2, hE3⟩ := bnd hE3
      obtain ⟨b2, o5, N2, c4, cs2, hv2, hi2, hc4, hr2⟩ := h0_.get (idx_some e2).2
      refine p_val (r_addrV (i := (s1.2.2 : Int).toNat) u28 tsz34 rfl hv2 rfl (idx_some e2).1 hi2) ?_
      obtain ⟨c5, c6, rfl, g3, g4⟩ := elP hr2
      obtain rfl := elT g3
      obtain rfl := elT g4
      refine p_val (r_field fa34_1 rfl) ?_
      refine p_val (s_load1 (p := (o5 + (s1.2.2 : Int).toNat * 2)) (o := 1) (v := str (y2.2)) to9 H.sub rfl hc4 rfl) ?_
      refine p_val (r_assign (v := str (y2.2)) rfl) ?_
      refine wpList_nil ?_
      refine x_norm ?_; refine hK9 _ _ ?_; clear hK9
      refine wp_region_lit ?_
      refine p_val (r_move (v := .int .i64 (s1.2.1)) ((k5 7).trans q2)) ?_
      refine p_val (r_add (r := w64 (s1.2.1 + 1)) rfl rfl rfl) ?_
      refine p_val (r_assign (v := .int .i64 ((w64 (s1.2.1 + 1)))) rfl) ?_
      refine wpList_nil ?_
      refine b_norm ?_
      refine x_norm ?_
      replace H : HS ⟨S, [], w⟩ S w1 [] := H
      obtain rfl := Option.some.inj hE3
      exact J1 _ _ (by (repeat (refine keep_cons rfl ?_)); exact fun _ _ => rfl) rfl rfl H
    · replace hE3 := cnd_f hE3 hc3
      refine wp_skip ?_
      refine b_norm ?_
      refine x_norm ?_
      replace H : HS ⟨S, [], w⟩ S w1 [] := H
      obtain rfl := Option.some.inj hE3
      exact J1 _ _ (by (repeat (refine keep_cons rfl ?_)); exact fun _ _ => rfl) ((k5 6).trans q1) ((k5 7).trans q2) H
  · replace hb1 := cnd_f hb1 hc1
    refine wp_exit ?_
    refine x_exit ?_
    refine x_exit ?_
    refine b_hit ?_
    refine x_norm ?_
    replace H : HS ⟨S, [], w⟩ S w1 [] := H
    obtain rfl := Option.some.inj hb1
    obtain rfl := Option.some.inj hh1
    obtain rfl := Option.some.inj hE2
    exact J2 _ _ (by (repeat (refine keep_cons rfl ?_)); refine keep_sub k3 rfl ?_; (repeat (refine keep_cons rfl ?_)); refine keep_name k2 ?_; (repeat (refine keep_cons rfl ?_)); exact fun _ _ => rfl) q1 q2 H
def codec_Hex_b0 (x0 : List UInt8) (s1 : Int × (List UInt8)) : Option ((Int × (List UInt8)) ⊕ ((List UInt8))) :=
  bif decide (s1.1 < ((x0).length : Int)) then (Option.bind (idx x0 s1.1) fun y1 => Option.bind (idx ([48, 49, 50, 51, 52, 53, 54, 55, 56, 57, 97, 98, 99, 100, 101, 102] : List UInt8) (((i8 (shrI .u8 ((y1).toNat : Int) 4))).toNat : Int)) fun y2 => Option.bind (Builder_WriteByte_p s1.2 y2) fun y3 => Option.bind (idx ([48, 49, 50, 51, 52, 53, 54, 55, 56, 57, 97, 98, 99, 100, 101, 102] : List UInt8) (((y1 &&& (15 : UInt8))).toNat : Int)) fun y4 => Option.bind (Builder_WriteByte_p y3 y4) fun y5 => some (.inl (((w64 (s1.1 + 1)), y5)))) else (some (.inr (s1.2)))
def codec_Hex_p (x0 : List UInt8) : Option ((List UInt8)) :=
  Option.bind (Option.bind (iter (codec_Hex_b0 x0) ((0, ([] : List UInt8)))) (fun e => some (e))) (fun t1 => Option.bind (chk (decide ((t1).length ≤ 68719476736))) fun y6 => some (t1))
theorem codec_Hex_c {S : Mem} {w : World} (hS : Sub S w) {x0 : List UInt8} {r : (List UInt8)} (hF : codec_Hex_p x0 = some r) :
    Calls Tryd.prog 14 #[str (x0)] w fun e w' => e = .returned (str (r)) ∧ Ext w w' := by
  refine enter (n := 23) Tryd.func14 rfl rfl rfl ?_
  have H := HS.start hS
  unfold codec_Hex_p at hF
  refine wp_seq_k ?_; intro K1 hK1
  refine wp_region_lit ?_
  refine p_val (r_assign (v := str (([] : List UInt8))) rfl) ?_
  refine wpList_nil ?_
  refine x_norm ?_; refine hK1 _ _ ?_; clear hK1
  refine wp_seq_k ?_; intro K2 hK2
  refine wp_region_lit ?_
  refine p_ofb (a_alloc (l := ([Value.pointer none] ++ ([Value.slice none 0 0]))) H tz46 rfl) ?_; clear H; intro w1 b1 H
  replace H : HS ⟨S, [], w⟩ S w1 [.blk b1 (([Value.pointer none] ++ ([Value.slice none 0 0]))) 46] := H
  refine wpList_nil ?_
  refine x_norm ?_; refine hK2 _ _ ?_; clear hK2
  refine wp_seq_k ?_; intro K3 hK3
  refine nameF fun m1 k1 => ?_
  obtain ⟨t1, hE1, hF1⟩ := bnd hF
  have J1 : ∀ (a2 : Value) (v3 : Value) (cs3 rs3 : List Value) (S4 : Mem) (m4 : FM) (w6 : World), (∀ t, has [5, 6, 7, 8, 9, 10, 11, 12, 13, 14, 15, 16, 17, 18, 19, 20, 21] t = false → look m4 t = look m1 t) → Mem.le S S4 → HS ⟨S, [], w⟩ S4 w6 [.osl (v3) (t1).length 1 cs3 rs3 5, .blk b1 (([a2] ++ ([v3]))) 46] → BA b1 a2 → RL S4 cs3 t1 → K3 (fr 23 m4) w6 := by
    clear H; intro a2 v3 cs3 rs3 S4 m4 w6 k5 hle4 H g5 g6
    have q5 : look m4 3 = .pointer (some ⟨b1, 0, none⟩) := (k5 3 rfl).trans (k1 3)
    refine hK3 _ _ ?_
    refine wp_seq_k ?_; intro K10 hK10
    refine wp_region_lit ?_
    obtain ⟨y6, e6, hF1⟩ := bnd hF1
    refine p_call (l := [.pointer (some ⟨b1, 0, none⟩)]) is34 (args_cons q5 args_nil) ?_
    refine (Builder_String_c (k1 := 1) (k2 := 0) H rfl rfl g6 (Nat.le_trans (of_decide_eq_true (chk_some e6)) (by decide))).mono ?_; clear H; rintro _ w7 ⟨rfl, H⟩
    replace H : HS ⟨S, [], w⟩ S4 w7 [.blk b1 (([a2] ++ ([v3]))) 46] := H
    refine p_val (r_assign (v := str (t1)) rfl) ?_
    refine wpList_nil ?_
    refine x_norm ?_; refine hK10 _ _ ?_; clear hK10
    refine wp_ret ?_
    obtain rfl := Option.some.inj hF1
    refine e_1 rfl (q_tmp (v := str (t1)) rfl) ?_
    exact ⟨rfl, H.toExt⟩
  refine wp_seq_k ?_; intro K4 hK4
  refine wp_region_lit ?_
  refine p_val (r_move (v := str (x0)) (k1 0)) ?_
  refine p_of1 (a_bytes (l := x0) u9 u40 u5 H rfl) ?_; clear H; rintro w2 v1 ⟨rs1, H⟩
  have g1 : RL S (u8s x0) x0 := RL.of_u8s _
  replace H : HS ⟨S, [], w⟩ S w2 [.osl (v1) (x0).length 1 (u8s x0) rs1 5, .blk b1 (([Value.pointer none] ++ ([Value.slice none 0 0]))) 46] := H
  refine p_val (r_lenO u40 rfl H (k := 0) rfl rfl) ?_
  refine p_val (r_move (v := .int .i64 (0)) rfl) ?_
  refine wpList_nil ?_
  refine x_norm ?_; refine hK4 _ _ ?_; clear hK4
  refine wp_block ?_
  refine nameF fun m2 k2 => ?_
  obtain ⟨out1, hL1, hE2⟩ := bnd hE1
  replace H := H.nilOwn 1 5; have g4 : RL S [] ([] : List UInt8) := RL.nil
  replace H : HS ⟨S, [], w⟩ S w2 [.osl (.slice none 0 0) (([] : List UInt8)).length 1 [] [] 5, .osl (v1) (x0).length 1 (u8s x0) rs1 5, .blk b1 (([Value.pointer none] ++ ([Value.slice none 0 0]))) 46] := H
  refine loopI [5, 9, 10, 11, 12, 13, 14, 15, 16, 17, 18, 19, 20, 21] (fun (s1 : Int × (List UInt8)) (m3 : FM) (w3 : World) => ∃ (S1 : Mem) (a1 : Value) (v2 : Value) (cs1 rs2 : List Value), look m3 9 = .int .i64 (s1.1) ∧ Mem.le S S1 ∧ HS ⟨S, [], w⟩ S1 w3 [.osl (v2) (s1.2).length 1 cs1 rs2 5, .osl (v1) (x0).length 1 (u8s x0) rs1 5, .blk b1 (([a1] ++ ([v2]))) 46] ∧ BA b1 a1 ∧ RL S1 cs1 s1.2) hL1 ⟨_, _, _, _, _, (k2 9), (Mem.le_refl _), H, (Or.inl rfl), g4⟩ ?_
  clear H; intro k4 s1 m3 w3 k3 hI1 o2 hb1 hh1; obtain ⟨S1, a1, v2, cs1, rs2, q1, hle1, H, g2, g3⟩ := hI1
  replace g1 := RL.mono g1 hle1
  have q2 : look m3 3 = .pointer (some ⟨b1, 0, none⟩) := (k3 3 rfl).trans ((k2 3).trans (k1 3))
  have q3 : look m3 7 = v1 := (k3 7 rfl).trans (k2 7)
  have q4 : look m3 8 = .int .i64 (((x0).length : Int)) := (k3 8 rfl).trans (k2 8)
  unfold codec_Hex_b0 at hb1
  refine wp_seq_k ?_; intro K5 hK5
  refine wp_region_lit ?_
  refine p_val (r_lss (t := decide (s1.1 < ((x0).length : Int))) q1 q4 rfl) ?_
  refine wpList_nil ?_
  refine x_norm ?_; refine hK5 _ _ ?_; clear hK5
  refine wp_seq_k ?_; intro K6 hK6
  refine c_split (t := decide (s1.1 < ((x0).length : Int))) rfl (fun hc1 => ?_) (fun hc1 => ?_)
  · replace hb1 := cnd_t hb1 hc1
    refine wp_skip ?_
    refine x_norm ?_; refine hK6 _ _ ?_; clear hK6
    refine wp_seq_k ?_; intro K7 hK7
    refine wp_block ?_
    refine wp_seq_k ?_; intro K8 hK8
    refine wp_region_lit ?_
    obtain ⟨y1, e1, hb1⟩ := bnd hb1
    obtain ⟨b2, c1, hv1⟩ := H.ownAt (k := 1) rfl (idx_lt e1)
    refine p_val (r_addrV (i := (s1.1 : Int).toNat) u40 tsz5 q3 hv1 q1 (idx_some e1).1 (idx_lt e1)) ?_
    subst hv1
    have hr1 := RL.get g1 (idx_some e1).2; generalize hghr1 : piece (u8s x0) _ _ = cs2 at hr1
    obtain rfl := elU8 hr1
    refine p_val (o_load1 (v := .int .u8 (((y1).toNat : Int))) to5 H (k := 1) rfl rfl (idx_lt e1) hghr1) ?_
    refine p_val (r_assign (v := .int .u8 (((y1).toNat : Int))) rfl) ?_
    refine wpList_nil ?_
    refine x_norm ?_; refine hK8 _ _ ?_; clear hK8
    refine wp_seq_k ?_; intro K9 hK9
    refine wp_region_lit ?_
    refine p_val (r_move (v := .int .u8 (((y1).toNat : Int))) rfl) ?_
    refine p_val (r_shr (r := (((i8 (shrI .u8 ((y1).toNat : Int) 4))).toNat : Int)) rfl rfl (by decide) (i8_shr _ _)) ?_
    obtain ⟨y2, e2, hb1⟩ := bnd hb1
    refine p_val (r_idxT (i := ((((i8 (shrI .u8 ((y1).toNat : Int) 4))).toNat : Int) : Int).toNat) (u := y2) u9 rfl rfl (idx_some e2).1 (idx_some e2).2) ?_
    obtain ⟨y3, e3, hb1⟩ := bnd hb1
    refine p_call (l := [.pointer (some ⟨b1, 0, none⟩), .int .u8 (((y2).toNat : Int))]) is33 (args_cons q2 (args_cons rfl args_nil)) ?_
    refine (Builder_WriteByte_c (H.hand [2, 0] rfl) g3 g2 e3).mono ?_; rintro _ w4 ⟨S2, pv1, pcs1, prs1, pa1, rfl, H2, pg1, pg2⟩
    obtain ⟨H1, hle2⟩ := H.frame [2, 0] [1] rfl H2; clear H H2; have H := H1; clear H1
    replace g1 := RL.mono g1 hle2
    replace H : HS ⟨S, [], w⟩ S2 w4 [.blk b1 (([pa1] ++ ([pv1]))) 46, .osl (pv1) (y3).length 1 pcs1 prs1 5, .osl (sl b2 0 (x0).length c1) (x0).length 1 (u8s x0) rs1 5] := H
    refine wpList_nil ?_
    refine x_norm ?_; refine hK9 _ _ ?_; clear hK9
    refine wp_region_lit ?_
    refine p_val (r_move (v := .int .u8 (((y1).toNat : Int))) rfl) ?_
    refine p_val (r_bits (bo := .and) (by simp) (r := (((y1 &&& (15 : UInt8))).toNat : Int)) rfl rfl (i8_and y1 (15 : UInt8))) ?_
    obtain ⟨y4, e4, hb1⟩ := bnd hb1
    refine p_val (r_idxT (i := ((((y1 &&& (15 : UInt8))).toNat : Int) : Int).toNat) (u := y4) u9 rfl rfl (idx_some e4).1 (idx_some e4).2) ?_
    obtain ⟨y5, e5, hb1⟩ := bnd hb1
    refine p_call (l := [.pointer (some ⟨b1, 0, none⟩), .int .u8 (((y4).toNat : Int))]) is33 (args_cons q2 (args_cons rfl args_nil)) ?_
    refine (Builder_WriteByte_c (H.hand [0, 1] rfl) pg1 pg2 e5).mono ?_; rintro _ w5 ⟨S3, pv2, pcs2, prs2, pa2, rfl, H2, pg3, pg4⟩
    obtain ⟨H1, hle3⟩ := H.frame [0, 1] [2] rfl H2; clear H H2; have H := H1; clear H1
    replace g1 := RL.mono g1 hle3
    replace H : HS ⟨S, [], w⟩ S3 w5 [.blk b1 (([pa2] ++ ([pv2]))) 46, .osl (pv2) (y5).length 1 pcs2 prs2 5, .osl (sl b2 0 (x0).length c1) (x0).length 1 (u8s x0) rs1 5] := H
    refine wpList_nil ?_
    refine b_norm ?_
    refine x_norm ?_; refine hK7 _ _ ?_; clear hK7
    refine wp_region_lit ?_
    refine p_val (r_add (r := w64 (s1.1 + 1)) q1 rfl rfl) ?_
    refine p_val (r_move (v := .int .i64 ((w64 (s1.1 + 1)))) rfl) ?_
    refine wpList_nil ?_
    refine x_norm ?_
    replace H := H.sel [1, 2, 0] rfl
    replace H : HS ⟨S, [], w⟩ S3 w5 [.osl (pv2) (y5).length 1 pcs2 prs2 5, .osl (sl b2 0 (x0).length c1) (x0).length 1 (u8s x0) rs1 5, .blk b1 (([pa2] ++ ([pv2]))) 46] := H
    obtain rfl := Option.some.inj hb1
    exact ⟨((w64 (s1.1 + 1)), y5), _, rfl, (by (repeat (refine keep_cons rfl ?_)); refine keep_sub k3 rfl ?_; (repeat (refine keep_cons rfl ?_)); exact fun _ _ => rfl), ⟨_, _, _, _, _, rfl, (Mem.le_trans hle1 (Mem.le_trans hle2 hle3)), H, pg4, pg3⟩, hh1⟩
  · replace hb1 := cnd_f hb1 hc1
    refine wp_exit ?_
    refine x_exit ?_
    refine x_exit ?_
    refine b_hit ?_
    refine x_norm ?_
    replace H := H.sel [0, 2] rfl
    replace H : HS ⟨S, [], w⟩ S1 w3 [.osl (v2) (s1.2).length 1 cs1 rs2 5, .blk b1 (([a1] ++ ([v2]))) 46] := H
    obtain rfl := Option.some.inj hb1
    obtain rfl := Option.some.inj hh1
    obtain rfl := Option.some.inj hE2
    exact J1 _ _ _ _ _ _ _ (by (repeat (refine keep_cons rfl ?_)); refine keep_sub k3 rfl ?_; (repeat (refine keep_cons rfl ?_)); refine keep_name k2 ?_; (repeat (refine keep_cons rfl ?_)); exact fun _ _ => rfl) hle1 H g2 g3
def codec_Base64_b1 (s1 : Int × Int × Int × (List UInt8)) (y1 : UInt8) (s2 : Int × (List UInt8)) : Option ((Int × (List UInt8)) ⊕ (Int × (List UInt8))) :=
  bif decide ((6 : Int) ≤ s2.1) then (Option.bind (chk (decide (0 ≤ (w64 (s2.1 - 6))))) fun y2 => Option.bind (idx ([65, 66, 67, 68, 69, 70, 71, 72, 73, 74, 75, 76, 77, 78, 79, 80, 81, 82, 83, 84, 85, 86, 87, 88, 89, 90, 97, 98, 99, 100, 101, 102, 103, 104, 105, 106, 107, 108, 109, 110, 111, 112, 113, 114, 115, 116, 117, 118, 119, 120, 121, 122, 48, 49, 50, 51, 52, 53, 54, 55, 56, 57, 45, 95] : List UInt8) (bits .and .i64 (shrI .i64 (bits .or .i64 (shlI .i64 s1.1 8) ((y1).toNat : Int)) (w64 (s2.1 - 6))) 63)) fun y3 => Option.bind (Builder_WriteByte_p s2.2 y3) fun y4 => some (.inl (((w64 (s2.1 - 6)), y4)))) else (some (.inr ((s2.1, s2.2))))
def codec_Base64_b0 (x0 : List UInt8) (s1 : Int × Int × Int × (List UInt8)) : Option ((Int × Int × Int × (List UInt8)) ⊕ (Int × Int × (List UInt8))) :=
  bif decide (s1.2.2.1 < ((x0).length : Int)) then (Option.bind (Option.bind (idx x0 s1.2.2.1) fun y1 => Option.bind (Option.bind (iter (codec_Base64_b1 s1 y1) (((w64 (s1.2.1 + 8)), s1.2.2.2))) (fun e => some (e))) (fun t3 => Option.bind (chk (decide (0 ≤ t3.1))) fun y5 => some (((bits .and .i64 (bits .or .i64 (shlI .i64 s1.1 8) ((y1).toNat : Int)) (w64 ((shlI .i64 1 t3.1) - 1))), t3.1, t3.2)))) (fun t2 => some (.inl ((t2.1, t2.2.1, (w64 (s1.2.2.1 + 1)), t2.2.2))))) else (some (.inr ((s1.1, s1.2.1, s1.2.2.2))))
def codec_Base64_p (x0 : List UInt8) : Option ((List UInt8)) :=
  Option.bind (Option.bind (iter (codec_Base64_b0 x0) ((0, 0, 0, ([] : List UInt8)))) (fun e => some (e))) (fun t1 => Option.bind (bif decide ((0 : Int) < t1.2.1) then (Option.bind (chk (decide (0 ≤ (w64 ((6 : Int) - t1.2.1))))) fun y6 => Option.bind (idx ([65, 66, 67, 68, 69, 70, 71, 72, 73, 74, 75, 76, 77, 78, 79, 80, 81, 82, 83, 84, 85, 86, 87, 88, 89, 90, 97, 98, 99, 100, 101, 102, 103, 104, 105, 106, 107, 108, 109, 110, 111, 112, 113, 114, 115, 116, 117, 118, 119, 120, 121, 122, 48, 49, 50, 51, 52, 53, 54, 55, 56, 57, 45, 95] : List UInt8) (bits .and .i64 (shlI .i64 t1.1 (w64 ((6 : Int) - t1.2.1))) 63)) fun y7 => Option.bind (Builder_WriteByte_p t1.2.2 y7) fun y8 => some (y8)) else (some (t1.2.2))) (fun t4 => Option.bind (chk (decide ((t4).length ≤ 68719476736))) fun y9 => some (t4)))
theorem codec_Base64_c {S : Mem} {w : World} (hS : Sub S w) {x0 : List UInt8} {r : (List UInt8)} (hF : codec_Base64_p x0 = some r) :
    Calls Tryd.prog 18 #[str (x0)] w fun e w' => e = .returned (str (r)) ∧ Ext w w' := by
  refine enter (n := 49) Tryd.func18 rfl rfl rfl ?_
  have H := HS.start hS
  unfold codec_Base64_p at hF
  refine wp_seq_k ?_; intro K1 hK1
  refine wp_region_lit ?_
  refine p_val (r_assign (v := str (([] : List UInt8))) rfl) ?_
  refine wpList_nil ?_
  refine x_norm ?_; refine hK1 _ _ ?_; clear hK1
  refine wp_seq_k ?_; intro K2 hK2
  refine wp_region_lit ?_
  refine p_ofb (a_alloc (l := ([Value.pointer none] ++ ([Value.slice none 0 0]))) H tz46 rfl) ?_; clear H; intro w1 b1 H
  replace H : HS ⟨S, [], w⟩ S w1 [.blk b1 (([Value.pointer none] ++ ([Value.slice none 0 0]))) 46] := H
  refine wpList_nil ?_
  refine x_norm ?_; refine hK2 _ _ ?_; clear hK2
  refine wp_seq_k ?_; intro K3 hK3
  refine wp_region_lit ?_
  refine p_val (r_assign (v := .int .i64 (0)) rfl) ?_
  refine p_val (r_assign (v := .int .i64 (0)) rfl) ?_
  refine wpList_nil ?_
  refine x_norm ?_; refine hK3 _ _ ?_; clear hK3
  refine wp_seq_k ?_; intro K4 hK4
  refine nameF fun m1 k1 => ?_
  obtain ⟨t1, hE1, hF1⟩ := bnd hF
  have J4 : ∀ (a5 : Value) (v6 : Value) (cs6 rs6 : List Value) (S6 : Mem) (m10 : FM) (w8 : World), (∀ t, has [4, 5, 7, 8, 9, 10, 11, 12, 13, 14, 15, 16, 17, 18, 19, 20, 21, 22, 23, 24, 25, 26, 27, 28, 29, 30, 31, 32, 33, 34, 35, 36, 37, 38] t = false → look m10 t = look m1 t) → look m10 4 = .int .i64 (t1.1) → look m10 5 = .int .i64 (t1.2.1) → Mem.le S S6 → HS ⟨S, [], w⟩ S6 w8 [.osl (v6) (t1.2.2).length 1 cs6 rs6 5, .blk b1 (([a5] ++ ([v6]))) 46] → BA b1 a5 → RL S6 cs6 t1.2.2 → K4 (fr 49 m10) w8 := by
    clear H; intro a5 v6 cs6 rs6 S6 m10 w8 k12 q25 q26 hle6 H g11 g12
    have q27 : look m10 3 = .pointer (some ⟨b1, 0, none⟩) := (k12 3 rfl).trans (k1 3)
    refine hK4 _ _ ?_
    refine wp_seq_k ?_; intro K15 hK15
    refine nameF fun m11 k13 => ?_
    obtain ⟨t4, hE6, hF4⟩ := bnd hF1
    have J3 : ∀ (v7 : Value) (cs7 rs7 : List Value) (a6 : Value) (S8 : Mem) (m12 : FM) (w10 : World), (∀ t, has [39, 40, 41, 42, 43, 44, 45, 46, 47] t = false → look m12 t = look m11 t) → Mem.le S6 S8 → HS ⟨S, [], w⟩ S8 w10 [.osl (v7) (t4).length 1 cs7 rs7 5, .blk b1 (([a6] ++ ([v7]))) 46] → RL S8 cs7 t4 → BA b1 a6 → K15 (fr 49 m12) w10 := by
      clear H; intro v7 cs7 rs7 a6 S8 m12 w10 k14 hle8 H g13 g14
      have q28 : look m12 3 = .pointer (some ⟨b1, 0, none⟩) := (k14 3 rfl).trans ((k13 3).trans q27)
      refine hK15 _ _ ?_
      refine wp_seq_k ?_; intro K17 hK17
      refine wp_region_lit ?_
      obtain ⟨y9, e9, hF4⟩ := bnd hF4
      refine p_call (l := [.pointer (some ⟨b1, 0, none⟩)]) is34 (args_cons q28 args_nil) ?_
      refine (Builder_String_c (k1 := 1) (k2 := 0) H rfl rfl g13 (Nat.le_trans (of_decide_eq_true (chk_some e9)) (by decide))).mono ?_; clear H; rintro _ w11 ⟨rfl, H⟩
      replace H : HS ⟨S, [], w⟩ S8 w11 [.blk b1 (([a6] ++ ([v7]))) 46] := H
      refine p_val (r_assign (v := str (t4)) rfl) ?_
      refine wpList_nil ?_
      refine x_norm ?_; refine hK17 _ _ ?_; clear hK17
      refine wp_ret ?_
      obtain rfl := Option.some.inj hF4
      refine e_1 rfl (q_tmp (v := str (t4)) rfl) ?_
      exact ⟨rfl, H.toExt⟩
    refine wp_seq_k ?_; intro K16 hK16
    refine wp_region_lit ?_
    refine p_val (r_move (v := .int .i64 (t1.2.1)) ((k13 5).trans q26)) ?_
    refine p_val (r_gtr (t := decide ((0 : Int) < t1.2.1)) rfl rfl rfl) ?_
    refine wpList_nil ?_
    refine x_norm ?_; refine hK16 _ _ ?_; clear hK16
    refine c_split (t := decide ((0 : Int) < t1.2.1)) rfl (fun hc3 => ?_) (fun hc3 => ?_)
    · replace hE6 := cnd_t hE6 hc3
      refine wp_region_lit ?_
      refine p_val (r_move (v := .int .i64 (t1.1)) ((k13 4).trans q25)) ?_
      refine p_val (r_move (v := .int .i64 (t1.2.1)) ((k13 5).trans q26)) ?_
      refine p_val (r_sub (r := w64 ((6 : Int) - t1.2.1)) rfl rfl rfl) ?_
      obtain ⟨y6, e6, hE6⟩ := bnd hE6
      refine p_val (r_shl (r := shlI .i64 t1.1 (w64 ((6 : Int) - t1.2.1))) rfl rfl (Int.not_lt.2 (of_decide_eq_true (chk_some e6))) rfl) ?_
      refine p_val (r_bits (bo := .and) (by simp) (r := (bits .and .i64 (shlI .i64 t1.1 (w64 ((6 : Int) - t1.2.1))) 63)) rfl rfl rfl) ?_
      obtain ⟨y7, e7, hE6⟩ := bnd hE6
      refine p_val (r_idxT (i := ((bits .and .i64 (shlI .i64 t1.1 (w64 ((6 : Int) - t1.2.1))) 63) : Int).toNat) (u := y7) u9 rfl rfl (idx_some e7).1 (idx_some e7).2) ?_
      obtain ⟨y8, e8, hE6⟩ := bnd hE6
      refine p_call (l := [.pointer (some ⟨b1, 0, none⟩), .int .u8 (((y7).toNat : Int))]) is33 (args_cons ((k13 3).trans q27) (args_cons rfl args_nil)) ?_
      refine (Builder_WriteByte_c (H.hand [1, 0] rfl) g12 g11 e8).mono ?_; rintro _ w9 ⟨S7, pv2, pcs2, prs2, pa2, rfl, H2, pg3, pg4⟩
      obtain ⟨H1, hle7⟩ := H.frame [1, 0] [] rfl H2; clear H H2; have H := H1; clear H1
      replace H : HS ⟨S, [], w⟩ S7 w9 [.blk b1 (([pa2] ++ ([pv2]))) 46, .osl (pv2) (y8).length 1 pcs2 prs2 5] := H
      refine wpList_nil ?_
      refine x_norm ?_
      replace H := H.sel [1, 0] rfl
      replace H : HS ⟨S, [], w⟩ S7 w9 [.osl (pv2) (y8).length 1 pcs2 prs2 5, .blk b1 (([pa2] ++ ([pv2]))) 46] := H
      obtain rfl := Option.some.inj hE6
      exact J3 _ _ _ _ _ _ _ (by (repeat (refine keep_cons rfl ?_)); exact fun _ _ => rfl) hle7 H pg3 pg4
    · replace hE6 := cnd_f hE6 hc3
      refine wp_skip ?_
      refine x_norm ?_
      replace H : HS ⟨S, [], w⟩ S6 w8 [.osl (v6) (t1.2.2).length 1 cs6 rs6 5, .blk b1 (([a5] ++ ([v6]))) 46] := H
      obtain rfl := Option.some.inj hE6
      exact J3 _ _ _ _ _ _ _ (by (repeat (refine keep_cons rfl ?_)); exact fun _ _ => rfl) (Mem.le_refl _) H g12 g11
  refine wp_seq_k ?_; intro K5 hK5
  refine wp_region_lit ?_
  refine p_val (r_move (v := str (x0)) (k1 0)) ?_
  refine p_of1 (a_bytes (l := x0) u9 u40 u5 H rfl) ?_; clear H; rintro w2 v1 ⟨rs1, H⟩
  have g1 : RL S (u8s x0) x0 := RL.of_u8s _
  replace H : HS ⟨S, [], w⟩ S w2 [.osl (v1) (x0).length 1 (u8s x0) rs1 5, .blk b1 (([Value.pointer none] ++ ([Value.slice none 0 0]))) 46] := H
  refine p_val (r_lenO u40 rfl H (k := 0) rfl rfl) ?_
  refine p_val (r_move (v := .int .i64 (0)) rfl) ?_
  refine wpList_nil ?_
  refine x_norm ?_; refine hK5 _ _ ?_; clear hK5
  refine wp_block ?_
  refine nameF fun m2 k2 => ?_
  obtain ⟨out1, hL1, hE2⟩ := bnd hE1
  replace H := H.nilOwn 1 5; have g4 : RL S [] ([] : List UInt8) := RL.nil
  replace H : HS ⟨S, [], w⟩ S w2 [.osl (.slice none 0 0) (([] : List UInt8)).length 1 [] [] 5, .osl (v1) (x0).length 1 (u8s x0) rs1 5, .blk b1 (([Value.pointer none] ++ ([Value.slice none 0 0]))) 46] := H
  refine loopI [4, 5, 7, 11, 12, 13, 14, 15, 16, 17, 18, 19, 20, 21, 22, 23, 24, 25, 26, 27, 28, 29, 30, 31, 32, 33, 34, 35, 36, 37, 38] (fun (s1 : Int × Int × Int × (List UInt8)) (m3 : FM) (w3 : World) => ∃ (S1 : Mem) (a1 : Value) (v2 : Value) (cs1 rs2 : List Value), look m3 4 = .int .i64 (s1.1) ∧ look m3 5 = .int .i64 (s1.2.1) ∧ look m3 11 = .int .i64 (s1.2.2.1) ∧ Mem.le S S1 ∧ HS ⟨S, [], w⟩ S1 w3 [.osl (v2) (s1.2.2.2).length 1 cs1 rs2 5, .osl (v1) (x0).length 1 (u8s x0) rs1 5, .blk b1 (([a1] ++ ([v2]))) 46] ∧ BA b1 a1 ∧ RL S1 cs1 s1.2.2.2) hL1 ⟨_, _, _, _, _, ((k2 4).trans (k1 4)), ((k2 5).trans (k1 5)), (k2 11), (Mem.le_refl _), H, (Or.inl rfl), g4⟩ ?_
  clear H; intro k4 s1 m3 w3 k3 hI1 o2 hb1 hh1; obtain ⟨S1, a1, v2, cs1, rs2, q1, q2, q3, hle1, H, g2, g3⟩ := hI1
  replace g1 := RL.mono g1 hle1
  have q4 : look m3 3 = .pointer (some ⟨b1, 0, none⟩) := (k3 3 rfl).trans ((k2 3).trans (k1 3))
  have q5 : look m3 9 = v1 := (k3 9 rfl).trans (k2 9)
  have q6 : look m3 10 = .int .i64 (((x0).length : Int)) := (k3 10 rfl).trans (k2 10)
  unfold codec_Base64_b0 at hb1
  refine wp_seq_k ?_; intro K6 hK6
  refine wp_region_lit ?_
  refine p_val (r_lss (t := decide (s1.2.2.1 < ((x0).length : Int))) q3 q6 rfl) ?_
  refine wpList_nil ?_
  refine x_norm ?_; refine hK6 _ _ ?_; clear hK6
  refine wp_seq_k ?_; intro K7 hK7
  refine c_split (t := decide (s1.2.2.1 < ((x0).length : Int))) rfl (fun hc1 => ?_) (fun hc1 => ?_)
  · replace hb1 := cnd_t hb1 hc1
    refine wp_skip ?_
    refine x_norm ?_; refine hK7 _ _ ?_; clear hK7
    refine wp_seq_k ?_; intro K8 hK8
    refine nameF fun m4 k5 => ?_
    obtain ⟨t2, hE3, hF2⟩ := bnd hb1
    have J2 : ∀ (v5 : Value) (cs5 rs5 : List Value) (a4 : Value) (S5 : Mem) (m9 : FM) (w7 : World), (∀ t, has [4, 5, 7, 13, 14, 15, 16, 17, 18, 19, 20, 21, 22, 23, 24, 25, 26, 27, 28, 29, 30, 31, 32, 33, 34, 35, 36, 37] t = false → look m9 t = look m4 t) → look m9 4 = .int .i64 (t2.1) → look m9 5 = .int .i64 (t2.2.1) → Mem.le S1 S5 → HS ⟨S, [], w⟩ S5 w7 [.osl (v5) (t2.2.2).length 1 cs5 rs5 5, .osl (v1) (x0).length 1 (u8s x0) rs1 5, .blk b1 (([a4] ++ ([v5]))) 46] → RL S5 cs5 t2.2.2 → BA b1 a4 → K8 (fr 49 m9) w7 := by
      clear H; intro v5 cs5 rs5 a4 S5 m9 w7 k11 q19 q20 hle5 H g9 g10
      replace g1 := RL.mono g1 hle5
      have q21 : look m9 3 = .pointer (some ⟨b1, 0, none⟩) := (k11 3 rfl).trans ((k5 3).trans q4)
      have q22 : look m9 9 = v1 := (k11 9 rfl).trans ((k5 9).trans q5)
      have q23 : look m9 10 = .int .i64 (((x0).length : Int)) := (k11 10 rfl).trans ((k5 10).trans q6)
      have q24 : look m9 11 = .int .i64 (s1.2.2.1) := (k11 11 rfl).trans ((k5 11).trans q3)
      refine hK8 _ _ ?_
      refine wp_region_lit ?_
      refine p_val (r_add (r := w64 (s1.2.2.1 + 1)) q24 rfl rfl) ?_
      refine p_val (r_move (v := .int .i64 ((w64 (s1.2.2.1 + 1)))) rfl) ?_
      refine wpList_nil ?_
      refine x_norm ?_
      replace H : HS ⟨S, [], w⟩ S5 w7 [.osl (v5) (t2.2.2).length 1 cs5 rs5 5, .osl (v1) (x0).length 1 (u8s x0) rs1 5, .blk b1 (([a4] ++ ([v5]))) 46] := H
      obtain rfl := Option.some.inj hF2
      exact ⟨(t2.1, t2.2.1, (w64 (s1.2.2.1 + 1)), t2.2.2), _, rfl, (by (repeat (refine keep_cons rfl ?_)); refine keep_sub k11 rfl ?_; (repeat (refine keep_cons rfl ?_)); refine keep_name k5 ?_; (repeat (refine keep_cons rfl ?_)); refine keep_sub k3 rfl ?_; (repeat (refine keep_cons rfl ?_)); exact fun _ _ => rfl), ⟨_, _, _, _, _, q19, q20, rfl, (Mem.le_trans hle1 hle5), H, g10, g9⟩, hh1⟩
    refine wp_block ?_
    refine wp_seq_k ?_; intro K9 hK9
    refine wp_region_lit ?_
    obtain ⟨y1, e1, hE3⟩ := bnd hE3
    obtain ⟨b2, c1, hv1⟩ := H.ownAt (k := 1) rfl (idx_lt e1)
    refine p_val (r_addrV (i := (s1.2.2.1 : Int).toNat) u40 tsz5 ((k5 9).trans q5) hv1 ((k5 11).trans q3) (idx_some e1).1 (idx_lt e1)) ?_
    subst hv1
    have hr1 := RL.get g1 (idx_some e1).2; generalize hghr1 : piece (u8s x0) _ _ = cs2 at hr1
    obtain rfl := elU8 hr1
    refine p_val (o_load1 (v := .int .u8 (((y1).toNat : Int))) to5 H (k := 1) rfl rfl (idx_lt e1) hghr1) ?_
    refine p_val (r_assign (v := .int .u8 (((y1).toNat : Int))) rfl) ?_
    refine wpList_nil ?_
    refine x_norm ?_; refine hK9 _ _ ?_; clear hK9
    refine wp_seq_k ?_; intro K10 hK10
    refine wp_region_lit ?_
    refine p_val (r_move (v := .int .i64 (s1.1)) ((k5 4).trans q1)) ?_
    refine p_val (r_shl (r := shlI .i64 s1.1 8) rfl rfl (by decide) rfl) ?_
    refine p_val (r_move (v := .int .u8 (((y1).toNat : Int))) rfl) ?_
    refine p_val (r_conv (r := ((y1).toNat : Int)) u5 u3 rfl (w64_u8 _)) ?_
    refine p_val (r_bits (bo := .or) (by simp) (r := (bits .or .i64 (shlI .i64 s1.1 8) ((y1).toNat : Int))) rfl rfl rfl) ?_
    refine p_val (r_move (v := .int .i64 (s1.2.1)) ((k5 5).trans q2)) ?_
    refine p_val (r_add (r := w64 (s1.2.1 + 8)) rfl rfl rfl) ?_
    refine p_val (r_assign (v := .int .i64 ((bits .or .i64 (shlI .i64 s1.1 8) ((y1).toNat : Int)))) rfl) ?_
    refine p_val (r_assign (v := .int .i64 ((w64 (s1.2.1 + 8)))) rfl) ?_
    refine wpList_nil ?_
    refine x_norm ?_; refine hK10 _ _ ?_; clear hK10
    refine wp_seq_k ?_; intro K11 hK11
    refine nameF fun m5 k6 => ?_
    obtain ⟨t3, hE4, hF3⟩ := bnd hE3
    have J1 : ∀ (v4 : Value) (cs4 rs4 : List Value) (a3 : Value) (S4 : Mem) (m8 : FM) (w6 : World), (∀ t, has [5, 22, 23, 24, 25, 26, 27, 28, 29, 30, 31, 32] t = false → look m8 t = look m5 t) → look m8 5 = .int .i64 (t3.1) → Mem.le S1 S4 → HS ⟨S, [], w⟩ S4 w6 [.osl (v4) (t3.2).length 1 cs4 rs4 5, .osl (sl b2 0 (x0).length c1) (x0).length 1 (u8s x0) rs1 5, .blk b1 (([a3] ++ ([v4]))) 46] → RL S4 cs4 t3.2 → BA b1 a3 → K11 (fr 49 m8) w6 := by
      clear H; intro v4 cs4 rs4 a3 S4 m8 w6 k10 q13 hle4 H g7 g8
      replace g1 := RL.mono g1 hle4
      have q14 : look m8 3 = .pointer (some ⟨b1, 0, none⟩) := (k10 3 rfl).trans ((k6 3).trans ((k5 3).trans q4))
      have q15 : look m8 9 = sl b2 0 (x0).length c1 := (k10 9 rfl).trans ((k6 9).trans ((k5 9).trans q5))
      have q16 : look m8 10 = .int .i64 (((x0).length : Int)) := (k10 10 rfl).trans ((k6 10).trans ((k5 10).trans q6))
      have q17 : look m8 4 = .int .i64 ((bits .or .i64 (shlI .i64 s1.1 8) ((y1).toNat : Int))) := (k10 4 rfl).trans (k6 4)
      have q18 : look m8 11 = .int .i64 (s1.2.2.1) := (k10 11 rfl).trans ((k6 11).trans ((k5 11).trans q3))
      refine hK11 _ _ ?_
      refine wp_region_lit ?_
      refine p_val (r_move (v := .int .i64 ((bits .or .i64 (shlI .i64 s1.1 8) ((y1).toNat : Int)))) q17) ?_
      refine p_val (r_move (v := .int .i64 (t3.1)) q13) ?_
      obtain ⟨y5, e5, hF3⟩ := bnd hF3
      refine p_val (r_shl (r := shlI .i64 1 t3.1) rfl rfl (Int.not_lt.2 (of_decide_eq_true (chk_some e5))) rfl) ?_
      refine p_val (r_sub (r := w64 ((shlI .i64 1 t3.1) - 1)) rfl rfl rfl) ?_
      refine p_val (r_bits (bo := .and) (by simp) (r := (bits .and .i64 (bits .or .i64 (shlI .i64 s1.1 8) ((y1).toNat : Int)) (w64 ((shlI .i64 1 t3.1) - 1)))) rfl rfl rfl) ?_
      refine p_val (r_assign (v := .int .i64 ((bits .and .i64 (bits .or .i64 (shlI .i64 s1.1 8) ((y1).toNat : Int)) (w64 ((shlI .i64 1 t3.1) - 1))))) rfl) ?_
      refine wpList_nil ?_
      refine b_norm ?_
      refine x_norm ?_
      replace H : HS ⟨S, [], w⟩ S4 w6 [.osl (v4) (t3.2).length 1 cs4 rs4 5, .osl (sl b2 0 (x0).length c1) (x0).length 1 (u8s x0) rs1 5, .blk b1 (([a3] ++ ([v4]))) 46] := H
      obtain rfl := Option.some.inj hF3
      exact J2 _ _ _ _ _ _ _ (by (repeat (refine keep_cons rfl ?_)); refine keep_sub k10 rfl ?_; (repeat (refine keep_cons rfl ?_)); refine keep_name k6 ?_; (repeat (refine keep_cons rfl ?_)); exact fun _ _ => rfl) rfl q13 hle4 H g7 g8
    refine wp_block ?_
    refine nameF fun m6 k7 => ?_
    obtain ⟨out2, hL2, hE5⟩ := bnd hE4
    replace H : HS ⟨S, [], w⟩ S1 w3 [.osl (v2) (s1.2.2.2).length 1 cs1 rs2 5, .osl (sl b2 0 (x0).length c1) (x0).length 1 (u8s x0) rs1 5, .blk b1 (([a1] ++ ([v2]))) 46] := H
    refine loopI [5, 22, 23, 24, 25, 26, 27, 28, 29, 30, 31, 32] (fun (s2 : Int × (List UInt8)) (m7 : FM) (w4 : World) => ∃ (S2 : Mem) (v3 : Value) (cs3 rs3 : List Value) (a2 : Value), look m7 5 = .int .i64 (s2.1) ∧ Mem.le S1 S2 ∧ HS ⟨S, [], w⟩ S2 w4 [.osl (v3) (s2.2).length 1 cs3 rs3 5, .osl (sl b2 0 (x0).length c1) (x0).length 1 (u8s x0) rs1 5, .blk b1 (([a2] ++ ([v3]))) 46] ∧ RL S2 cs3 s2.2 ∧ BA b1 a2) hL2 ⟨_, _, _, _, _, ((k7 5).trans (k6 5)), (Mem.le_refl _), H, g3, g2⟩ ?_
    clear H; intro k9 s2 m7 w4 k8 hI2 o5 hb2 hh2; obtain ⟨S2, v3, cs3, rs3, a2, q7, hle2, H, g5, g6⟩ := hI2
    replace g1 := RL.mono g1 hle2
    have q8 : look m7 3 = .pointer (some ⟨b1, 0, none⟩) := (k8 3 rfl).trans ((k7 3).trans ((k6 3).trans ((k5 3).trans q4)))
    have q9 : look m7 9 = sl b2 0 (x0).length c1 := (k8 9 rfl).trans ((k7 9).trans ((k6 9).trans ((k5 9).trans q5)))
    have q10 : look m7 10 = .int .i64 (((x0).length : Int)) := (k8 10 rfl).trans ((k7 10).trans ((k6 10).trans ((k5 10).trans q6)))
    have q11 : look m7 4 = .int .i64 ((bits .or .i64 (shlI .i64 s1.1 8) ((y1).toNat : Int))) := (k8 4 rfl).trans ((k7 4).trans (k6 4))
    have q12 : look m7 11 = .int .i64 (s1.2.2.1) := (k8 11 rfl).trans ((k7 11).trans ((k6 11).trans ((k5 11).trans q3)))
    unfold codec_Base64_b1 at hb2
    refine wp_seq_k ?_; intro K12 hK12
    refine wp_seq_k ?_; intro K13 hK13
    refine wp_region_lit ?_
    refine p_val (r_move (v := .int .i64 (s2.1)) q7) ?_
    refine p_val (r_geq (t := decide ((6 : Int) ≤ s2.1)) rfl rfl rfl) ?_
    refine wpList_nil ?_
    refine x_norm ?_; refine hK13 _ _ ?_; clear hK13
    refine c_split (t := decide ((6 : Int) ≤ s2.1)) rfl (fun hc2 => ?_) (fun hc2 => ?_)
    · replace hb2 := cnd_t hb2 hc2
      refine wp_skip ?_
      refine x_norm ?_; refine hK12 _ _ ?_; clear hK12
      refine wp_seq_k ?_; intro K14 hK14
      refine wp_block ?_
      refine wp_region_lit ?_
      refine p_val (r_move (v := .int .i64 ((bits .or .i64 (shlI .i64 s1.1 8) ((y1).toNat : Int)))) q11) ?_
      refine p_val (r_move (v := .int .i64 (s2.1)) q7) ?_
      refine p_val (r_sub (r := w64 (s2.1 - 6)) rfl rfl rfl) ?_
      obtain ⟨y2, e2, hb2⟩ := bnd hb2
      refine p_val (r_shr (r := shrI .i64 (bits .or .i64 (shlI .i64 s1.1 8) ((y1).toNat : Int)) (w64 (s2.1 - 6))) rfl rfl (Int.not_lt.2 (of_decide_eq_true (chk_some e2))) rfl) ?_
      refine p_val (r_bits (bo := .and) (by simp) (r := (bits .and .i64 (shrI .i64 (bits .or .i64 (shlI .i64 s1.1 8) ((y1).toNat : Int)) (w64 (s2.1 - 6))) 63)) rfl rfl rfl) ?_
      obtain ⟨y3, e3, hb2⟩ := bnd hb2
      refine p_val (r_idxT (i := ((bits .and .i64 (shrI .i64 (bits .or .i64 (shlI .i64 s1.1 8) ((y1).toNat : Int)) (w64 (s2.1 - 6))) 63) : Int).toNat) (u := y3) u9 rfl rfl (idx_some e3).1 (idx_some e3).2) ?_
      obtain ⟨y4, e4, hb2⟩ := bnd hb2
      refine p_call (l := [.pointer (some ⟨b1, 0, none⟩), .int .u8 (((y3).toNat : Int))]) is33 (args_cons q8 (args_cons rfl args_nil)) ?_
      refine (Builder_WriteByte_c (H.hand [2, 0] rfl) g5 g6 e4).mono ?_; rintro _ w5 ⟨S3, pv1, pcs1, prs1, pa1, rfl, H2, pg1, pg2⟩
      obtain ⟨H1, hle3⟩ := H.frame [2, 0] [1] rfl H2; clear H H2; have H := H1; clear H1
      replace g1 := RL.mono g1 hle3
      replace H : HS ⟨S, [], w⟩ S3 w5 [.blk b1 (([pa1] ++ ([pv1]))) 46, .osl (pv1) (y4).length 1 pcs1 prs1 5, .osl (sl b2 0 (x0).length c1) (x0).length 1 (u8s x0) rs1 5] := H
      refine wpList_nil ?_
      refine b_norm ?_
      refine x_norm ?_; refine hK14 _ _ ?_; clear hK14
      refine wp_region_lit ?_
      refine p_val (r_move (v := .int .i64 (s2.1)) q7) ?_
      refine p_val (r_sub (r := w64 (s2.1 - 6)) rfl rfl rfl) ?_
      refine p_val (r_assign (v := .int .i64 ((w64 (s2.1 - 6)))) rfl) ?_
      refine wpList_nil ?_
      refine x_norm ?_
      replace H := H.sel [1, 2, 0] rfl
      replace H : HS ⟨S, [], w⟩ S3 w5 [.osl (pv1) (y4).length 1 pcs1 prs1 5, .osl (sl b2 0 (x0).length c1) (x0).length 1 (u8s x0) rs1 5, .blk b1 (([pa1] ++ ([pv1]))) 46] := H
      obtain rfl := Option.some.inj hb2
      exact ⟨((w64 (s2.1 - 6)), y4), _, rfl, (by (repeat (refine keep_cons rfl ?_)); refine keep_sub k8 rfl ?_; (repeat (refine keep_cons rfl ?_)); exact fun _ _ => rfl), ⟨_, _, _, _, _, rfl, (Mem.le_trans hle2 hle3), H, pg1, pg2⟩, hh2⟩
    · replace hb2 := cnd_f hb2 hc2
      refine wp_exit ?_
      refine x_exit ?_
      refine x_exit ?_
      refine b_hit ?_
      refine x_norm ?_
      replace H : HS ⟨S, [], w⟩ S2 w4 [.osl (v3) (s2.2).length 1 cs3 rs3 5, .osl (sl b2 0 (x0).length c1) (x0).length 1 (u8s x0) rs1 5, .blk b1 (([a2] ++ ([v3]))) 46] := H
      obtain rfl := Option.some.inj hb2
      obtain rfl := Option.some.inj hh2
      obtain rfl := Option.some.inj hE5
      exact J1 _ _ _ _ _ _ _ (by (repeat (refine keep_cons rfl ?_)); refine keep_sub k8 rfl ?_; (repeat (refine keep_cons rfl ?_)); refine keep_name k7 ?_; (repeat (refine keep_cons rfl ?_)); exact fun _ _ => rfl) q7 hle2 H g5 g6
  · replace hb1 := cnd_f hb1 hc1
    refine wp_exit ?_
    refine x_exit ?_
    refine x_exit ?_
    refine b_hit ?_
    refine x_norm ?_
    replace H := H.sel [0, 2] rfl
    replace H : HS ⟨S, [], w⟩ S1 w3 [.osl (v2) (s1.2.2.2).length 1 cs1 rs2 5, .blk b1 (([a1] ++ ([v2]))) 46] := H
    obtain rfl := Option.some.inj hb1
    obtain rfl := Option.some.inj hh1
    obtain rfl := Option.some.inj hE2
    exact J4 _ _ _ _ _ _ _ (by (repeat (refine keep_cons rfl ?_)); refine keep_sub k3 rfl ?_; (repeat (refine keep_cons rfl ?_)); refine keep_name k2 ?_; (repeat (refine keep_cons rfl ?_)); exact fun _ _ => rfl) q1 q2 hle1 H g2 g3
def codec_percent_b0 (x0 : List UInt8) (x1 : List UInt8) (s1 : Int × (List UInt8)) : Option ((Int × (List UInt8)) ⊕ ((List UInt8))) :=
  bif decide (s1.1 < ((x0).length : Int)) then (Option.bind (Option.bind (idx x0 s1.1) fun y1 => Option.bind (bif (bif (bif (bif decide ((65 : Int) ≤ ((y1).toNat : Int)) then decide (((y1).toNat : Int) ≤ 90) else false) then true else (bif decide ((97 : Int) ≤ ((y1).toNat : Int)) then decide (((y1).toNat : Int) ≤ 122) else false)) then true else (bif decide ((48 : Int) ≤ ((y1).toNat : Int)) then decide (((y1).toNat : Int) ≤ 57) else false)) then (some (true)) else (Option.bind (codec_index_p ([45, 46, 95, 126] : List UInt8) y1) fun y2 => some (decide ((0 : Int) ≤ y2)))) (fun t3 => bif t3 then (Option.bind (Builder_WriteByte_p s1.2 y1) fun y3 => some (y3)) else (bif (((y1).toNat : Int) == 32) then (Option.bind (Builder_WriteString_p s1.2 x1) fun y4 => some (y4.2)) else (Option.bind (sub3 ([48, 49, 50, 51, 52, 53, 54, 55, 56, 57, 65, 66, 67, 68, 69, 70] : List UInt8) (((i8 (shrI .u8 ((y1).toNat : Int) 4))).toNat : Int) (((i8 ((((i8 (shrI .u8 ((y1).toNat : Int) 4))).toNat : Int) + 1))).toNat : Int)) fun y5 => Option.bind (app ([37] : List UInt8) y5) fun y6 => Option.bind (sub3 ([48, 49, 50, 51, 52, 53, 54, 55, 56, 57, 65, 66, 67, 68, 69, 70] : List UInt8) (((y1 &&& (15 : UInt8))).toNat : Int) (((i8 ((((y1 &&& (15 : UInt8))).toNat : Int) + 1))).toNat : Int)) fun y7 => Option.bind (app y6 y7) fun y8 => Option.bind (Builder_WriteString_p s1.2 y8) fun y9 => some (y9.2))))) (fun t2 => some (.inl (((w64 (s1.1 + 1)), t2))))) else (some (.inr (s1.2)))
def codec_percent_p (x0 : List UInt8) (x1 : List UInt8) : Option ((List UInt8)) :=
  Option.bind (Option.bind (iter (codec_percent_b0 x0 x1) ((0, ([] : List UInt8)))) (fun e => some (e))) (fun t1 => Option.bind (chk (decide ((t1).length ≤ 68719476736))) fun y10 => some (t1))
theorem codec_percent_c {S : Mem} {w : World} (hS : Sub S w) {x0 : List UInt8} {x1 : List UInt8} {r : (List UInt8)} (hF : codec_percent_p x0 x1 = some r) :
    Calls Tryd.prog 40 #[str (x0), str (x1)] w fun e w' => e = .returned (str (r)) ∧ Ext w w' := by
  refine enter (n := 67) Tryd.func40 rfl rfl rfl ?_
  have H := HS.start hS
  unfold codec_percent_p at hF
  refine wp_seq_k ?_; intro K1 hK1
  refine wp_region_lit ?_
  refine p_val (r_assign (v := str (([] : List UInt8))) rfl) ?_
  refine wpList_nil ?_
  refine x_norm ?_; refine hK1 _ _ ?_; clear hK1
  refine wp_seq_k ?_; intro K2 hK2
  refine wp_region_lit ?_
  refine p_ofb (a_alloc (l := ([Value.pointer none] ++ ([Value.slice none 0 0]))) H tz46 rfl) ?_; clear H; intro w1 b1 H
  replace H : HS ⟨S, [], w⟩ S w1 [.blk b1 (([Value.pointer none] ++ ([Value.slice none 0 0]))) 46] := H
  refine wpList_nil ?_
  refine x_norm ?_; refine hK2 _ _ ?_; clear hK2
  refine wp_seq_k ?_; intro K3 hK3
  refine nameF fun m1 k1 => ?_
  obtain ⟨t1, hE1, hF1⟩ := bnd hF
  have J6 : ∀ (a3 : Value) (v4 : Value) (cs4 rs4 : List Value) (S6 : Mem) (m14 : FM) (w11 : World), (∀ t, has [7, 8, 9, 10, 11, 12, 13, 14, 15, 16, 17, 18, 19, 20, 21, 22, 23, 24, 25, 26, 27, 28, 29, 30, 31, 32, 33, 34, 35, 36, 37, 38, 39, 40, 41, 42, 43, 44, 45, 46, 47, 48, 49, 50, 51, 52, 53, 54, 55, 56, 57, 58, 59, 60, 61, 62, 63, 64, 65] t = false → look m14 t = look m1 t) → Mem.le S S6 → HS ⟨S, [], w⟩ S6 w11 [.osl (v4) (t1).length 1 cs4 rs4 5, .blk b1 (([a3] ++ ([v4]))) 46] → BA b1 a3 → RL S6 cs4 t1 → K3 (fr 67 m14) w11 := by
    clear H; intro a3 v4 cs4 rs4 S6 m14 w11 k15 hle6 H g7 g8
    have q39 : look m14 5 = .pointer (some ⟨b1, 0, none⟩) := (k15 5 rfl).trans (k1 5)
    refine hK3 _ _ ?_
    refine wp_seq_k ?_; intro K15 hK15
    refine wp_region_lit ?_
    obtain ⟨y10, e10, hF1⟩ := bnd hF1
    refine p_call (l := [.pointer (some ⟨b1, 0, none⟩)]) is34 (args_cons q39 args_nil) ?_
    refine (Builder_String_c (k1 := 1) (k2 := 0) H rfl rfl g8 (Nat.le_trans (of_decide_eq_true (chk_some e10)) (by decide))).mono ?_; clear H; rintro _ w12 ⟨rfl, H⟩
    replace H : HS ⟨S, [], w⟩ S6 w12 [.blk b1 (([a3] ++ ([v4]))) 46] := H
    refine p_val (r_assign (v := str (t1)) rfl) ?_
    refine wpList_nil ?_
    refine x_norm ?_; refine hK15 _ _ ?_; clear hK15
    refine wp_ret ?_
    obtain rfl := Option.some.inj hF1
    refine e_1 rfl (q_tmp (v := str (t1)) rfl) ?_
    exact ⟨rfl, H.toExt⟩
  refine wp_seq_k ?_; intro K4 hK4
  refine wp_region_lit ?_
  refine p_val (r_move (v := str (x0)) (k1 0)) ?_
  refine p_of1 (a_bytes (l := x0) u9 u40 u5 H rfl) ?_; clear H; rintro w2 v1 ⟨rs1, H⟩
  have g1 : RL S (u8s x0) x0 := RL.of_u8s _
  replace H : HS ⟨S, [], w⟩ S w2 [.osl (v1) (x0).length 1 (u8s x0) rs1 5, .blk b1 (([Value.pointer none] ++ ([Value.slice none 0 0]))) 46] := H
  refine p_val (r_lenO u40 rfl H (k := 0) rfl rfl) ?_
  refine p_val (r_move (v := .int .i64 (0)) rfl) ?_
  refine wpList_nil ?_
  refine x_norm ?_; refine hK4 _ _ ?_; clear hK4
  refine wp_block ?_
  refine nameF fun m2 k2 => ?_
  obtain ⟨out1, hL1, hE2⟩ := bnd hE1
  replace H := H.nilOwn 1 5; have g4 : RL S [] ([] : List UInt8) := RL.nil
  replace H : HS ⟨S, [], w⟩ S w2 [.osl (.slice none 0 0) (([] : List UInt8)).length 1 [] [] 5, .osl (v1) (x0).length 1 (u8s x0) rs1 5, .blk b1 (([Value.pointer none] ++ ([Value.slice none 0 0]))) 46] := H
  refine loopI [7, 11, 12, 13, 14, 15, 16, 17, 18, 19, 20, 21, 22, 23, 24, 25, 26, 27, 28, 29, 30, 31, 32, 33, 34, 35, 36, 37, 38, 39, 40, 41, 42, 43, 44, 45, 46, 47, 48, 49, 50, 51, 52, 53, 54, 55, 56, 57, 58, 59, 60, 61, 62, 63, 64, 65] (fun (s1 : Int × (List UInt8)) (m3 : FM) (w3 : World) => ∃ (S1 : Mem) (a1 : Value) (v2 : Value) (cs1 rs2 : List Value), look m3 11 = .int .i64 (s1.1) ∧ Mem.le S S1 ∧ HS ⟨S, [], w⟩ S1 w3 [.osl (v2) (s1.2).length 1 cs1 rs2 5, .osl (v1) (x0).length 1 (u8s x0) rs1 5, .blk b1 (([a1] ++ ([v2]))) 46] ∧ BA b1 a1 ∧ RL S1 cs1 s1.2) hL1 ⟨_, _, _, _, _, (k2 11), (Mem.le_refl _), H, (Or.inl rfl), g4⟩ ?_
  clear H; intro k4 s1 m3 w3 k3 hI1 o2 hb1 hh1; obtain ⟨S1, a1, v2, cs1, rs2, q1, hle1, H, g2, g3⟩ := hI1
  replace g1 := RL.mono g1 hle1
  have q2 : look m3 1 = str (x1) := (k3 1 rfl).trans ((k2 1).trans (k1 1))
  have q3 : look m3 5 = .pointer (some ⟨b1, 0, none⟩) := (k3 5 rfl).trans ((k2 5).trans (k1 5))
  have q4 : look m3 9 = v1 := (k3 9 rfl).trans (k2 9)
  have q5 : look m3 10 = .int .i64 (((x0).length : Int)) := (k3 10 rfl).trans (k2 10)
  unfold codec_percent_b0 at hb1
  refine wp_seq_k ?_; intro K5 hK5
  refine wp_region_lit ?_
  refine p_val (r_lss (t := decide (s1.1 < ((x0).length : Int))) q1 q5 rfl) ?_
  refine wpList_nil ?_
  refine x_norm ?_; refine hK5 _ _ ?_; clear hK5
  refine wp_seq_k ?_; intro K6 hK6
  refine c_split (t := decide (s1.1 < ((x0).length : Int))) rfl (fun hc1 => ?_) (fun hc1 => ?_)
  · replace hb1 := cnd_t hb1 hc1
    refine wp_skip ?_
    refine x_norm ?_; refine hK6 _ _ ?_; clear hK6
    refine wp_seq_k ?_; intro K7 hK7
    refine nameF fun m4 k5 => ?_
    obtain ⟨t2, hE3, hF2⟩ := bnd hb1
    have J5 : ∀ (v3 : Value) (cs3 rs3 : List Value) (a2 : Value) (S5 : Mem) (m13 : FM) (w10 : World), (∀ t, has [7, 13, 14, 15, 16, 17, 18, 19, 20, 21, 22, 23, 24, 25, 26, 27, 28, 29, 30, 31, 32, 33, 34, 35, 36, 37, 38, 39, 40, 41, 42, 43, 44, 45, 46, 47, 48, 49, 50, 51, 52, 53, 54, 55, 56, 57, 58, 59, 60, 61, 62, 63, 64] t = false → look m13 t = look m4 t) → Mem.le S1 S5 → HS ⟨S, [], w⟩ S5 w10 [.osl (v3) (t2).length 1 cs3 rs3 5, .osl (v1) (x0).length 1 (u8s x0) rs1 5, .blk b1 (([a2] ++ ([v3]))) 46] → RL S5 cs3 t2 → BA b1 a2 → K7 (fr 67 m13) w10 := by
      clear H; intro v3 cs3 rs3 a2 S5 m13 w10 k14 hle5 H g5 g6
      replace g1 := RL.mono g1 hle5
      have q34 : look m13 1 = str (x1) := (k14 1 rfl).trans ((k5 1).trans q2)
      have q35 : look m13 5 = .pointer (some ⟨b1, 0, none⟩) := (k14 5 rfl).trans ((k5 5).trans q3)
      have q36 : look m13 9 = v1 := (k14 9 rfl).trans ((k5 9).trans q4)
      have q37 : look m13 10 = .int .i64 (((x0).length : Int)) := (k14 10 rfl).trans ((k5 10).trans q5)
      have q38 : look m13 11 = .int .i64 (s1.1) := (k14 11 rfl).trans ((k5 11).trans q1)
      refine hK7 _ _ ?_
      refine wp_region_lit ?_
      refine p_val (r_add (r := w64 (s1.1 + 1)) q38 rfl rfl) ?_
      refine p_val (r_move (v := .int .i64 ((w64 (s1.1 + 1)))) rfl) ?_
      refine wpList_nil ?_
      refine x_norm ?_
      replace H : HS ⟨S, [], w⟩ S5 w10 [.osl (v3) (t2).length 1 cs3 rs3 5, .osl (v1) (x0).length 1 (u8s x0) rs1 5, .blk b1 (([a2] ++ ([v3]))) 46] := H
      obtain rfl := Option.some.inj hF2
      exact ⟨((w64 (s1.1 + 1)), t2), _, rfl, (by (repeat (refine keep_cons rfl ?_)); refine keep_sub k14 rfl ?_; (repeat (refine keep_cons rfl ?_)); refine keep_name k5 ?_; (repeat (refine keep_cons rfl ?_)); refine keep_sub k3 rfl ?_; (repeat (refine keep_cons rfl ?_)); exact fun _ _ => rfl), ⟨_, _, _, _, _, rfl, (Mem.le_trans hle1 hle5), H, g6, g5⟩, hh1⟩
    refine wp_block ?_
    refine wp_seq_k ?_; intro K8 hK8
    refine wp_region_lit ?_
    obtain ⟨y1, e1, hE3⟩ := bnd hE3
    obtain ⟨b2, c1, hv1⟩ := H.ownAt (k := 1) rfl (idx_lt e1)
    refine p_val (r_addrV (i := (s1.1 : Int).toNat) u40 tsz5 ((k5 9).trans q4) hv1 ((k5 11).trans q1) (idx_some e1).1 (idx_lt e1)) ?_
    subst hv1
    have hr1 := RL.get g1 (idx_some e1).2; generalize hghr1 : piece (u8s x0) _ _ = cs2 at hr1
    obtain rfl := elU8 hr1
    refine p_val (o_load1 (v := .int .u8 (((y1).toNat : Int))) to5 H (k := 1) rfl rfl (idx_lt e1) hghr1) ?_
    refine p_val (r_assign (v := .int .u8 (((y1).toNat : Int))) rfl) ?_
    refine wpList_nil ?_
    refine x_norm ?_; refine hK8 _ _ ?_; clear hK8
    refine wp_block ?_
    refine wp_seq_k ?_; intro K9 hK9
    refine wp_region_lit ?_
    refine p_val (r_move (v := .int .u8 (((y1).toNat : Int))) rfl) ?_
    refine p_val (r_geq (t := decide ((65 : Int) ≤ ((y1).toNat : Int))) rfl rfl rfl) ?_
    refine p_val (r_move (v := .bool (decide ((65 : Int) ≤ ((y1).toNat : Int)))) rfl) ?_
    refine nameL fun m5 k6 => ?_
    refine gs_at 3 fun K10 hK10 R5 hR5 => ?_
    have J1 : ∀ (m6 : FM), (∀ t, has [34, 35, 36] t = false → look m6 t = look m5 t) → look m6 36 = .bool ((bif decide ((65 : Int) ≤ ((y1).toNat : Int)) then decide (((y1).toNat : Int) ≤ 90) else false)) → K10 m6 w3 := by
      intro m6 k7 q6
      have q7 : look m6 1 = str (x1) := (k7 1 rfl).trans ((k6 1).trans ((k5 1).trans q2))
      have q8 : look m6 5 = .pointer (some ⟨b1, 0, none⟩) := (k7 5 rfl).trans ((k6 5).trans ((k5 5).trans q3))
      have q9 : look m6 9 = sl b2 0 (x0).length c1 := (k7 9 rfl).trans ((k6 9).trans ((k5 9).trans q4))
      have q10 : look m6 10 = .int .i64 (((x0).length : Int)) := (k7 10 rfl).trans ((k6 10).trans ((k5 10).trans q5))
      have q11 : look m6 11 = .int .i64 (s1.1) := (k7 11 rfl).trans ((k6 11).trans ((k5 11).trans q1))
      have q12 : look m6 7 = .int .u8 (((y1).toNat : Int)) := (k7 7 rfl).trans (k6 7)
      refine hK10 _ _ ?_; clear hK10 hR5
      refine p_val (r_move (v := .bool ((bif decide ((65 : Int) ≤ ((y1).toNat : Int)) then decide (((y1).toNat : Int) ≤ 90) else false))) q6) ?_
      refine nameL fun m7 k8 => ?_
      refine gs_at 7 fun K11 hK11 R6 hR6 => ?_
      have J2 : ∀ (m8 : FM), (∀ t, has [38, 39, 40, 41, 42, 43, 44] t = false → look m8 t = look m7 t) → look m8 44 = .bool ((bif (bif decide ((65 : Int) ≤ ((y1).toNat : Int)) then decide (((y1).toNat : Int) ≤ 90) else false) then true else (bif decide ((97 : Int) ≤ ((y1).toNat : Int)) then decide (((y1).toNat : Int) ≤ 122) else false))) → K11 m8 w3 := by
        intro m8 k9 q13
        have q14 : look m8 1 = str (x1) := (k9 1 rfl).trans ((k8 1).trans q7)
        have q15 : look m8 5 = .pointer (some ⟨b1, 0, none⟩) := (k9 5 rfl).trans ((k8 5).trans q8)
        have q16 : look m8 9 = sl b2 0 (x0).length c1 := (k9 9 rfl).trans ((k8 9).trans q9)
        have q17 : look m8 10 = .int .i64 (((x0).length : Int)) := (k9 10 rfl).trans ((k8 10).trans q10)
        have q18 : look m8 11 = .int .i64 (s1.1) := (k9 11 rfl).trans ((k8 11).trans q11)
        have q19 : look m8 7 = .int .u8 (((y1).toNat : Int)) := (k9 7 rfl).trans ((k8 7).trans q12)
        refine hK11 _ _ ?_; clear hK11 hR6
        refine p_val (r_move (v := .bool ((bif (bif decide ((65 : Int) ≤ ((y1).toNat : Int)) then decide (((y1).toNat : Int) ≤ 90) else false) then true else (bif decide ((97 : Int) ≤ ((y1).toNat : Int)) then decide (((y1).toNat : Int) ≤ 122) else false)))) q13) ?_
        refine nameL fun m9 k10 => ?_
        refine gs_at 7 fun K12 hK12 R7 hR7 => ?_
        have J3 : ∀ (m10 : FM), (∀ t, has [46, 47, 48, 49, 50, 51, 52] t = false → look m10 t = look m9 t) → look m10 52 = .bool ((bif (bif (bif decide ((65 : Int) ≤ ((y1).toNat : Int)) then decide (((y1).toNat : Int) ≤ 90) else false) then true else (bif decide ((97 : Int) ≤ ((y1).toNat : Int)) then decide (((y1).toNat : Int) ≤ 122) else false)) then true else (bif decide ((48 : Int) ≤ ((y1).toNat : Int)) then decide (((y1).toNat : Int) ≤ 57) else false))) → K12 m10 w3 := by
          intro m10 k11 q20
          have q21 : look m10 1 = str (x1) := (k11 1 rfl).trans ((k10 1).trans q14)
          have q22 : look m10 5 = .pointer (some ⟨b1, 0, none⟩) := (k11 5 rfl).trans ((k10 5).trans q15)
          have q23 : look m10 9 = sl b2 0 (x0).length c1 := (k11 9 rfl).trans ((k10 9).trans q16)
          have q24 : look m10 10 = .int .i64 (((x0).length : Int)) := (k11 10 rfl).trans ((k10 10).trans q17)
          have q25 : look m10 11 = .int .i64 (s1.1) := (k11 11 rfl).trans ((k10 11).trans q18)
          have q26 : look m10 7 = .int .u8 (((y1).toNat : Int)) := (k11 7 rfl).trans ((k10 7).trans q19)
          refine hK12 _ _ ?_; clear hK12 hR7
          refine p_val (r_move (v := .bool ((bif (bif (bif decide ((65 : Int) ≤ ((y1).toNat : Int)) then decide (((y1).toNat : Int) ≤ 90) else false) then true else (bif decide ((97 : Int) ≤ ((y1).toNat : Int)) then decide (((y1).toNat : Int) ≤ 122) else false)) then true else (bif decide ((48 : Int) ≤ ((y1).toNat : Int)) then decide (((y1).toNat : Int) ≤ 57) else false)))) q20) ?_
          refine nameL fun m11 k12 => ?_
          refine gs_at 4 fun K13 hK13 R8 hR8 => ?_
          obtain ⟨t3, hE4, hF3⟩ := bnd hE3
          have J4 : ∀ (m12 : FM) (w5 : World), (∀ t, has [54, 55, 56, 57] t = false → look m12 t = look m11 t) → look m12 57 = .bool (t3) → HS ⟨S, [], w⟩ S1 w5 [.osl (v2) (s1.2).length 1 cs1 rs2 5, .osl (sl b2 0 (x0).length c1) (x0).length 1 (u8s x0) rs1 5, .blk b1 (([a1] ++ ([v2]))) 46] → K13 m12 w5 := by
            clear H; intro m12 w5 k13 q27 H
            have q28 : look m12 1 = str (x1) := (k13 1 rfl).trans ((k12 1).trans q21)
            have q29 : look m12 5 = .pointer (some ⟨b1, 0, none⟩) := (k13 5 rfl).trans ((k12 5).trans q22)
            have q30 : look m12 9 = sl b2 0 (x0).length c1 := (k13 9 rfl).trans ((k12 9).trans q23)
            have q31 : look m12 10 = .int .i64 (((x0).length : Int)) := (k13 10 rfl).trans ((k12 10).trans q24)
            have q32 : look m12 11 = .int .i64 (s1.1) := (k13 11 rfl).trans ((k12 11).trans q25)
            have q33 : look m12 7 = .int .u8 (((y1).toNat : Int)) := (k13 7 rfl).trans ((k12 7).trans q26)
            refine hK13 _ _ ?_
            refine p_val (r_assign (v := .bool (t3)) q27) ?_
            refine wpList_nil ?_
            refine x_norm ?_; refine hK9 _ _ ?_; clear hK9
            refine c_split (t := t3) rfl (fun hc2 => ?_) (fun hc2 => ?_)
            · replace hF3 := cnd_t hF3 hc2
              refine wp_region_lit ?_
              refine p_val (r_move (v := .int .u8 (((y1).toNat : Int))) q33) ?_
              obtain ⟨y3, e3, hF3⟩ := bnd hF3
              refine p_call (l := [.pointer (some ⟨b1, 0, none⟩), .int .u8 (((y1).toNat : Int))]) is33 (args_cons q29 (args_cons rfl args_nil)) ?_
              refine (Builder_WriteByte_c (H.hand [2, 0] rfl) g3 g2 e3).mono ?_; rintro _ w6 ⟨S2, pv1, pcs1, prs1, pa1, rfl, H2, pg1, pg2⟩
              obtain ⟨H1, hle2⟩ := H.frame [2, 0] [1] rfl H2; clear H H2; have H := H1; clear H1
              replace g1 := RL.mono g1 hle2
              replace H : HS ⟨S, [], w⟩ S2 w6 [.blk b1 (([pa1] ++ ([pv1]))) 46, .osl (pv1) (y3).length 1 pcs1 prs1 5, .osl (sl b2 0 (x0).length c1) (x0).length 1 (u8s x0) rs1 5] := H
              refine wpList_nil ?_
              refine b_norm ?_
              refine b_norm ?_
              refine x_norm ?_
              replace H := H.sel [1, 2, 0] rfl
              replace H : HS ⟨S, [], w⟩ S2 w6 [.osl (pv1) (y3).length 1 pcs1 prs1 5, .osl (sl b2 0 (x0).length c1) (x0).length 1 (u8s x0) rs1 5, .blk b1 (([pa1] ++ ([pv1]))) 46] := H
              obtain rfl := Option.some.inj hF3
              exact J5 _ _ _ _ _ _ _ (by (repeat (refine keep_cons rfl ?_)); refine keep_sub k13 rfl ?_; (repeat (refine keep_cons rfl ?_)); refine keep_name k12 ?_; (repeat (refine keep_cons rfl ?_)); refine keep_sub k11 rfl ?_; (repeat (refine keep_cons rfl ?_)); refine keep_name k10 ?_; (repeat (refine keep_cons rfl ?_)); refine keep_sub k9 rfl ?_; (repeat (refine keep_cons rfl ?_)); refine keep_name k8 ?_; (repeat (refine keep_cons rfl ?_)); refine keep_sub k7 rfl ?_; (repeat (refine keep_cons rfl ?_)); refine keep_name k6 ?_; (repeat (refine keep_cons rfl ?_)); exact fun _ _ => rfl) hle2 H pg1 pg2
            · replace hF3 := cnd_f hF3 hc2
              refine wp_seq_k ?_; intro K14 hK14
              refine wp_region_lit ?_
              refine p_val (r_move (v := .int .u8 (((y1).toNat : Int))) q33) ?_
              refine p_val (r_eql (t := (((y1).toNat : Int) == 32)) rfl rfl rfl) ?_
              refine p_val (r_assign (v := .bool ((((y1).toNat : Int) == 32))) rfl) ?_
              refine wpList_nil ?_
              refine x_norm ?_; refine hK14 _ _ ?_; clear hK14
              refine c_split (t := (((y1).toNat : Int) == 32)) rfl (fun hc3 => ?_) (fun hc3 => ?_)
              · replace hF3 := cnd_t hF3 hc3
                refine wp_region_lit ?_
                refine p_val (r_move (v := str (x1)) q28) ?_
                obtain ⟨y4, e4, hF3⟩ := bnd hF3
                refine p_call (l := [.pointer (some ⟨b1, 0, none⟩), str (x1)]) is38 (args_cons q29 (args_cons rfl args_nil)) ?_
                refine (Builder_WriteString_c (H.hand [2, 0] rfl) g3 g2 e4).mono ?_; rintro _ w7 ⟨S3, pv2, pcs2, prs2, pa2, rfl, H2, pg3, pg4⟩
                obtain ⟨H1, hle3⟩ := H.frame [2, 0] [1] rfl H2; clear H H2; have H := H1; clear H1
                replace g1 := RL.mono g1 hle3
                replace H : HS ⟨S, [], w⟩ S3 w7 [.blk b1 (([pa2] ++ ([pv2]))) 46, .osl (pv2) (y4.2).length 1 pcs2 prs2 5, .osl (sl b2 0 (x0).length c1) (x0).length 1 (u8s x0) rs1 5] := H
                refine wpList_nil ?_
                refine b_norm ?_
                refine b_norm ?_
                refine x_norm ?_
                replace H := H.sel [1, 2, 0] rfl
                replace H : HS ⟨S, [], w⟩ S3 w7 [.osl (pv2) (y4.2).length 1 pcs2 prs2 5, .osl (sl b2 0 (x0).length c1) (x0).length 1 (u8s x0) rs1 5, .blk b1 (([pa2] ++ ([pv2]))) 46] := H
                obtain rfl := Option.some.inj hF3
                exact J5 _ _ _ _ _ _ _ (by (repeat (refine keep_cons rfl ?_)); refine keep_sub k13 rfl ?_; (repeat (refine keep_cons rfl ?_)); refine keep_name k12 ?_; (repeat (refine keep_cons rfl ?_)); refine keep_sub k11 rfl ?_; (repeat (refine keep_cons rfl ?_)); refine keep_name k10 ?_; (repeat (refine keep_cons rfl ?_)); refine keep_sub k9 rfl ?_; (repeat (refine keep_cons rfl ?_)); refine keep_name k8 ?_; (repeat (refine keep_cons rfl ?_)); refine keep_sub k7 rfl ?_; (repeat (refine keep_cons rfl ?_)); refine keep_name k6 ?_; (repeat (refine keep_cons rfl ?_)); exact fun _ _ => rfl) hle3 H pg3 pg4
              · replace hF3 := cnd_f hF3 hc3
                obtain ⟨y5, e5, hF3⟩ := bnd hF3
                obtain ⟨y6, e6, hF3⟩ := bnd hF3
                obtain ⟨y7, e7, hF3⟩ := bnd hF3
                obtain ⟨y8, e8, hF3⟩ := bnd hF3
                apply wp_region_ext 14 (kinds []) rfl rfl (by kernel_rfl); intro vs1
                simp only [List.take_succ_cons, List.take_zero, List.drop_succ_cons, List.drop_zero]
                replace H := H.drew
                refine t_val (fun w hx => r_move (v := .int .u8 (((y1).toNat : Int))) q33) rfl rfl ?_
                refine t_val (fun w hx => r_shr (r := (((i8 (shrI .u8 ((y1).toNat : Int) 4))).toNat : Int)) rfl rfl (by decide) (i8_shr _ _)) rfl rfl ?_
                refine t_val (fun w hx => r_move (v := .int .u8 (((y1).toNat : Int))) q33) rfl rfl ?_
                refine t_val (fun w hx => r_shr (r := (((i8 (shrI .u8 ((y1).toNat : Int) 4))).toNat : Int)) rfl rfl (by decide) (i8_shr _ _)) rfl rfl ?_
                refine t_val (fun w hx => r_add (r := (((i8 ((((i8 (shrI .u8 ((y1).toNat : Int) 4))).toNat : Int) + 1))).toNat : Int)) rfl rfl (i8_wrap _)) rfl rfl ?_
                refine t_val (fun w hx => r_sliceT (p := ((((i8 (shrI .u8 ((y1).toNat : Int) 4))).toNat : Int) : Int).toNat) (h := ((((i8 ((((i8 (shrI .u8 ((y1).toNat : Int) 4))).toNat : Int) + 1))).toNat : Int) : Int).toNat) (r := y5) u9 rfl rfl rfl (sub3_some e5).1 (sub3_some e5).2.1 (sub3_some e5).2.2.1 (sub3_some e5).2.2.2.1 (sub3_some e5).2.2.2.2) rfl rfl ?_
                refine t_val (fun w hx => r_cat (r := y6) rfl rfl (by have := (app_some e6).1; omega) (app_some e6).2) rfl rfl ?_
                refine t_val (fun w hx => r_move (v := .int .u8 (((y1).toNat : Int))) q33) rfl rfl ?_
                refine t_val (fun w hx => r_bits (bo := .and) (by simp) (r := (((y1 &&& (15 : UInt8))).toNat : Int)) rfl rfl (i8_and y1 (15 : UInt8))) rfl rfl ?_
                refine t_val (fun w hx => r_move (v := .int .u8 (((y1).toNat : Int))) q33) rfl rfl ?_
                refine t_val (fun w hx => r_bits (bo := .and) (by simp) (r := (((y1 &&& (15 : UInt8))).toNat : Int)) rfl rfl (i8_and y1 (15 : UInt8))) rfl rfl ?_
                refine t_val (fun w hx => r_add (r := (((i8 ((((y1 &&& (15 : UInt8))).toNat : Int) + 1))).toNat : Int)) rfl rfl (i8_wrap _)) rfl rfl ?_
                refine t_val (fun w hx => r_sliceT (p := ((((y1 &&& (15 : UInt8))).toNat : Int) : Int).toNat) (h := ((((i8 ((((y1 &&& (15 : UInt8))).toNat : Int) + 1))).toNat : Int) : Int).toNat) (r := y7) u9 rfl rfl rfl (sub3_some e7).1 (sub3_some e7).2.1 (sub3_some e7).2.2.1 (sub3_some e7).2.2.2.1 (sub3_some e7).2.2.2.2) rfl rfl ?_
                refine t_val (fun w hx => r_cat (r := y8) rfl rfl (by have := (app_some e8).1; omega) (app_some e8).2) rfl rfl ?_
                refine t_nil (fun w8 hx hF hA => ?_)
                replace H := H.ext hx; clear hx hF hA
                obtain ⟨y9, e9, hF3⟩ := bnd hF3
                refine p_call (l := [.pointer (some ⟨b1, 0, none⟩), str (y8)]) is38 (args_cons q29 (args_cons rfl args_nil)) ?_
                refine (Builder_WriteString_c (H.hand [2, 0] rfl) g3 g2 e9).mono ?_; rintro _ w9 ⟨S4, pv3, pcs3, prs3, pa3, rfl, H2, pg5, pg6⟩
                obtain ⟨H1, hle4⟩ := H.frame [2, 0] [1] rfl H2; clear H H2; have H := H1; clear H1
                replace g1 := RL.mono g1 hle4
                replace H : HS ⟨S, [], w⟩ S4 w9 [.blk b1 (([pa3] ++ ([pv3]))) 46, .osl (pv3) (y9.2).length 1 pcs3 prs3 5, .osl (sl b2 0 (x0).length c1) (x0).length 1 (u8s x0) rs1 5] := H
                refine wpList_nil ?_; refine on_norm ?_
                refine b_norm ?_
                refine b_norm ?_
                refine x_norm ?_
                replace H := H.sel [1, 2, 0] rfl
                replace H : HS ⟨S, [], w⟩ S4 w9 [.osl (pv3) (y9.2).length 1 pcs3 prs3 5, .osl (sl b2 0 (x0).length c1) (x0).length 1 (u8s x0) rs1 5, .blk b1 (([pa3] ++ ([pv3]))) 46] := H
                obtain rfl := Option.some.inj hF3
                exact J5 _ _ _ _ _ _ _ (by (repeat (refine keep_cons rfl ?_)); refine keep_sub k13 rfl ?_; (repeat (refine keep_cons rfl ?_)); refine keep_name k12 ?_; (repeat (refine keep_cons rfl ?_)); refine keep_sub k11 rfl ?_; (repeat (refine keep_cons rfl ?_)); refine keep_name k10 ?_; (repeat (refine keep_cons rfl ?_)); refine keep_sub k9 rfl ?_; (repeat (refine keep_cons rfl ?_)); refine keep_name k8 ?_; (repeat (refine keep_cons rfl ?_)); refine keep_sub k7 rfl ?_; (repeat (refine keep_cons rfl ?_)); refine keep_name k6 ?_; (repeat (refine keep_cons rfl ?_)); exact fun _ _ => rfl) hle4 H pg5 pg6
          refine p_gs (j := 22) (gvl_at rfl rfl (k12 53)) (fun hb2 => ?_) (fun hb2 => ?_)
          · replace hE4 := cnd_t hE4 hb2
            refine p_skip (gvl_at rfl rfl (k12 53)) hb2 ?_
            rw [put_fr]
            refine p_skip (gvl_at rfl rfl (k12 53)) hb2 ?_
            rw [put_fr]
            refine p_skip (gvl_at rfl rfl (k12 53)) hb2 ?_
            rw [put_fr]
            refine p_val (r_pickt (v := .bool (true)) (k12 53) hb2 rfl) ?_
            refine hR8 _ _ ?_
            replace H : HS ⟨S, [], w⟩ S1 w3 [.osl (v2) (s1.2).length 1 cs1 rs2 5, .osl (sl b2 0 (x0).length c1) (x0).length 1 (u8s x0) rs1 5, .blk b1 (([a1] ++ ([v2]))) 46] := H
            obtain rfl := Option.some.inj hE4
            exact J4 _ _ (by (repeat (refine keep_cons rfl ?_)); exact fun _ _ => rfl) rfl H
          · replace hE4 := cnd_f hE4 hb2
            refine p_want (gvl_at rfl rfl (k12 53)) hb2 ?_
            refine p_val (r_move (v := .int .u8 (((y1).toNat : Int))) ((k12 7).trans q26)) ?_
            refine p_want (gvl_at rfl rfl (k12 53)) hb2 ?_
            obtain ⟨y2, e2, hE4⟩ := bnd hE4
            refine p_call (l := [str (([45, 46, 95, 126] : List UInt8)), .int .u8 (((y1).toNat : Int))]) is35 rfl ?_
            refine (codec_index_c H.sub e2).mono ?_; rintro _ w4 ⟨rfl, hx⟩; replace H := H.ext hx; clear hx
            refine p_want (gvl_at rfl rfl (k12 53)) hb2 ?_
            refine p_val (r_geq (t := decide ((0 : Int) ≤ y2)) rfl rfl rfl) ?_
            refine p_val (r_pickf (v := .bool (decide ((0 : Int) ≤ y2))) (k12 53) hb2 rfl) ?_
            refine hR8 _ _ ?_
            replace H : HS ⟨S, [], w⟩ S1 w4 [.osl (v2) (s1.2).length 1 cs1 rs2 5, .osl (sl b2 0 (x0).length c1) (x0).length 1 (u8s x0) rs1 5, .blk b1 (([a1] ++ ([v2]))) 46] := H
            obtain rfl := Option.some.inj hE4
            exact J4 _ _ (by (repeat (refine keep_cons rfl ?_)); exact fun _ _ => rfl) rfl H
        refine p_gs (j := 14) (gvl_at rfl rfl (k10 45)) (fun hb3 => ?_) (fun hb3 => ?_)
        · skip
          refine p_skip (gvl_at rfl rfl (k10 45)) hb3 ?_
          rw [put_fr]
          refine p_skip (gvl_at rfl rfl (k10 45)) hb3 ?_
          rw [put_fr]
          refine p_skip (gvl_at rfl rfl (k10 45)) hb3 ?_
          rw [put_fr]
          refine p_skipU rfl ?_
          rw [put_fr]
          refine p_skipU rfl ?_
          rw [put_fr]
          refine p_skip (gvl_at rfl rfl (k10 45)) hb3 ?_
          rw [put_fr]
          refine p_val (r_pickt (v := .bool (true)) (k10 45) hb3 rfl) ?_
          refine hR7 _ _ ?_
          exact J3 _ (by (repeat (refine keep_cons rfl ?_)); exact fun _ _ => rfl) (show (.bool (true) : Value) = .bool ((bif (bif (bif decide ((65 : Int) ≤ ((y1).toNat : Int)) then decide (((y1).toNat : Int) ≤ 90) else false) then true else (bif decide ((97 : Int) ≤ ((y1).toNat : Int)) then decide (((y1).toNat : Int) ≤ 122) else false)) then true else (bif decide ((48 : Int) ≤ ((y1).toNat : Int)) then decide (((y1).toNat : Int) ≤ 57) else false))) from congrArg Value.bool (by simp only [hb3, cond_true, cond_false]))
        · skip
          refine p_want (gvl_at rfl rfl (k10 45)) hb3 ?_
          refine p_val (r_move (v := .int .u8 (((y1).toNat : Int))) ((k10 7).trans q19)) ?_
          refine p_want (gvl_at rfl rfl (k10 45)) hb3 ?_
          refine p_val (r_geq (t := decide ((48 : Int) ≤ ((y1).toNat : Int))) rfl rfl rfl) ?_
          refine p_want (gvl_at rfl rfl (k10 45)) hb3 ?_
          refine p_val (r_move (v := .bool (decide ((48 : Int) ≤ ((y1).toNat : Int)))) rfl) ?_
          refine p_gs (j := 17) rfl (fun hb4 => ?_) (fun hb4 => ?_)
          · skip
            refine p_want rfl hb4 ?_
            refine p_val (r_move (v := .int .u8 (((y1).toNat : Int))) ((k10 7).trans q19)) ?_
            refine p_want rfl hb4 ?_
            refine p_val (r_leq (t := decide (((y1).toNat : Int) ≤ 57)) rfl rfl rfl) ?_
            refine p_want (gvl_at rfl rfl (k10 45)) hb3 ?_
            refine p_val (r_pickt (v := .bool (decide (((y1).toNat : Int) ≤ 57))) rfl hb4 rfl) ?_
            refine p_val (r_pickf (v := .bool (decide (((y1).toNat : Int) ≤ 57))) (k10 45) hb3 rfl) ?_
            refine hR7 _ _ ?_
            exact J3 _ (by (repeat (refine keep_cons rfl ?_)); exact fun _ _ => rfl) (show (.bool (decide (((y1).toNat : Int) ≤ 57)) : Value) = .bool ((bif (bif (bif decide ((65 : Int) ≤ ((y1).toNat : Int)) then decide (((y1).toNat : Int) ≤ 90) else false) then true else (bif decide ((97 : Int) ≤ ((y1).toNat : Int)) then decide (((y1).toNat : Int) ≤ 122) else false)) then true else (bif decide ((48 : Int) ≤ ((y1).toNat : Int)) then decide (((y1).toNat : Int) ≤ 57) else false))) from congrArg Value.bool (by simp only [hb3, hb4, cond_true, cond_false]))
          · skip
            refine p_skip rfl hb4 ?_
            rw [put_fr]
            refine p_skip rfl hb4 ?_
            rw [put_fr]
            refine p_want (gvl_at rfl rfl (k10 45)) hb3 ?_
            refine p_val (r_pickf (v := .bool (false)) rfl hb4 rfl) ?_
            refine p_val (r_pickf (v := .bool (false)) (k10 45) hb3 rfl) ?_
            refine hR7 _ _ ?_
            exact J3 _ (by (repeat (refine keep_cons rfl ?_)); exact fun _ _ => rfl) (show (.bool (false) : Value) = .bool ((bif (bif (bif decide ((65 : Int) ≤ ((y1).toNat : Int)) then decide (((y1).toNat : Int) ≤ 90) else false) then true else (bif decide ((97 : Int) ≤ ((y1).toNat : Int)) then decide (((y1).toNat : Int) ≤ 122) else false)) then true else (bif decide ((48 : Int) ≤ ((y1).toNat : Int)) then decide (((y1).toNat : Int) ≤ 57) else false))) from congrArg Value.bool (by simp only [hb3, hb4, cond_true, cond_false]))
      refine p_gs (j := 6) (gvl_at rfl rfl (k8 37)) (fun hb5 => ?_) (fun hb5 => ?_)
      · skip
        refine p_skip (gvl_at rfl rfl (k8 37)) hb5 ?_
        rw [put_fr]
        refine p_skip (gvl_at rfl rfl (k8 37)) hb5 ?_
        rw [put_fr]
        refine p_skip (gvl_at rfl rfl (k8 37)) hb5 ?_
        rw [put_fr]
        refine p_skipU rfl ?_
        rw [put_fr]
        refine p_skipU rfl ?_
        rw [put_fr]
        refine p_skip (gvl_at rfl rfl (k8 37)) hb5 ?_
        rw [put_fr]
        refine p_val (r_pickt (v := .bool (true)) (k8 37) hb5 rfl) ?_
        refine hR6 _ _ ?_
        exact J2 _ (by (repeat (refine keep_cons rfl ?_)); exact fun _ _ => rfl) (show (.bool (true) : Value) = .bool ((bif (bif decide ((65 : Int) ≤ ((y1).toNat : Int)) then decide (((y1).toNat : Int) ≤ 90) else false) then true else (bif decide ((97 : Int) ≤ ((y1).toNat : Int)) then decide (((y1).toNat : Int) ≤ 122) else false))) from congrArg Value.bool (by simp only [hb5, cond_true, cond_false]))
      · skip
        refine p_want (gvl_at rfl rfl (k8 37)) hb5 ?_
        refine p_val (r_move (v := .int .u8 (((y1).toNat : Int))) ((k8 7).trans q12)) ?_
        refine p_want (gvl_at rfl rfl (k8 37)) hb5 ?_
        refine p_val (r_geq (t := decide ((97 : Int) ≤ ((y1).toNat : Int))) rfl rfl rfl) ?_
        refine p_want (gvl_at rfl rfl (k8 37)) hb5 ?_
        refine p_val (r_move (v := .bool (decide ((97 : Int) ≤ ((y1).toNat : Int)))) rfl) ?_
        refine p_gs (j := 9) rfl (fun hb6 => ?_) (fun hb6 => ?_)
        · skip
          refine p_want rfl hb6 ?_
          refine p_val (r_move (v := .int .u8 (((y1).toNat : Int))) ((k8 7).trans q12)) ?_
          refine p_want rfl hb6 ?_
          refine p_val (r_leq (t := decide (((y1).toNat : Int) ≤ 122)) rfl rfl rfl) ?_
          refine p_want (gvl_at rfl rfl (k8 37)) hb5 ?_
          refine p_val (r_pickt (v := .bool (decide (((y1).toNat : Int) ≤ 122))) rfl hb6 rfl) ?_
          refine p_val (r_pickf (v := .bool (decide (((y1).toNat : Int) ≤ 122))) (k8 37) hb5 rfl) ?_
          refine hR6 _ _ ?_
          exact J2 _ (by (repeat (refine keep_cons rfl ?_)); exact fun _ _ => rfl) (show (.bool (decide (((y1).toNat : Int) ≤ 122)) : Value) = .bool ((bif (bif decide ((65 : Int) ≤ ((y1).toNat : Int)) then decide (((y1).toNat : Int) ≤ 90) else false) then true else (bif decide ((97 : Int) ≤ ((y1).toNat : Int)) then decide (((y1).toNat : Int) ≤ 122) else false))) from congrArg Value.bool (by simp only [hb5, hb6, cond_true, cond_false]))
        · skip
          refine p_skip rfl hb6 ?_
          rw [put_fr]
          refine p_skip rfl hb6 ?_
          rw [put_fr]
          refine p_want (gvl_at rfl rfl (k8 37)) hb5 ?_
          refine p_val (r_pickf (v := .bool (false)) rfl hb6 rfl) ?_
          refine p_val (r_pickf (v := .bool (false)) (k8 37) hb5 rfl) ?_
          refine hR6 _ _ ?_
          exact J2 _ (by (repeat (refine keep_cons rfl ?_)); exact fun _ _ => rfl) (show (.bool (false) : Value) = .bool ((bif (bif decide ((65 : Int) ≤ ((y1).toNat : Int)) then decide (((y1).toNat : Int) ≤ 90) else false) then true else (bif decide ((97 : Int) ≤ ((y1).toNat : Int)) then decide (((y1).toNat : Int) ≤ 122) else false))) from congrArg Value.bool (by simp only [hb5, hb6, cond_true, cond_false]))
    refine p_gs (j := 2) (gvl_at rfl rfl (k6 33)) (fun hb7 => ?_) (fun hb7 => ?_)
    · skip
      refine p_want (gvl_at rfl rfl (k6 33)) hb7 ?_
      refine p_val (r_move (v := .int .u8 (((y1).toNat : Int))) (k6 7)) ?_
      refine p_want (gvl_at rfl rfl (k6 33)) hb7 ?_
      refine p_val (r_leq (t := decide (((y1).toNat : Int) ≤ 90)) rfl rfl rfl) ?_
      refine p_val (r_pickt (v := .bool (decide (((y1).toNat : Int) ≤ 90))) (k6 33) hb7 rfl) ?_
      refine hR5 _ _ ?_
      exact J1 _ (by (repeat (refine keep_cons rfl ?_)); exact fun _ _ => rfl) (show (.bool (decide (((y1).toNat : Int) ≤ 90)) : Value) = .bool ((bif decide ((65 : Int) ≤ ((y1).toNat : Int)) then decide (((y1).toNat : Int) ≤ 90) else false)) from congrArg Value.bool (by simp only [hb7, cond_true, cond_false]))
    · skip
      refine p_skip (gvl_at rfl rfl (k6 33)) hb7 ?_
      rw [put_fr]
      refine p_skip (gvl_at rfl rfl (k6 33)) hb7 ?_
      rw [put_fr]
      refine p_val (r_pickf (v := .bool (false)) (k6 33) hb7 rfl) ?_
      refine hR5 _ _ ?_
      exact J1 _ (by (repeat (refine keep_cons rfl ?_)); exact fun _ _ => rfl) (show (.bool (false) : Value) = .bool ((bif decide ((65 : Int) ≤ ((y1).toNat : Int)) then decide (((y1).toNat : Int) ≤ 90) else false)) from congrArg Value.bool (by simp only [hb7, cond_true, cond_false]))
  · replace hb1 := cnd_f hb1 hc1
    refine wp_exit ?_
    refine x_exit ?_
    refine x_exit ?_
    refine b_hit ?_
    refine x_norm ?_
    replace H := H.sel [0, 2] rfl
    replace H : HS ⟨S, [], w⟩ S1 w3 [.osl (v2) (s1.2).length 1 cs1 rs2 5, .blk b1 (([a1] ++ ([v2]))) 46] := H
    obtain rfl := Option.some.inj hb1
    obtain rfl := Option.some.inj hh1
    obtain rfl := Option.some.inj hE2
    exact J6 _ _ _ _ _ _ _ (by (repeat (refine keep_cons rfl ?_)); refine keep_sub k3 rfl ?_; (repeat (refine keep_cons rfl ?_)); refine keep_name k2 ?_; (repeat (refine keep_cons rfl ?_)); exact fun _ _ => rfl) hle1 H g2 g3
def codec_Percent_p (x0 : List UInt8) : Option ((List UInt8)) :=
  Option.bind (codec_percent_p x0 ([37, 50, 48] : List UInt8)) fun y1 => some (y1)
theorem codec_Percent_c {S : Mem} {w : World} (hS : Sub S w) {x0 : List UInt8} {r : (List UInt8)} (hF : codec_Percent_p x0 = some r) :
    Calls Tryd.prog 22 #[str (x0)] w fun e w' => e = .returned (str (r)) ∧ Ext w w' := by
  refine enter (n := 5) Tryd.func22 rfl rfl rfl ?_
  have H := HS.start hS
  unfold codec_Percent_p at hF
  refine wp_seq_k ?_; intro K1 hK1
  refine wp_region_lit ?_
  refine p_val (r_assign (v := str (([] : List UInt8))) rfl) ?_
  refine wpList_nil ?_
  refine x_norm ?_; refine hK1 _ _ ?_; clear hK1
  refine wp_seq_k ?_; intro K2 hK2
  refine wp_region_lit ?_
  refine p_val (r_move (v := str (x0)) rfl) ?_
  obtain ⟨y1, e1, hF⟩ := bnd hF
  refine p_call (l := [str (x0), str (([37, 50, 48] : List UInt8))]) is40 rfl ?_
  refine (codec_percent_c H.sub e1).mono ?_; rintro _ w1 ⟨rfl, hx⟩; replace H := H.ext hx; clear hx
  refine p_val (r_assign (v := str (y1)) rfl) ?_
  refine wpList_nil ?_
  refine x_norm ?_; refine hK2 _ _ ?_; clear hK2
  refine wp_ret ?_
  obtain rfl := Option.some.inj hF
  refine e_1 rfl (q_tmp (v := str (y1)) rfl) ?_
  exact ⟨rfl, H.toExt⟩
def codec_FromPercent_b0 (s1 : (List UInt8) × (List UInt8)) : Option (((List UInt8) × (List UInt8)) ⊕ ((List UInt8) × Int)) :=
  Option.bind (Cut_p s1.1 ([37] : List UInt8)) fun y1 => Option.bind (Builder_WriteString_p s1.2 y1.1) fun y2 => bif (!y1.2.2) then (Option.bind (chk (decide ((y2.2).length ≤ 68719476736))) fun y3 => some (.inr ((y2.2, 0)))) else (Option.bind (codec_digits_p y1.2.1 ([48, 49, 50, 51, 52, 53, 54, 55, 56, 57, 97, 98, 99, 100, 101, 102, 95, 95, 95, 95, 95, 95, 95, 95, 95, 95, 65, 66, 67, 68, 69, 70] : List UInt8)) fun y4 => Option.bind (bif (!y4.2) then (some (true)) else (Option.bind (subH y1.2.1 2) fun y5 => Option.bind (ContainsAny_p y5 ([95] : List UInt8)) fun y6 => some (y6))) (fun t1 => bif t1 then (some (.inr ((([] : List UInt8), 12)))) else (Option.bind (Builder_WriteByte_p y2.2 y4.1) fun y7 => Option.bind (subL y1.2.1 2) fun y8 => some (.inl ((y8, y7))))))
def codec_FromPercent_p (x0 : List UInt8) : Option ((List UInt8) × Int) :=
  Option.bind (iter (codec_FromPercent_b0) ((x0, ([] : List UInt8)))) (fun e => some (e))
theorem codec_FromPercent_c {S : Mem} {w : World} (hS : Sub S w) (hG : GV S) {x0 : List UInt8} {r : (List UInt8) × Int} (hF : codec_FromPercent_p x0 = some r) :
    Calls Tryd.prog 20 #[str (x0)] w fun e w' => e = .returned (.tuple #[str (r.1), .int .i64 (r.2)]) ∧ Ext w w' := by
  refine enter (n := 37) Tryd.func20 rfl rfl rfl ?_
  have H := HS.start hS
  unfold codec_FromPercent_p at hF
  refine wp_seq_k ?_; intro K1 hK1
  refine wp_region_lit ?_
  refine p_val (r_assign (v := str (([] : List UInt8))) rfl) ?_
  refine p_val (r_assign (v := .int .i64 (0)) rfl) ?_
  refine wpList_nil ?_
  refine x_norm ?_; refine hK1 _ _ ?_; clear hK1
  refine wp_seq_k ?_; intro K2 hK2
  refine wp_region_lit ?_
  refine p_ofb (a_alloc (l := ([Value.pointer none] ++ ([Value.slice none 0 0]))) H tz46 rfl) ?_; clear H; intro w1 b1 H
  replace H : HS ⟨S, [], w⟩ S w1 [.blk b1 (([Value.pointer none] ++ ([Value.slice none 0 0]))) 46] := H
  refine wpList_nil ?_
  refine x_norm ?_; refine hK2 _ _ ?_; clear hK2
  refine wp_block ?_
  refine nameF fun m1 k1 => ?_
  obtain ⟨out1, hL1, hE1⟩ := bnd hF
  replace H := H.nilOwn 1 5; have g3 : RL S [] ([] : List UInt8) := RL.nil
  replace H : HS ⟨S, [], w⟩ S w1 [.osl (.slice none 0 0) (([] : List UInt8)).length 1 [] [] 5, .blk b1 (([Value.pointer none] ++ ([Value.slice none 0 0]))) 46] := H
  refine loopI [0, 2, 3, 5, 6, 7, 8, 9, 10, 11, 12, 13, 14, 15, 16, 17, 18, 19, 20, 21, 22, 23, 24, 25, 26, 27, 28, 29, 30, 31, 32, 33, 34, 35, 36] (fun (s1 : (List UInt8) × (List UInt8)) (m2 : FM) (w2 : World) => ∃ (S1 : Mem) (a1 : Value) (v1 : Value) (cs1 rs1 : List Value), look m2 0 = str (s1.1) ∧ Mem.le S S1 ∧ HS ⟨S, [], w⟩ S1 w2 [.osl (v1) (s1.2).length 1 cs1 rs1 5, .blk b1 (([a1] ++ ([v1]))) 46] ∧ BA b1 a1 ∧ RL S1 cs1 s1.2) hL1 ⟨_, _, _, _, _, (k1 0), (Mem.le_refl _), H, (Or.inl rfl), g3⟩ ?_
  clear H; intro k3 s1 m2 w2 k2 hI1 o1 hb1 hh1; obtain ⟨S1, a1, v1, cs1, rs1, q1, hle1, H, g1, g2⟩ := hI1
  replace hG := GV.mono hG hle1
  have q2 : look m2 4 = .pointer (some ⟨b1, 0, none⟩) := (k2 4 rfl).trans (k1 4)
  unfold codec_FromPercent_b0 at hb1
  refine wp_block ?_
  refine wp_seq_k ?_; intro K3 hK3
  refine wp_region_lit ?_
  refine p_val (r_move (v := str (s1.1)) q1) ?_
  obtain ⟨y1, e1, hb1⟩ := bnd hb1
  refine p_call (l := [str (s1.1), str (([37] : List UInt8))]) is37 rfl ?_
  refine (Cut_c H.sub hG e1).mono ?_; rintro _ w3 ⟨rfl, hx⟩; replace H := H.ext hx; clear hx
  refine p_val (r_move (v := .tuple #[str (y1.1), str (y1.2.1), .bool (y1.2.2)]) rfl) ?_
  refine p_val (r_extract (v := str (y1.1)) rfl rfl) ?_
  refine p_val (r_extract (v := str (y1.2.1)) rfl rfl) ?_
  refine p_val (r_extract (v := .bool (y1.2.2)) rfl rfl) ?_
  refine p_val (r_assign (v := str (y1.1)) rfl) ?_
  refine p_val (r_assign (v := str (y1.2.1)) rfl) ?_
  refine p_val (r_assign (v := .bool (y1.2.2)) rfl) ?_
  refine wpList_nil ?_
  refine x_norm ?_; refine hK3 _ _ ?_; clear hK3
  refine wp_seq_k ?_; intro K4 hK4
  refine wp_region_lit ?_
  refine p_val (r_move (v := str (y1.1)) rfl) ?_
  obtain ⟨y2, e2, hb1⟩ := bnd hb1
  refine p_call (l := [.pointer (some ⟨b1, 0, none⟩), str (y1.1)]) is38 (args_cons q2 (args_cons rfl args_nil)) ?_
  refine (Builder_WriteString_c (H.hand [1, 0] rfl) g2 g1 e2).mono ?_; rintro _ w4 ⟨S2, pv1, pcs1, prs1, pa1, rfl, H2, pg1, pg2⟩
  obtain ⟨H1, hle2⟩ := H.frame [1, 0] [] rfl H2; clear H H2; have H := H1; clear H1
  replace hG := GV.mono hG hle2
  replace H : HS ⟨S, [], w⟩ S2 w4 [.blk b1 (([pa1] ++ ([pv1]))) 46, .osl (pv1) (y2.2).length 1 pcs1 prs1 5] := H
  refine wpList_nil ?_
  refine x_norm ?_; refine hK4 _ _ ?_; clear hK4
  refine wp_seq_k ?_; intro K5 hK5
  refine wp_seq_k ?_; intro K6 hK6
  refine wp_region_lit ?_
  refine p_val (r_move (v := .bool (y1.2.2)) rfl) ?_
  refine p_val (r_not (t := (!y1.2.2)) rfl rfl) ?_
  refine wpList_nil ?_
  refine x_norm ?_; refine hK6 _ _ ?_; clear hK6
  refine c_split (t := (!y1.2.2)) rfl (fun hc1 => ?_) (fun hc1 => ?_)
  · replace hb1 := cnd_t hb1 hc1
    refine wp_seq_k ?_; intro K7 hK7
    refine wp_region_lit ?_
    obtain ⟨y3, e3, hb1⟩ := bnd hb1
    refine p_call (l := [.pointer (some ⟨b1, 0, none⟩)]) is34 (args_cons q2 args_nil) ?_
    refine (Builder_String_c (k1 := 0) (k2 := 1) H rfl rfl pg1 (Nat.le_trans (of_decide_eq_true (chk_some e3)) (by decide))).mono ?_; clear H; rintro _ w5 ⟨rfl, H⟩
    replace H : HS ⟨S, [], w⟩ S2 w5 [.blk b1 (([pa1] ++ ([pv1]))) 46] := H
    refine p_val (r_assign (v := str (y2.2)) rfl) ?_
    refine p_val (r_assign (v := .int .i64 (0)) rfl) ?_
    refine wpList_nil ?_
    refine x_norm ?_; refine hK7 _ _ ?_; clear hK7
    refine wp_ret ?_
    refine x_ret ?_
    refine b_ret ?_
    refine x_ret ?_
    refine b_ret ?_
    obtain rfl := Option.some.inj hb1
    obtain rfl := Option.some.inj hh1
    obtain rfl := Option.some.inj hE1
    refine e_2 rfl (q_tmp (v := str (y2.2)) rfl) (q_tmp (v := .int .i64 (0)) rfl) ?_
    exact ⟨rfl, H.toExt⟩
  · replace hb1 := cnd_f hb1 hc1
    refine wp_skip ?_
    refine x_norm ?_; refine hK5 _ _ ?_; clear hK5
    refine wp_seq_k ?_; intro K8 hK8
    refine wp_region_lit ?_
    refine p_val (r_move (v := str (y1.2.1)) rfl) ?_
    obtain ⟨y4, e4, hb1⟩ := bnd hb1
    refine p_call (l := [str (y1.2.1), str (([48, 49, 50, 51, 52, 53, 54, 55, 56, 57, 97, 98, 99, 100, 101, 102, 95, 95, 95, 95, 95, 95, 95, 95, 95, 95, 65, 66, 67, 68, 69, 70] : List UInt8))]) is31 rfl ?_
    refine (codec_digits_c H.sub e4).mono ?_; rintro _ w6 ⟨rfl, hx⟩; replace H := H.ext hx; clear hx
    refine p_val (r_move (v := .tuple #[.int .u8 (((y4.1).toNat : Int)), .bool (y4.2)]) rfl) ?_
    refine p_val (r_extract (v := .int .u8 (((y4.1).toNat : Int))) rfl rfl) ?_
    refine p_val (r_extract (v := .bool (y4.2)) rfl rfl) ?_
    refine p_val (r_assign (v := .int .u8 (((y4.1).toNat : Int))) rfl) ?_
    refine p_val (r_assign (v := .bool (y4.2)) rfl) ?_
    refine wpList_nil ?_
    refine x_norm ?_; refine hK8 _ _ ?_; clear hK8
    refine wp_seq_k ?_; intro K9 hK9
    refine wp_seq_k ?_; intro K10 hK10
    refine wp_region_lit ?_
    refine p_val (r_move (v := .bool (y4.2)) rfl) ?_
    refine p_val (r_not (t := (!y4.2)) rfl rfl) ?_
    refine p_val (r_move (v := .bool ((!y4.2))) rfl) ?_
    refine nameL fun m3 k4 => ?_
    refine gs_at 4 fun K11 hK11 R5 hR5 => ?_
    obtain ⟨t1, hE2, hF1⟩ := bnd hb1
    have J1 : ∀ (m4 : FM) (w8 : World), (∀ t, has [29, 30, 31, 32] t = false → look m4 t = look m3 t) → look m4 32 = .bool (t1) → HS ⟨S, [], w⟩ S2 w8 [.blk b1 (([pa1] ++ ([pv1]))) 46, .osl (pv1) (y2.2).length 1 pcs1 prs1 5] → K11 m4 w8 := by
      clear H; intro m4 w8 k5 q3 H
      have q4 : look m4 4 = .pointer (some ⟨b1, 0, none⟩) := (k5 4 rfl).trans ((k4 4).trans q2)
      have q5 : look m4 6 = str (y1.2.1) := (k5 6 rfl).trans (k4 6)
      have q6 : look m4 8 = .int .u8 (((y4.1).toNat : Int)) := (k5 8 rfl).trans (k4 8)
      refine hK11 _ _ ?_
      refine wpList_nil ?_
      refine x_norm ?_; refine hK10 _ _ ?_; clear hK10
      refine c_split (t := t1) q3 (fun hc2 => ?_) (fun hc2 => ?_)
      · replace hF1 := cnd_t hF1 hc2
        refine wp_seq_k ?_; intro K12 hK12
        refine wp_region_lit ?_
        refine p_val (r_assign (v := str (([] : List UInt8))) rfl) ?_
        refine p_val (r_assign (v := .int .i64 (12)) rfl) ?_
        refine wpList_nil ?_
        refine x_norm ?_; refine hK12 _ _ ?_; clear hK12
        refine wp_ret ?_
        refine x_ret ?_
        refine b_ret ?_
        refine x_ret ?_
        refine b_ret ?_
        obtain rfl := Option.some.inj hF1
        obtain rfl := Option.some.inj hh1
        obtain rfl := Option.some.inj hE1
        refine e_2 rfl (q_tmp (v := str (([] : List UInt8))) rfl) (q_tmp (v := .int .i64 (12)) rfl) ?_
        exact ⟨rfl, H.toExt⟩
      · replace hF1 := cnd_f hF1 hc2
        refine wp_skip ?_
        refine x_norm ?_; refine hK9 _ _ ?_; clear hK9
        refine wp_seq_k ?_; intro K13 hK13
        refine wp_region_lit ?_
        refine p_val (r_move (v := .int .u8 (((y4.1).toNat : Int))) q6) ?_
        obtain ⟨y7, e7, hF1⟩ := bnd hF1
        refine p_call (l := [.pointer (some ⟨b1, 0, none⟩), .int .u8 (((y4.1).toNat : Int))]) is33 (args_cons q4 (args_cons rfl args_nil)) ?_
        refine (Builder_WriteByte_c (H.hand [0, 1] rfl) pg1 pg2 e7).mono ?_; rintro _ w9 ⟨S3, pv2, pcs2, prs2, pa2, rfl, H2, pg3, pg4⟩
        obtain ⟨H1, hle3⟩ := H.frame [0, 1] [] rfl H2; clear H H2; have H := H1; clear H1
        replace hG := GV.mono hG hle3
        replace H : HS ⟨S, [], w⟩ S3 w9 [.blk b1 (([pa2] ++ ([pv2]))) 46, .osl (pv2) (y7).length 1 pcs2 prs2 5] := H
        refine wpList_nil ?_
        refine x_norm ?_; refine hK13 _ _ ?_; clear hK13
        refine wp_region_lit ?_
        refine p_val (r_move (v := str (y1.2.1)) q5) ?_
        obtain ⟨y8, e8, hF1⟩ := bnd hF1
        refine p_val (r_sliceTL (p := (2 : Int).toNat) (r := y8) u9 rfl rfl (subL_some e8).1 (subL_some e8).2.1 (subL_some e8).2.2) ?_
        refine p_val (r_assign (v := str (y8)) rfl) ?_
        refine wpList_nil ?_
        refine b_norm ?_
        refine x_norm ?_
        replace H := H.sel [1, 0] rfl
        replace H : HS ⟨S, [], w⟩ S3 w9 [.osl (pv2) (y7).length 1 pcs2 prs2 5, .blk b1 (([pa2] ++ ([pv2]))) 46] := H
        obtain rfl := Option.some.inj hF1
        exact ⟨(y8, y7), _, rfl, (by (repeat (refine keep_cons rfl ?_)); refine keep_sub k5 rfl ?_; (repeat (refine keep_cons rfl ?_)); refine keep_name k4 ?_; (repeat (refine keep_cons rfl ?_)); refine keep_sub k2 rfl ?_; (repeat (refine keep_cons rfl ?_)); exact fun _ _ => rfl), ⟨_, _, _, _, _, rfl, (Mem.le_trans hle1 (Mem.le_trans hle2 hle3)), H, pg4, pg3⟩, hh1⟩
    refine p_gs (j := 2) (gvl_at rfl rfl (k4 28)) (fun hb2 => ?_) (fun hb2 => ?_)
    · replace hE2 := cnd_t hE2 hb2
      refine p_skip (gvl_at rfl rfl (k4 28)) hb2 ?_
      rw [put_fr]
      refine p_skip (gvl_at rfl rfl (k4 28)) hb2 ?_
      rw [put_fr]
      refine p_skip (gvl_at rfl rfl (k4 28)) hb2 ?_
      rw [put_fr]
      refine p_val (r_pickt (v := .bool (true)) (k4 28) hb2 rfl) ?_
      refine hR5 _ _ ?_
      replace H : HS ⟨S, [], w⟩ S2 w6 [.blk b1 (([pa1] ++ ([pv1]))) 46, .osl (pv1) (y2.2).length 1 pcs1 prs1 5] := H
      obtain rfl := Option.some.inj hE2
      exact J1 _ _ (by (repeat (refine keep_cons rfl ?_)); exact fun _ _ => rfl) rfl H
    · replace hE2 := cnd_f hE2 hb2
      refine p_want (gvl_at rfl rfl (k4 28)) hb2 ?_
      refine p_val (r_move (v := str (y1.2.1)) (k4 6)) ?_
      refine p_want (gvl_at rfl rfl (k4 28)) hb2 ?_
      obtain ⟨y5, e5, hE2⟩ := bnd hE2
      refine p_val (r_sliceTH (h := (2 : Int).toNat) (r := y5) u9 rfl rfl (subH_some e5).1 (subH_some e5).2.1 (subH_some e5).2.2) ?_
      refine p_want (gvl_at rfl rfl (k4 28)) hb2 ?_
      obtain ⟨y6, e6, hE2⟩ := bnd hE2
      refine p_call (l := [str (y5), str (([95] : List UInt8))]) is39 rfl ?_
      refine (ContainsAny_c H.sub e6).mono ?_; rintro _ w7 ⟨rfl, hx⟩; replace H := H.ext hx; clear hx
      refine p_val (r_pickf (v := .bool (y6)) (k4 28) hb2 rfl) ?_
      refine hR5 _ _ ?_
      replace H : HS ⟨S, [], w⟩ S2 w7 [.blk b1 (([pa1] ++ ([pv1]))) 46, .osl (pv1) (y2.2).length 1 pcs1 prs1 5] := H
      obtain rfl := Option.some.inj hE2
      exact J1 _ _ (by (repeat (refine keep_cons rfl ?_)); exact fun _ _ => rfl) rfl H
def codec_Form_b0 (x0 : List ((List UInt8) × (List UInt8))) (s1 : (List (List UInt8)) × Int) : Option (((List (List UInt8)) × Int) ⊕ ((List (List UInt8)))) :=
  bif decide (s1.2 < ((x0).length : Int)) then (Option.bind (idx x0 s1.2) fun y1 => Option.bind (codec_percent_p y1.1 ([43] : List UInt8)) fun y2 => Option.bind (app y2 ([61] : List UInt8)) fun y3 => Option.bind (codec_percent_p y1.2 ([43] : List UInt8)) fun y4 => Option.bind (app y3 y4) fun y5 => Option.bind (app s1.1 ([y5] : List (List UInt8))) fun y6 => some (.inl ((y6, (w64 (s1.2 + 1)))))) else (some (.inr (s1.1)))
def codec_Form_p (x0 : List ((List UInt8) × (List UInt8))) : Option ((List UInt8) × Int) :=
  bif decide ((64 : Int) < ((x0).length : Int)) then (some ((([] : List UInt8), 14))) else (Option.bind (Option.bind (iter (codec_Form_b0 x0) ((([] : List (List UInt8)), 0))) (fun e => some (e))) (fun t1 => Option.bind (Join_p t1 ([38] : List UInt8)) fun y7 => bif decide ((8192 : Int) < ((y7).length : Int)) then (some ((([] : List UInt8), 14))) else (some ((y7, 0)))))
theorem codec_Form_c {S : Mem} {w : World} (hS : Sub S w) {v0_ : Value} {x0 : List ((List UInt8) × (List UInt8))} (h0_ : RdS S v0_ x0) {r : (List UInt8) × Int} (hF : codec_Form_p x0 = some r) :
    Calls Tryd.prog 24 #[v0_] w fun e w' => e = .returned (.tuple #[str (r.1), .int .i64 (r.2)]) ∧ Ext w w' := by
  refine enter (n := 35) Tryd.func24 rfl rfl rfl ?_
  have H := HS.start hS
  unfold codec_Form_p at hF
  refine wp_seq_k ?_; intro K1 hK1
  refine wp_region_lit ?_
  refine p_val (r_assign (v := str (([] : List UInt8))) rfl) ?_
  refine p_val (r_assign (v := .int .i64 (0)) rfl) ?_
  refine wpList_nil ?_
  refine x_norm ?_; refine hK1 _ _ ?_; clear hK1
  refine wp_seq_k ?_; intro K2 hK2
  refine wp_seq_k ?_; intro K3 hK3
  refine wp_region_lit ?_
  refine p_val (r_move (v := v0_) rfl) ?_
  refine p_val (r_lenR' u28 rfl h0_ H.sub) ?_
  refine p_val (r_gtr (t := decide ((64 : Int) < ((x0).length : Int))) rfl rfl rfl) ?_
  refine wpList_nil ?_
  refine x_norm ?_; refine hK3 _ _ ?_; clear hK3
  refine c_split (t := decide ((64 : Int) < ((x0).length : Int))) rfl (fun hc1 => ?_) (fun hc1 => ?_)
  · replace hF := cnd_t hF hc1
    refine wp_seq_k ?_; intro K4 hK4
    refine wp_region_lit ?_
    refine p_val (r_assign (v := str (([] : List UInt8))) rfl) ?_
    refine p_val (r_assign (v := .int .i64 (14)) rfl) ?_
    refine wpList_nil ?_
    refine x_norm ?_; refine hK4 _ _ ?_; clear hK4
    refine wp_ret ?_
    refine x_ret ?_
    obtain rfl := Option.some.inj hF
    refine e_2 rfl (q_tmp (v := str (([] : List UInt8))) rfl) (q_tmp (v := .int .i64 (14)) rfl) ?_
    exact ⟨rfl, H.toExt⟩
  · replace hF := cnd_f hF hc1
    refine wp_skip ?_
    refine x_norm ?_; refine hK2 _ _ ?_; clear hK2
    refine wp_seq_k ?_; intro K5 hK5
    refine wp_region_lit ?_
    refine p_val (r_assign (v := .slice none 0 0) rfl) ?_
    refine wpList_nil ?_
    refine x_norm ?_; refine hK5 _ _ ?_; clear hK5
    refine wp_seq_k ?_; intro K6 hK6
    refine nameF fun m1 k1 => ?_
    obtain ⟨t1, hE1, hF1⟩ := bnd hF
    have J1 : ∀ (v4 : Value) (cs5 rs3 : List Value) (m4 : FM) (w7 : World), (∀ t, has [4, 6, 11, 12, 13, 14, 15, 16, 17, 18, 19, 20, 21, 22, 23, 24, 25, 26, 27, 28] t = false → look m4 t = look m1 t) → look m4 4 = v4 → HS ⟨S, [], w⟩ S w7 [.osl (v4) (t1).length 1 cs5 rs3 9] → RL S cs5 t1 → K6 (fr 35 m4) w7 := by
      clear H; intro v4 cs5 rs3 m4 w7 k5 q5 H g7
      refine hK6 _ _ ?_
      refine wp_seq_k ?_; intro K12 hK12
      refine wp_region_lit ?_
      refine p_val (r_move (v := v4) q5) ?_
      obtain ⟨y7, e7, hF1⟩ := bnd hF1
      refine p_call (l := [v4, str (([38] : List UInt8))]) is42 rfl ?_
      refine (Join_c (subMem w7) (RdS.ofOwn H (k := 0) rfl g7) e7).mono ?_; rintro _ w8 ⟨rfl, hx⟩; replace H := H.ext hx; clear hx
      refine p_val (r_assign (v := str (y7)) rfl) ?_
      refine wpList_nil ?_
      refine x_norm ?_; refine hK12 _ _ ?_; clear hK12
      refine wp_seq_k ?_; intro K13 hK13
      refine wp_seq_k ?_; intro K14 hK14
      refine wp_region_lit ?_
      refine p_val (r_move (v := str (y7)) rfl) ?_
      refine p_val (r_lenT (N := (y7).length) u9 rfl rfl) ?_
      refine p_val (r_gtr (t := decide ((8192 : Int) < ((y7).length : Int))) rfl rfl rfl) ?_
      refine wpList_nil ?_
      refine x_norm ?_; refine hK14 _ _ ?_; clear hK14
      refine c_split (t := decide ((8192 : Int) < ((y7).length : Int))) rfl (fun hc4 => ?_) (fun hc4 => ?_)
      · replace hF1 := cnd_t hF1 hc4
        refine wp_seq_k ?_; intro K15 hK15
        refine wp_region_lit ?_
        refine p_val (r_assign (v := str (([] : List UInt8))) rfl) ?_
        refine p_val (r_assign (v := .int .i64 (14)) rfl) ?_
        refine wpList_nil ?_
        refine x_norm ?_; refine hK15 _ _ ?_; clear hK15
        refine wp_ret ?_
        refine x_ret ?_
        obtain rfl := Option.some.inj hF1
        refine e_2 rfl (q_tmp (v := str (([] : List UInt8))) rfl) (q_tmp (v := .int .i64 (14)) rfl) ?_
        exact ⟨rfl, H.toExt⟩
      · replace hF1 := cnd_f hF1 hc4
        refine wp_skip ?_
        refine x_norm ?_; refine hK13 _ _ ?_; clear hK13
        refine wp_seq_k ?_; intro K16 hK16
        refine wp_region_lit ?_
        refine p_val (r_move (v := str (y7)) rfl) ?_
        refine p_val (r_assign (v := str (y7)) rfl) ?_
        refine p_val (r_assign (v := .int .i64 (0)) rfl) ?_
        refine wpList_nil ?_
        refine x_norm ?_; refine hK16 _ _ ?_; clear hK16
        refine wp_ret ?_
        obtain rfl := Option.some.inj hF1
        refine e_2 rfl (q_tmp (v := str (y7)) rfl) (q_tmp (v := .int .i64 (0)) rfl) ?_
        exact ⟨rfl, H.toExt⟩
    refine wp_seq_k ?_; intro K7 hK7
    refine wp_region_lit ?_
    refine p_val (r_move (v := v0_) (k1 0)) ?_
    refine p_val (r_lenR' u28 rfl h0_ H.sub) ?_
    refine p_val (r_move (v := .int .i64 (0)) rfl) ?_
    refine wpList_nil ?_
    refine x_norm ?_; refine hK7 _ _ ?_; clear hK7
    refine wp_block ?_
    refine nameF fun m2 k2 => ?_
    obtain ⟨out1, hL1, hE2⟩ := bnd hE1
    replace H := H.nilOwn 1 9; have g2 : RL S [] ([] : List (List UInt8)) := RL.nil
    replace H : HS ⟨S, [], w⟩ S w [.osl (.slice none 0 0) (([] : List (List UInt8))).length 1 [] [] 9] := H
    refine loopI [4, 6, 13, 14, 15, 16, 17, 18, 19, 20, 21, 22, 23, 24, 25, 26, 27, 28] (fun (s1 : (List (List UInt8)) × Int) (m3 : FM) (w1 : World) => ∃ (v1 : Value) (cs1 rs1 : List Value), look m3 4 = v1 ∧ look m3 13 = .int .i64 (s1.2) ∧ HS ⟨S, [], w⟩ S w1 [.osl (v1) (s1.1).length 1 cs1 rs1 9] ∧ RL S cs1 s1.1) hL1 ⟨_, _, _, (show _ = (.slice none 0 0 : Value) from ((k2 4).trans (k1 4))), (k2 13), H, g2⟩ ?_
    clear H; intro k4 s1 m3 w1 k3 hI1 o2 hb1 hh1; obtain ⟨v1, cs1, rs1, q1, q2, H, g1⟩ := hI1
    have q3 : look m3 11 = v0_ := (k3 11 rfl).trans (k2 11)
    have q4 : look m3 12 = .int .i64 (((x0).length : Int)) := (k3 12 rfl).trans (k2 12)
    unfold codec_Form_b0 at hb1
    refine wp_seq_k ?_; intro K8 hK8
    refine wp_region_lit ?_
    refine p_val (r_lss (t := decide (s1.2 < ((x0).length : Int))) q2 q4 rfl) ?_
    refine wpList_nil ?_
    refine x_norm ?_; refine hK8 _ _ ?_; clear hK8
    refine wp_seq_k ?_; intro K9 hK9
    refine c_split (t := decide (s1.2 < ((x0).length : Int))) rfl (fun hc2 => ?_) (fun hc2 => ?_)
    · replace hb1 := cnd_t hb1 hc2
      refine wp_skip ?_
      refine x_norm ?_; refine hK9 _ _ ?_; clear hK9
      refine wp_seq_k ?_; intro K10 hK10
      refine wp_block ?_
      refine wp_seq_k ?_; intro K11 hK11
      refine wp_region_lit ?_
      obtain ⟨y1, e1, hb1⟩ := bnd hb1
      obtain ⟨b1, o3, N1, c1, cs2, hv1, hi1, hc3, hr1⟩ := h0_.get (idx_some e1).2
      refine p_val (r_addrV (i := (s1.2 : Int).toNat) u28 tsz34 q3 hv1 q2 (idx_some e1).1 hi1) ?_
      obtain ⟨c2, c3, rfl, g3, g4⟩ := elP hr1
      obtain rfl := elT g3
      obtain rfl := elT g4
      refine p_val (s_load (p := (o3 + (s1.2 : Int).toNat * 2)) (o := 0) (l := ([str (y1.1)] ++ ([str (y1.2)]))) tg34 H.sub rfl hc3 rfl rfl) ?_
      refine p_ofb (a_alloc (l := ([str (([] : List UInt8))] ++ ([str (([] : List UInt8))]))) H tz34 rfl) ?_; clear H; intro w2 b2 H
      replace H : HS ⟨S, [], w⟩ S w2 [.blk b2 (([str (([] : List UInt8))] ++ ([str (([] : List UInt8))]))) 34, .osl (v1) (s1.1).length 1 cs1 rs1 9] := H
      refine p_ofs (a_store (k := 0) (v := .agg (([str (y1.1)] ++ ([str (y1.2)]))).toArray) (l := ([str (y1.1)] ++ ([str (y1.2)]))) tsz34 H rfl rfl rfl (cells_agg _) rfl (fun u hu => List.all_eq_true.1 (rfl : (([str (y1.1)] ++ ([str (y1.2)]))).all (·.oneCell') = true) u hu) rfl) ?_; clear H; intro w3 H
      replace H : HS ⟨S, [], w⟩ S w3 [.blk b2 (([str (y1.1)] ++ ([str (y1.2)]))) 34, .osl (v1) (s1.1).length 1 cs1 rs1 9] := H
      refine wpList_nil ?_
      refine x_norm ?_; refine hK11 _ _ ?_; clear hK11
      obtain ⟨y2, e2, hb1⟩ := bnd hb1
      obtain ⟨y3, e3, hb1⟩ := bnd hb1
      obtain ⟨y4, e4, hb1⟩ := bnd hb1
      obtain ⟨y5, e5, hb1⟩ := bnd hb1
      apply wp_region_ext 9 (kinds [(3, .inl (str (y2))), (7, .inl (str (y4)))]) rfl rfl (by kernel_rfl); intro vs1
      simp only [List.take_succ_cons, List.take_zero, List.drop_succ_cons, List.drop_zero]
      replace H := H.drew
      refine t_float (fun w => r_move (v := v1) q1) rfl rfl ?_
      refine t_val (fun w hx => r_field fa34_0 rfl) rfl rfl ?_
      refine t_val (fun w hx => h_load1 (v := str (y1.1)) to9 (H.ext hx) rfl (k := 0) rfl rfl) rfl rfl ?_
      refine t_call (l := [str (y1.1), str (([43] : List UInt8))]) rfl rfl is40 rfl (fun w hx hF => (codec_percent_c (H.ext hx).sub e2).mono (fun _ _ ⟨he, hx⟩ => ⟨he, hx⟩)) ?_
      refine t_val (fun w hx => r_cat (r := y3) rfl rfl (by have := (app_some e3).1; omega) (app_some e3).2) rfl rfl ?_
      refine t_val (fun w hx => r_field fa34_1 rfl) rfl rfl ?_
      refine t_val (fun w hx => h_load1 (v := str (y1.2)) to9 (H.ext hx) rfl (k := 0) rfl rfl) rfl rfl ?_
      refine t_call (l := [str (y1.2), str (([43] : List UInt8))]) rfl rfl is40 rfl (fun w hx hF => (codec_percent_c (H.ext hx).sub e4).mono (fun _ _ ⟨he, hx⟩ => ⟨he, hx⟩)) ?_
      refine t_val (fun w hx => r_cat (r := y5) rfl rfl (by have := (app_some e5).1; omega) (app_some e5).2) rfl rfl ?_
      refine t_nil (fun w4 hx hF hA => ?_)
      replace H := H.ext hx; clear hx hF hA
      have g5 : RL S ([str (y5)] ++ ([] : List Value)) ([y5] : List (List UInt8)) := (RL.cons rpT RL.nil)
      refine p_of1 (a_bslice (N := 1) (vals := [(0, str (y5))]) (l := ([str (y5)] ++ ([] : List Value))) tn39 H rfl rfl rfl g5.len) ?_; clear H; intro w5 v2 H
      generalize ([str (y5)] ++ ([] : List Value)) = cs3 at H g5
      replace H : HS ⟨S, [], w⟩ S w5 [.osl (v2) (([y5] : List (List UInt8))).length 1 cs3 [] 9, .blk b2 (([str (y1.1)] ++ ([str (y1.2)]))) 34, .osl (v1) (s1.1).length 1 cs1 rs1 9] := H
      obtain ⟨y6, e6, hb1⟩ := bnd hb1
      refine p_of1 (a_appendX (k := 2) (v2 := v2) tn39 rfl H rfl rfl g1 rfl (H.slW (k := 0) rfl) g5 e6) ?_; clear H; rintro w6 v3 ⟨cs4, rs2, H, g6⟩
      replace H : HS ⟨S, [], w⟩ S w6 [.osl (v2) (([y5] : List (List UInt8))).length 1 cs3 [] 9, .blk b2 (([str (y1.1)] ++ ([str (y1.2)]))) 34, .osl (v3) (y6).length 1 cs4 rs2 9] := H
      replace H := H.sel [1, 2] rfl
      replace H : HS ⟨S, [], w⟩ S w6 [.blk b2 (([str (y1.1)] ++ ([str (y1.2)]))) 34, .osl (v3) (y6).length 1 cs4 rs2 9] := H
      refine p_val (r_assign (v := v3) rfl) ?_
      refine wpList_nil ?_; refine on_norm ?_
      refine b_norm ?_
      refine x_norm ?_; refine hK10 _ _ ?_; clear hK10
      refine wp_region_lit ?_
      refine p_val (r_add (r := w64 (s1.2 + 1)) q2 rfl rfl) ?_
      refine p_val (r_move (v := .int .i64 ((w64 (s1.2 + 1)))) rfl) ?_
      refine wpList_nil ?_
      refine x_norm ?_
      replace H := H.sel [1] rfl
      replace H : HS ⟨S, [], w⟩ S w6 [.osl (v3) (y6).length 1 cs4 rs2 9] := H
      obtain rfl := Option.some.inj hb1
      exact ⟨(y6, (w64 (s1.2 + 1))), _, rfl, (by (repeat (refine keep_cons rfl ?_)); refine keep_sub k3 rfl ?_; (repeat (refine keep_cons rfl ?_)); exact fun _ _ => rfl), ⟨_, _, _, rfl, rfl, H, g6⟩, hh1⟩
    · replace hb1 := cnd_f hb1 hc2
      refine wp_exit ?_
      refine x_exit ?_
      refine x_exit ?_
      refine b_hit ?_
      refine x_norm ?_
      replace H : HS ⟨S, [], w⟩ S w1 [.osl (v1) (s1.1).length 1 cs1 rs1 9] := H
      obtain rfl := Option.some.inj hb1
      obtain rfl := Option.some.inj hh1
      obtain rfl := Option.some.inj hE2
      exact J1 _ _ _ _ _ (by (repeat (refine keep_cons rfl ?_)); refine keep_sub k3 rfl ?_; (repeat (refine keep_cons rfl ?_)); refine keep_name k2 ?_; (repeat (refine keep_cons rfl ?_)); exact fun _ _ => rfl) (show _ = (v1 : Value) from q1) H g1
def codec_FromForm_b0 (y1 : (List (List UInt8))) (s1 : (List ((List UInt8) × (List UInt8))) × Int) : Option (((List ((List UInt8) × (List UInt8))) × Int) ⊕ (((List ((List UInt8) × (List UInt8))) × Int) ⊕ ((List ((List UInt8) × (List UInt8)))))) :=
  bif decide (s1.2 < ((y1).length : Int)) then (Option.bind (idx y1 s1.2) fun y2 => bif (y2 == ([] : List UInt8)) then (some (.inr (.inl ((([] : List ((List UInt8) × (List UInt8))), 13))))) else (Option.bind (ReplaceAll_p y2 ([43] : List UInt8) ([32] : List UInt8)) fun y3 => Option.bind (Cut_p y3 ([61] : List UInt8)) fun y4 => Option.bind (codec_FromPercent_p y4.1) fun y5 => Option.bind (codec_FromPercent_p y4.2.1) fun y6 => bif (bif (y5.2 != 0) then true else (y6.2 != 0)) then (some (.inr (.inl ((([] : List ((List UInt8) × (List UInt8))), 12))))) else (Option.bind (app s1.1 ([(y5.1, y6.1)] : List ((List UInt8) × (List UInt8)))) fun y7 => some (.inl ((y7, (w64 (s1.2 + 1)))))))) else (some (.inr (.inr (s1.1))))
def codec_FromForm_p (x0 : List UInt8) : Option ((List ((List UInt8) × (List UInt8))) × Int) :=
  Option.bind (Split_p x0 ([38] : List UInt8)) fun y1 => bif (bif decide ((8192 : Int) < ((x0).length : Int)) then true else decide ((64 : Int) < ((y1).length : Int))) then (some ((([] : List ((List UInt8) × (List UInt8))), 14))) else (bif (x0 == ([] : List UInt8)) then (some ((([] : List ((List UInt8) × (List UInt8))), 0))) else (jn (Option.bind (iter (codec_FromForm_b0 y1) ((([] : List ((List UInt8) × (List UInt8))), 0))) (fun e => jnO e (fun e1 => some (.inr (e1))) (fun e2 => some (.inl (e2))))) (fun t1 => some ((t1, 0))) (fun e => some (e))))
theorem codec_FromForm_c {S : Mem} {w : World} (H : HS ⟨S, keysR [], w⟩ S w []) (hG : GV S) {x0 : List UInt8} {r : (List ((List UInt8) × (List UInt8))) × Int} (hF : codec_FromForm_p x0 = some r) :
    Calls Tryd.prog 26 #[str (x0)] w fun e w' => ∃ (S2 : Mem) (pv6 : Value) (pcs6 prs6 : List Value), e = .returned (.tuple #[pv6, .int .i64 (r.2)]) ∧ HS ⟨S, keysR [], w⟩ S2 w' [.osl (pv6) (r.1).length 2 pcs6 prs6 34] ∧ RL S2 pcs6 r.1 := by
  refine enter (n := 68) Tryd.func26 rfl rfl rfl ?_
  unfold codec_FromForm_p at hF
  refine wp_seq_k ?_; intro K1 hK1
  refine wp_region_lit ?_
  refine p_val (r_assign (v := .slice none 0 0) rfl) ?_
  refine p_val (r_assign (v := .int .i64 (0)) rfl) ?_
  refine wpList_nil ?_
  refine x_norm ?_; refine hK1 _ _ ?_; clear hK1
  refine wp_seq_k ?_; intro K2 hK2
  refine wp_region_lit ?_
  refine p_val (r_move (v := str (x0)) rfl) ?_
  obtain ⟨y1, e1, hF⟩ := bnd hF
  refine p_call (l := [str (x0), str (([38] : List UInt8))]) is44 rfl ?_
  refine (Split_c H.sub hG e1).mono ?_; rintro _ w1 ⟨hx, v1, rfl, g1⟩
  obtain ⟨S1, hle1, H1, g1⟩ : ∃ S1, Mem.le S S1 ∧ HS ⟨S, keysR [], w⟩ S1 w1 [] ∧ RdS S1 v1 y1 := ⟨_, gr_le H.sub, H.call hx, g1⟩; clear H hx; have H := H1; clear H1
  replace hG := GV.mono hG hle1
  refine p_val (r_assign (v := v1) rfl) ?_
  refine wpList_nil ?_
  refine x_norm ?_; refine hK2 _ _ ?_; clear hK2
  refine wp_seq_k ?_; intro K3 hK3
  refine wp_block ?_
  refine wp_seq_k ?_; intro K4 hK4
  refine wp_region_lit ?_
  refine p_val (r_move (v := str (x0)) rfl) ?_
  refine p_val (r_lenT (N := (x0).length) u9 rfl rfl) ?_
  refine p_val (r_gtr (t := decide ((8192 : Int) < ((x0).length : Int))) rfl rfl rfl) ?_
  refine p_val (r_move (v := .bool (decide ((8192 : Int) < ((x0).length : Int)))) rfl) ?_
  refine nameL fun m1 k1 => ?_
  refine gs_at 4 fun K5 hK5 R1 hR1 => ?_
  have J1 : ∀ (m2 : FM), (∀ t, has [22, 23, 24, 25] t = false → look m2 t = look m1 t) → look m2 25 = .bool ((bif decide ((8192 : Int) < ((x0).length : Int)) then true else decide ((64 : Int) < ((y1).length : Int)))) → K5 m2 w1 := by
    intro m2 k2 q1
    have q2 : look m2 0 = str (x0) := (k2 0 rfl).trans (k1 0)
    have q3 : look m2 4 = v1 := (k2 4 rfl).trans (k1 4)
    refine hK5 _ _ ?_; clear hK5 hR1
    refine p_val (r_assign (v := .bool ((bif decide ((8192 : Int) < ((x0).length : Int)) then true else decide ((64 : Int) < ((y1).length : Int))))) q1) ?_
    refine wpList_nil ?_
    refine x_norm ?_; refine hK4 _ _ ?_; clear hK4
    refine c_split (t := (bif decide ((8192 : Int) < ((x0).length : Int)) then true else decide ((64 : Int) < ((y1).length : Int)))) rfl (fun hc1 => ?_) (fun hc1 => ?_)
    · replace hF := cnd_t hF hc1
      refine wp_seq_k ?_; intro K6 hK6
      refine wp_region_lit ?_
      refine p_val (r_assign (v := .slice none 0 0) rfl) ?_
      refine p_val (r_assign (v := .int .i64 (14)) rfl) ?_
      refine wpList_nil ?_
      refine x_norm ?_; refine hK6 _ _ ?_; clear hK6
      refine wp_ret ?_
      refine b_ret ?_
      refine x_ret ?_
      replace H := H.nilOwn 2 34; have g7 : RL S1 [] ([] : List ((List UInt8) × (List UInt8))) := RL.nil
      replace H : HS ⟨S, keysR [], w⟩ S1 w1 [.osl (.slice none 0 0) (([] : List ((List UInt8) × (List UInt8)))).length 2 [] [] 34] := H
      obtain rfl := Option.some.inj hF
      refine e_2 rfl (q_tmp (v := .slice none 0 0) rfl) (q_tmp (v := .int .i64 (14)) rfl) ?_
      exact ⟨_, _, _, _, rfl, H, g7⟩
    · replace hF := cnd_f hF hc1
      refine wp_seq_k ?_; intro K7 hK7
      refine wp_region_lit ?_
      refine p_val (r_move (v := str (x0)) q2) ?_
      refine p_val (r_eqT (t := (x0 == ([] : List UInt8))) rfl rfl rfl) ?_
      refine p_val (r_assign (v := .bool ((x0 == ([] : List UInt8)))) rfl) ?_
      refine wpList_nil ?_
      refine x_norm ?_; refine hK7 _ _ ?_; clear hK7
      refine c_split (t := (x0 == ([] : List UInt8))) rfl (fun hc2 => ?_) (fun hc2 => ?_)
      · replace hF := cnd_t hF hc2
        refine wp_seq_k ?_; intro K8 hK8
        refine wp_region_lit ?_
        refine p_val (r_assign (v := .slice none 0 0) rfl) ?_
        refine p_val (r_assign (v := .int .i64 (0)) rfl) ?_
        refine wpList_nil ?_
        refine x_norm ?_; refine hK8 _ _ ?_; clear hK8
        refine wp_ret ?_
        refine b_ret ?_
        refine x_ret ?_
        replace H := H.nilOwn 2 34; have g8 : RL S1 [] ([] : List ((List UInt8) × (List UInt8))) := RL.nil
        replace H : HS ⟨S, keysR [], w⟩ S1 w1 [.osl (.slice none 0 0) (([] : List ((List UInt8) × (List UInt8)))).length 2 [] [] 34] := H
        obtain rfl := Option.some.inj hF
        refine e_2 rfl (q_tmp (v := .slice none 0 0) rfl) (q_tmp (v := .int .i64 (0)) rfl) ?_
        exact ⟨_, _, _, _, rfl, H, g8⟩
      · replace hF := cnd_f hF hc2
        refine wp_skip ?_
        refine b_norm ?_
        refine x_norm ?_; refine hK3 _ _ ?_; clear hK3
        refine wp_seq_k ?_; intro K9 hK9
        refine wp_region_lit ?_
        refine p_val (r_assign (v := .slice none 0 0) rfl) ?_
        refine wpList_nil ?_
        refine x_norm ?_; refine hK9 _ _ ?_; clear hK9
        refine wp_seq_k ?_; intro K10 hK10
        refine nameF fun m3 k3 => ?_
        obtain ⟨o1, hE1, hF1⟩ := jn_some hF
        have J3 : ∀ (t1 : (List ((List UInt8) × (List UInt8)))) (v5 : Value) (cs5 rs3 : List Value) (m8 : FM) (w9 : World), o1 = .inl t1 → (∀ t, has [2, 3, 5, 7, 8, 9, 10, 11, 12, 13, 14, 29, 30, 31, 32, 33, 34, 35, 36, 37, 38, 39, 40, 41, 42, 43, 44, 45, 46, 47, 48, 49, 50, 51, 52, 53, 54, 55, 56, 57, 58, 59, 60, 61, 62, 63, 64, 65, 66] t = false → look m8 t = look m3 t) → look m8 5 = v5 → HS ⟨S, keysR [], w⟩ S1 w9 [.osl (v5) (t1).length 2 cs5 rs3 34] → RL S1 cs5 t1 → K10 (fr 68 m8) w9 := by
          clear H; intro t1 v5 cs5 rs3 m8 w9 ho k9 q15 H g6
          replace hF1 := jnO_l hF1 ho
          refine hK10 _ _ ?_
          refine wp_seq_k ?_; intro K26 hK26
          refine wp_region_lit ?_
          refine p_val (r_move (v := v5) q15) ?_
          refine p_val (r_assign (v := v5) rfl) ?_
          refine p_val (r_assign (v := .int .i64 (0)) rfl) ?_
          refine wpList_nil ?_
          refine x_norm ?_; refine hK26 _ _ ?_; clear hK26
          refine wp_ret ?_
          replace H : HS ⟨S, keysR [], w⟩ S1 w9 [.osl (v5) (t1).length 2 cs5 rs3 34] := H
          obtain rfl := Option.some.inj hF1
          refine e_2 rfl (q_tmp (v := v5) rfl) (q_tmp (v := .int .i64 (0)) rfl) ?_
          exact ⟨_, _, _, _, rfl, H, g6⟩
        refine wp_seq_k ?_; intro K11 hK11
        refine wp_region_lit ?_
        refine p_val (r_move (v := v1) ((k3 4).trans q3)) ?_
        refine p_val (r_lenR' u39 rfl g1 H.sub) ?_
        refine p_val (r_move (v := .int .i64 (0)) rfl) ?_
        refine wpList_nil ?_
        refine x_norm ?_; refine hK11 _ _ ?_; clear hK11
        refine wp_block ?_
        refine nameF fun m4 k4 => ?_
        obtain ⟨out1, hL1, hE2⟩ := bnd hE1
        replace H := H.nilOwn 2 34; have g3 : RL S1 [] ([] : List ((List UInt8) × (List UInt8))) := RL.nil
        replace H : HS ⟨S, keysR [], w⟩ S1 w1 [.osl (.slice none 0 0) (([] : List ((List UInt8) × (List UInt8)))).length 2 [] [] 34] := H
        refine loopI [2, 3, 5, 7, 8, 9, 10, 11, 12, 13, 14, 31, 32, 33, 34, 35, 36, 37, 38, 39, 40, 41, 42, 43, 44, 45, 46, 47, 48, 49, 50, 51, 52, 53, 54, 55, 56, 57, 58, 59, 60, 61, 62, 63, 64, 65, 66] (fun (s1 : (List ((List UInt8) × (List UInt8))) × Int) (m5 : FM) (w2 : World) => ∃ (v2 : Value) (cs1 rs1 : List Value), look m5 5 = v2 ∧ look m5 31 = .int .i64 (s1.2) ∧ HS ⟨S, keysR [], w⟩ S1 w2 [.osl (v2) (s1.1).length 2 cs1 rs1 34] ∧ RL S1 cs1 s1.1) hL1 ⟨_, _, _, (show _ = (.slice none 0 0 : Value) from ((k4 5).trans (k3 5))), (k4 31), H, g3⟩ ?_
        clear H; intro k6 s1 m5 w2 k5 hI1 o2 hb1 hh1; obtain ⟨v2, cs1, rs1, q4, q5, H, g2⟩ := hI1
        have q6 : look m5 29 = v1 := (k5 29 rfl).trans (k4 29)
        have q7 : look m5 30 = .int .i64 (((y1).length : Int)) := (k5 30 rfl).trans (k4 30)
        unfold codec_FromForm_b0 at hb1
        refine wp_seq_k ?_; intro K12 hK12
        refine wp_region_lit ?_
        refine p_val (r_lss (t := decide (s1.2 < ((y1).length : Int))) q5 q7 rfl) ?_
        refine wpList_nil ?_
        refine x_norm ?_; refine hK12 _ _ ?_; clear hK12
        refine wp_seq_k ?_; intro K13 hK13
        refine c_split (t := decide (s1.2 < ((y1).length : Int))) rfl (fun hc3 => ?_) (fun hc3 => ?_)
        · replace hb1 := cnd_t hb1 hc3
          refine wp_skip ?_
          refine x_norm ?_; refine hK13 _ _ ?_; clear hK13
          refine wp_seq_k ?_; intro K14 hK14
          refine wp_block ?_
          refine wp_seq_k ?_; intro K15 hK15
          refine wp_region_lit ?_
          obtain ⟨y2, e2, hb1⟩ := bnd hb1
          obtain ⟨b1, o3, N1, c1, cs2, hv1, hi1, hc4, hr1⟩ := g1.get (idx_some e2).2
          refine p_val (r_addrV (i := (s1.2 : Int).toNat) u39 tsz9 q6 hv1 q5 (idx_some e2).1 hi1) ?_
          obtain rfl := elT hr1
          refine p_val (s_load1 (p := (o3 + (s1.2 : Int).toNat * 1)) (o := 0) (v := str (y2)) to9 H.sub rfl hc4 rfl) ?_
          refine p_val (r_assign (v := str (y2)) rfl) ?_
          refine wpList_nil ?_
          refine x_norm ?_; refine hK15 _ _ ?_; clear hK15
          refine wp_seq_k ?_; intro K16 hK16
          refine wp_seq_k ?_; intro K17 hK17
          refine wp_region_lit ?_
          refine p_val (r_move (v := str (y2)) rfl) ?_
          refine p_val (r_eqT (t := (y2 == ([] : List UInt8))) rfl rfl rfl) ?_
          refine wpList_nil ?_
          refine x_norm ?_; refine hK17 _ _ ?_; clear hK17
          refine c_split (t := (y2 == ([] : List UInt8))) rfl (fun hc5 => ?_) (fun hc5 => ?_)
          · replace hb1 := cnd_t hb1 hc5
            refine wp_seq_k ?_; intro K18 hK18
            refine wp_region_lit ?_
            refine p_val (r_assign (v := .slice none 0 0) rfl) ?_
            refine p_val (r_assign (v := .int .i64 (13)) rfl) ?_
            refine wpList_nil ?_
            refine x_norm ?_; refine hK18 _ _ ?_; clear hK18
            refine wp_ret ?_
            refine x_ret ?_
            refine b_ret ?_
            refine x_ret ?_
            refine x_ret ?_
            refine b_ret ?_
            refine x_ret ?_
            replace H := H.nilOwn 2 34; have g9 : RL S1 [] ([] : List ((List UInt8) × (List UInt8))) := RL.nil
            replace H := H.sel [0] rfl
            replace H : HS ⟨S, keysR [], w⟩ S1 w2 [.osl (.slice none 0 0) (([] : List ((List UInt8) × (List UInt8)))).length 2 [] [] 34] := H
            obtain rfl := Option.some.inj hb1
            obtain rfl := Option.some.inj hh1
            obtain rfl := Option.some.inj hE2
            obtain rfl := Option.some.inj hF1
            refine e_2 rfl (q_tmp (v := .slice none 0 0) rfl) (q_tmp (v := .int .i64 (13)) rfl) ?_
            exact ⟨_, _, _, _, rfl, H, g9⟩
          · replace hb1 := cnd_f hb1 hc5
            refine wp_skip ?_
            refine x_norm ?_; refine hK16 _ _ ?_; clear hK16
            refine wp_seq_k ?_; intro K19 hK19
            refine wp_region_lit ?_
            refine p_val (r_move (v := str (y2)) rfl) ?_
            obtain ⟨y3, e3, hb1⟩ := bnd hb1
            refine p_call (l := [str (y2), str (([43] : List UInt8)), str (([32] : List UInt8))]) is45 rfl ?_
            refine (ReplaceAll_c H.sub hG e3).mono ?_; rintro _ w3 ⟨rfl, hx⟩; replace H := H.ext hx; clear hx
            obtain ⟨y4, e4, hb1⟩ := bnd hb1
            refine p_call (l := [str (y3), str (([61] : List UInt8))]) is37 rfl ?_
            refine (Cut_c H.sub hG e4).mono ?_; rintro _ w4 ⟨rfl, hx⟩; replace H := H.ext hx; clear hx
            refine p_val (r_move (v := .tuple #[str (y4.1), str (y4.2.1), .bool (y4.2.2)]) rfl) ?_
            refine p_val (r_extract (v := str (y4.1)) rfl rfl) ?_
            refine p_val (r_extract (v := str (y4.2.1)) rfl rfl) ?_
            refine p_val (r_extract (v := .bool (y4.2.2)) rfl rfl) ?_
            refine p_val (r_assign (v := str (y4.1)) rfl) ?_
            refine p_val (r_assign (v := str (y4.2.1)) rfl) ?_
            refine p_val (r_assign (v := .bool (y4.2.2)) rfl) ?_
            refine wpList_nil ?_
            refine x_norm ?_; refine hK19 _ _ ?_; clear hK19
            refine wp_seq_k ?_; intro K20 hK20
            refine wp_region_lit ?_
            refine p_val (r_move (v := str (y4.1)) rfl) ?_
            obtain ⟨y5, e5, hb1⟩ := bnd hb1
            refine p_call (l := [str (y4.1)]) is20 rfl ?_
            refine (codec_FromPercent_c H.sub hG e5).mono ?_; rintro _ w5 ⟨rfl, hx⟩; replace H := H.ext hx; clear hx
            refine p_val (r_move (v := .tuple #[str (y5.1), .int .i64 (y5.2)]) rfl) ?_
            refine p_val (r_extract (v := str (y5.1)) rfl rfl) ?_
            refine p_val (r_extract (v := .int .i64 (y5.2)) rfl rfl) ?_
            refine p_val (r_assign (v := str (y5.1)) rfl) ?_
            refine p_val (r_assign (v := .int .i64 (y5.2)) rfl) ?_
            refine wpList_nil ?_
            refine x_norm ?_; refine hK20 _ _ ?_; clear hK20
            refine wp_seq_k ?_; intro K21 hK21
            refine wp_region_lit ?_
            refine p_val (r_move (v := str (y4.2.1)) rfl) ?_
            obtain ⟨y6, e6, hb1⟩ := bnd hb1
            refine p_call (l := [str (y4.2.1)]) is20 rfl ?_
            refine (codec_FromPercent_c H.sub hG e6).mono ?_; rintro _ w6 ⟨rfl, hx⟩; replace H := H.ext hx; clear hx
            refine p_val (r_move (v := .tuple #[str (y6.1), .int .i64 (y6.2)]) rfl) ?_
            refine p_val (r_extract (v := str (y6.1)) rfl rfl) ?_
            refine p_val (r_extract (v := .int .i64 (y6.2)) rfl rfl) ?_
            refine p_val (r_assign (v := str (y6.1)) rfl) ?_
            refine p_val (r_assign (v := .int .i64 (y6.2)) rfl) ?_
            refine wpList_nil ?_
            refine x_norm ?_; refine hK21 _ _ ?_; clear hK21
            refine wp_seq_k ?_; intro K22 hK22
            refine wp_seq_k ?_; intro K23 hK23
            refine wp_region_lit ?_
            refine p_val (r_move (v := .int .i64 (y5.2)) rfl) ?_
            refine p_val (r_neq (t := (y5.2 != 0)) rfl rfl rfl) ?_
            refine p_val (r_move (v := .bool ((y5.2 != 0))) rfl) ?_
            refine nameL fun m6 k7 => ?_
            refine gs_at 3 fun K24 hK24 R4 hR4 => ?_
            have J2 : ∀ (m7 : FM), (∀ t, has [57, 58, 59] t = false → look m7 t = look m6 t) → look m7 59 = .bool ((bif (y5.2 != 0) then true else (y6.2 != 0))) → K24 m7 w6 := by
              intro m7 k8 q8
              have q9 : look m7 29 = v1 := (k8 29 rfl).trans ((k7 29).trans q6)
              have q10 : look m7 30 = .int .i64 (((y1).length : Int)) := (k8 30 rfl).trans ((k7 30).trans q7)
              have q11 : look m7 5 = v2 := (k8 5 rfl).trans ((k7 5).trans q4)
              have q12 : look m7 31 = .int .i64 (s1.2) := (k8 31 rfl).trans ((k7 31).trans q5)
              have q13 : look m7 11 = str (y5.1) := (k8 11 rfl).trans (k7 11)
              have q14 : look m7 13 = str (y6.1) := (k8 13 rfl).trans (k7 13)
              refine hK24 _ _ ?_; clear hK24 hR4
              refine wpList_nil ?_
              refine x_norm ?_; refine hK23 _ _ ?_; clear hK23
              refine c_split (t := (bif (y5.2 != 0) then true else (y6.2 != 0))) q8 (fun hc6 => ?_) (fun hc6 => ?_)
              · replace hb1 := cnd_t hb1 hc6
                refine wp_seq_k ?_; intro K25 hK25
                refine wp_region_lit ?_
                refine p_val (r_assign (v := .slice none 0 0) rfl) ?_
                refine p_val (r_assign (v := .int .i64 (12)) rfl) ?_
                refine wpList_nil ?_
                refine x_norm ?_; refine hK25 _ _ ?_; clear hK25
                refine wp_ret ?_
                refine x_ret ?_
                refine b_ret ?_
                refine x_ret ?_
                refine x_ret ?_
                refine b_ret ?_
                refine x_ret ?_
                replace H := H.nilOwn 2 34; have g10 : RL S1 [] ([] : List ((List UInt8) × (List UInt8))) := RL.nil
                replace H := H.sel [0] rfl
                replace H : HS ⟨S, keysR [], w⟩ S1 w6 [.osl (.slice none 0 0) (([] : List ((List UInt8) × (List UInt8)))).length 2 [] [] 34] := H
                obtain rfl := Option.some.inj hb1
                obtain rfl := Option.some.inj hh1
                obtain rfl := Option.some.inj hE2
                obtain rfl := Option.some.inj hF1
                refine e_2 rfl (q_tmp (v := .slice none 0 0) rfl) (q_tmp (v := .int .i64 (12)) rfl) ?_
                exact ⟨_, _, _, _, rfl, H, g10⟩
              · replace hb1 := cnd_f hb1 hc6
                refine wp_skip ?_
                refine x_norm ?_; refine hK22 _ _ ?_; clear hK22
                refine wp_region_lit ?_
                refine p_val (r_move (v := v2) q11) ?_
                refine p_val (r_move (v := str (y5.1)) q13) ?_
                refine p_val (r_move (v := str (y6.1)) q14) ?_
                refine p_val (r_build (vals := [(0, str (y5.1)), (1, str (y6.1))]) (l := ([str (y5.1)] ++ ([str (y6.1)]))) tb34 rfl rfl) ?_
                have g4 : RL S1 (([str (y5.1)] ++ ([str (y6.1)])) ++ ([] : List Value)) ([(y5.1, y6.1)] : List ((List UInt8) × (List UInt8))) := (RL.cons (rpP rpT rpT) RL.nil)
                refine p_of1 (a_bslice (N := 1) (vals := [(0, .agg (([str (y5.1)] ++ ([str (y6.1)]))).toArray)]) (l := (([str (y5.1)] ++ ([str (y6.1)])) ++ ([] : List Value))) tn28 H rfl rfl rfl g4.len) ?_; clear H; intro w7 v3 H
                generalize (([str (y5.1)] ++ ([str (y6.1)])) ++ ([] : List Value)) = cs3 at H g4
                replace H : HS ⟨S, keysR [], w⟩ S1 w7 [.osl (v3) (([(y5.1, y6.1)] : List ((List UInt8) × (List UInt8)))).length 2 cs3 [] 34, .osl (v2) (s1.1).length 2 cs1 rs1 34] := H
                obtain ⟨y7, e7, hb1⟩ := bnd hb1
                refine p_of1 (a_appendX (k := 1) (v2 := v3) tn28 rfl H rfl rfl g2 rfl (H.slW (k := 0) rfl) g4 e7) ?_; clear H; rintro w8 v4 ⟨cs4, rs2, H, g5⟩
                replace H : HS ⟨S, keysR [], w⟩ S1 w8 [.osl (v3) (([(y5.1, y6.1)] : List ((List UInt8) × (List UInt8)))).length 2 cs3 [] 34, .osl (v4) (y7).length 2 cs4 rs2 34] := H
                replace H := H.sel [1] rfl
                replace H : HS ⟨S, keysR [], w⟩ S1 w8 [.osl (v4) (y7).length 2 cs4 rs2 34] := H
                refine p_val (r_assign (v := v4) rfl) ?_
                refine wpList_nil ?_
                refine b_norm ?_
                refine x_norm ?_; refine hK14 _ _ ?_; clear hK14
                refine wp_region_lit ?_
                refine p_val (r_add (r := w64 (s1.2 + 1)) q12 rfl rfl) ?_
                refine p_val (r_move (v := .int .i64 ((w64 (s1.2 + 1)))) rfl) ?_
                refine wpList_nil ?_
                refine x_norm ?_
                replace H : HS ⟨S, keysR [], w⟩ S1 w8 [.osl (v4) (y7).length 2 cs4 rs2 34] := H
                obtain rfl := Option.some.inj hb1
                exact ⟨(y7, (w64 (s1.2 + 1))), _, rfl, (by (repeat (refine keep_cons rfl ?_)); refine keep_sub k8 rfl ?_; (repeat (refine keep_cons rfl ?_)); refine keep_name k7 ?_; (repeat (refine keep_cons rfl ?_)); refine keep_sub k5 rfl ?_; (repeat (refine keep_cons rfl ?_)); exact fun _ _ => rfl), ⟨_, _, _, rfl, rfl, H, g5⟩, hh1⟩
            refine p_gs (j := 2) (gvl_at rfl rfl (k7 56)) (fun hb2 => ?_) (fun hb2 => ?_)
            · skip
              refine p_skip (gvl_at rfl rfl (k7 56)) hb2 ?_
              rw [put_fr]
              refine p_skip (gvl_at rfl rfl (k7 56)) hb2 ?_
              rw [put_fr]
              refine p_val (r_pickt (v := .bool (true)) (k7 56) hb2 rfl) ?_
              refine hR4 _ _ ?_
              exact J2 _ (by (repeat (refine keep_cons rfl ?_)); exact fun _ _ => rfl) (show (.bool (true) : Value) = .bool ((bif (y5.2 != 0) then true else (y6.2 != 0))) from congrArg Value.bool (by simp only [hb2, cond_true, cond_false]))
            · skip
              refine p_want (gvl_at rfl rfl (k7 56)) hb2 ?_
              refine p_val (r_move (v := .int .i64 (y6.2)) (k7 14)) ?_
              refine p_want (gvl_at rfl rfl (k7 56)) hb2 ?_
              refine p_val (r_neq (t := (y6.2 != 0)) rfl rfl rfl) ?_
              refine p_val (r_pickf (v := .bool ((y6.2 != 0))) (k7 56) hb2 rfl) ?_
              refine hR4 _ _ ?_
              exact J2 _ (by (repeat (refine keep_cons rfl ?_)); exact fun _ _ => rfl) (show (.bool ((y6.2 != 0)) : Value) = .bool ((bif (y5.2 != 0) then true else (y6.2 != 0))) from congrArg Value.bool (by simp only [hb2, cond_true, cond_false]))
        · replace hb1 := cnd_f hb1 hc3
          refine wp_exit ?_
          refine x_exit ?_
          refine x_exit ?_
          refine b_hit ?_
          refine x_norm ?_
          replace H : HS ⟨S, keysR [], w⟩ S1 w2 [.osl (v2) (s1.1).length 2 cs1 rs1 34] := H
          obtain rfl := Option.some.inj hb1
          obtain rfl := Option.some.inj hh1
          obtain rfl := Option.some.inj hE2
          exact J3 _ _ _ _ _ _ rfl (by (repeat (refine keep_cons rfl ?_)); refine keep_sub k5 rfl ?_; (repeat (refine keep_cons rfl ?_)); refine keep_name k4 ?_; (repeat (refine keep_cons rfl ?_)); exact fun _ _ => rfl) (show _ = (v2 : Value) from q4) H g2
  refine p_gs (j := 3) (gvl_at rfl rfl (k1 21)) (fun hb3 => ?_) (fun hb3 => ?_)
  · skip
    refine p_skip (gvl_at rfl rfl (k1 21)) hb3 ?_
    rw [put_fr]
    refine p_skip (gvl_at rfl rfl (k1 21)) hb3 ?_
    rw [put_fr]
    refine p_skip (gvl_at rfl rfl (k1 21)) hb3 ?_
    rw [put_fr]
    refine p_val (r_pickt (v := .bool (true)) (k1 21) hb3 rfl) ?_
    refine hR1 _ _ ?_
    exact J1 _ (by (repeat (refine keep_cons rfl ?_)); exact fun _ _ => rfl) (show (.bool (true) : Value) = .bool ((bif decide ((8192 : Int) < ((x0).length : Int)) then true else decide ((64 : Int) < ((y1).length : Int)))) from congrArg Value.bool (by simp only [hb3, cond_true, cond_false]))
  · skip
    refine p_want (gvl_at rfl rfl (k1 21)) hb3 ?_
    refine p_val (r_move (v := v1) (k1 4)) ?_
    refine p_want (gvl_at rfl rfl (k1 21)) hb3 ?_
    refine p_val (r_lenR' u39 rfl g1 H.sub) ?_
    refine p_want (gvl_at rfl rfl (k1 21)) hb3 ?_
    refine p_val (r_gtr (t := decide ((64 : Int) < ((y1).length : Int))) rfl rfl rfl) ?_
    refine p_val (r_pickf (v := .bool (decide ((64 : Int) < ((y1).length : Int)))) (k1 21) hb3 rfl) ?_
    refine hR1 _ _ ?_
    exact J1 _ (by (repeat (refine keep_cons rfl ?_)); exact fun _ _ => rfl) (show (.bool (decide ((64 : Int) < ((y1).length : Int))) : Value) = .bool ((bif decide ((8192 : Int) < ((x0).length : Int)) then true else decide ((64 : Int) < ((y1).length : Int)))) from congrArg Value.bool (by simp only [hb3, cond_true, cond_false]))
end Go.Proofs.YtdomaggikbmooaaDoor
