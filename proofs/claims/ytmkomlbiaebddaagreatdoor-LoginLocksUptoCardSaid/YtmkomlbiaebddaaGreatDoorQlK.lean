/- What some functions compute, and that they do. A machine over plain values: contracts of some functions of Go's library. A machine over plain values: contracts of package hash and of people.Form. What some functions compute, over plain values, and that they do. Package otp: the steps of a window, one behind the other, as an iterator hands them on. Package otp: the code of a step is there; the last step of a window that has a code. Package otp: Find, by the kit's law of a range over a function. What is left open: operations that laws speak of. Conditions: none; definitions, and that they are there. A machine over plain values: library functions told by hand. A machine over plain values: slices.Sorted of maps.Keys. DERIVED: THE SHELF's CONTRACTS AT THIS DUMP, IN PLAIN WORDS (tools/lay-plain.mjs out of 'TryzSrtl.lean', which tools/lay-shelf.mjs wrote): THE SAME DECLARATIONS UNDER THE SAME NAMES: 'import', 'namespace', 'open', 'def', 'theorem' AND NOTHING ELSE: no command of the shelf's: FOR A HAND-IN. Each laying: the table of numbers ('.._ren') and one theorem, a field a fact of the dump's own or the kernel's comparison; each contract: ONE APPLICATION. slices.Sorted of maps.Keys at this program: the kit's contracts laid. Conditions: as each theorem says. -/
import Derived.KernelRfl
import Derived.RangeFuncNested
import Derived.RangeFuncBound
import Derived.RangeFuncCalls
import Derived.RangeFuncLeaves
import Derived.Shelf.Abstract
import Derived.Shelf.RegionOpen
import Derived.WalkKit
import Derived.OwnWalkIn
import Derived.TacticsInMore
import Derived.LoopNIn
import Derived.LoopIn
import Derived.Test.YtmkomlbiaebddaaGreatDoorProg
import Derived.Sort.KeysCollected
import Derived.Sort.Walk0
import Derived.Shelf.SlIter.Nil
import Derived.Shelf.SortM.Plain
import Derived.Shelf.SortM.SortNone
import Derived.Ground.GgzProg
import Derived.Ground.SlgmProg
import Derived.Test.YtmkomlbiaebddaaGreatDoorQlJ
namespace Go.Proofs.YtmkomlbiaebddaaGreatDoor
open Go Go.RowKit
section
attribute [local irreducible] wpList wpT Code.wp Calls Code.rounds
variable {S : Mem} {w : World}
theorem to9 : TOne Tryz.prog 9 := ⟨fun _ => by kernel_rfl, fun _ => by kernel_rfl⟩
theorem to100 : TOne Tryz.prog 100 := ⟨fun _ => by kernel_rfl, fun _ => by kernel_rfl⟩
theorem tz123 : TZero Tryz.prog 123 (.agg #[.pointer none, .slice none 0 0]) := fun _ => by kernel_rfl
theorem u41 : Tryz.prog.underlying 41 = some (.slice 9) := by kernel_rfl
theorem is39 : IsFn Tryz.prog 39 := isFn Tryz.func39 (by kernel_rfl) (by kernel_rfl)
theorem is89 : IsFn Tryz.prog 89 := isFn Tryz.func89 (by kernel_rfl) (by kernel_rfl)
theorem is90 : IsFn Tryz.prog 90 := isFn Tryz.func90 (by kernel_rfl) (by kernel_rfl)
theorem is117 : IsFn Tryz.prog 117 := isFn Tryz.func117 (by kernel_rfl) (by kernel_rfl)
theorem fa123_1 : TField Tryz.prog 123 1 1 := fun _ _ _ => by kernel_rfl
theorem tsz9 : TSz Tryz.prog 9 1 := fun _ => by kernel_rfl
theorem tsz100 : TSz Tryz.prog 100 1 := fun _ => by kernel_rfl
def Builder_WriteString_p (x0 : List UInt8) (x1 : List UInt8) : Option (Int × (List UInt8)) :=
 Option.bind (Builder_copyCheck_p x0) fun y1 => Option.bind (app y1 x1) fun y2 => some ((((x1).length : Int), y2))
theorem Builder_WriteString_c {b0_ : Nat} {x0 : List UInt8} {pv1 : Value} {pcs1 prs1 : List Value} {pa1 : Value} (H : HS ⟨S, keysR [.blk b0_ (([pa1] ++ ([pv1]))) 123, .osl (pv1) (x0).length 1 pcs1 prs1 5], w⟩ S w [.blk b0_ (([pa1] ++ ([pv1]))) 123, .osl (pv1) (x0).length 1 pcs1 prs1 5]) (pg1 : RL S pcs1 x0) (pg2 : BA b0_ pa1) {x1 : List UInt8} {r : Int × (List UInt8)} (hF : Builder_WriteString_p x0 x1 = some r) :
  Calls Tryz.prog 89 #[.pointer (some ⟨b0_, 0, none⟩), str (x1)] w fun e w' => ∃ (S2 : Mem) (pv4 : Value) (pcs4 prs4 : List Value) (pa4 : Value), e = .returned (.tuple #[.int .i64 (r.1), .nilIface]) ∧ HS ⟨S, keysR [.blk b0_ (([pa1] ++ ([pv1]))) 123, .osl (pv1) (x0).length 1 pcs1 prs1 5], w⟩ S2 w' [.blk b0_ (([pa4] ++ ([pv4]))) 123, .osl (pv4) (r.2).length 1 pcs4 prs4 5] ∧ RL S2 pcs4 r.2 ∧ BA b0_ pa4 := by
 refine enter (n := 19) Tryz.func89 rfl rfl rfl ?_
 unfold Builder_WriteString_p at hF
 refine sr ?_; intro K1 hK1
 refine p_as (v := .int .i64 (0)) rfl ?_
 refine p_as (v := .nilIface) rfl ?_
 refine xk hK1 ?_; clear hK1
 refine sr ?_; intro K2 hK2
 refine p_mv (v := .pointer (some ⟨b0_, 0, none⟩)) rfl ?_
 obtain ⟨y1, e1, hF⟩ := bnd hF
 refine p_call (l := [.pointer (some ⟨b0_, 0, none⟩)]) is117 rfl ?_
 refine (Builder_copyCheck_c (H.hand [0, 1] rfl) pg1 pg2 e1).mono ?_; rintro _ w1 ⟨S1, pv2, pcs2, prs2, pa2, rfl, H2, pg3, pg4⟩
 obtain ⟨H1, hle1⟩ := H.frame [0, 1] [] rfl H2; clear H H2; have H := H1; clear H1
 replace H : HS ⟨S, keysR [.blk b0_ (([pa1] ++ ([pv1]))) 123, .osl (pv1) (x0).length 1 pcs1 prs1 5], w⟩ S1 w1 [.blk b0_ (([pa2] ++ ([pv2]))) 123, .osl (pv2) (y1).length 1 pcs2 prs2 5] := H
 refine xk hK2 ?_; clear hK2
 refine sr ?_; intro K3 hK3
 refine p_mv (v := .pointer (some ⟨b0_, 0, none⟩)) rfl ?_
 refine p_mv (v := .pointer (some ⟨b0_, 0, none⟩)) rfl ?_
 refine p_val (r_nilck rfl) ?_
 refine p_val (r_field fa123_1 rfl) ?_
 refine p_val (h_load1 (v := pv2) to100 H rfl (k := 0) rfl rfl) ?_
 refine p_mv (v := str (x1)) rfl ?_
 obtain ⟨y2, e2, hF⟩ := bnd hF
 refine p_of1 (a_appendT (k := 1) (l := x1) tn100 u9 H rfl rfl pg3 rfl e2) ?_; clear H; rintro w2 v1 ⟨cs1, rs1, H, g1⟩
 replace H : HS ⟨S, keysR [.blk b0_ (([pa1] ++ ([pv1]))) 123, .osl (pv1) (x0).length 1 pcs1 prs1 5], w⟩ S1 w2 [.blk b0_ (([pa2] ++ ([pv2]))) 123, .osl (v1) (y2).length 1 cs1 rs1 5] := H
 refine p_val (r_nilck rfl) ?_
 refine p_val (r_field fa123_1 rfl) ?_
 refine p_ofs (a_store (k := 0) (v := v1) (l := [v1]) tsz100 H rfl rfl rfl (cells_one (HS.ownOne H (k := 1) rfl)) rfl (fun u hu => by rw [List.mem_singleton] at hu; rw [hu]; exact HS.ownOne H (k := 1) rfl) rfl) ?_; clear H; intro w3 H
 replace H : HS ⟨S, keysR [.blk b0_ (([pa1] ++ ([pv1]))) 123, .osl (pv1) (x0).length 1 pcs1 prs1 5], w⟩ S1 w3 [.blk b0_ (([pa2] ++ ([v1]))) 123, .osl (v1) (y2).length 1 cs1 rs1 5] := H
 refine xk hK3 ?_; clear hK3
 refine sr ?_; intro K4 hK4
 refine p_mv (v := str (x1)) rfl ?_
 refine p_val (r_lenT (N := (x1).length) u9 rfl rfl) ?_
 refine p_as (v := .int .i64 (((x1).length : Int))) rfl ?_
 refine p_as (v := .nilIface) rfl ?_
 refine xk hK4 ?_; clear hK4
 refine wp_ret ?_
 obtain rfl := osi hF
 refine e_2 rfl (q_tmp (v := .int .i64 (((x1).length : Int))) rfl) (q_tmp (v := .nilIface) rfl) ?_
 replace H : HS ⟨S, keysR [.blk b0_ (([pa1] ++ ([pv1]))) 123, .osl (pv1) (x0).length 1 pcs1 prs1 5], w⟩ S1 w3 [.blk b0_ (([pa2] ++ ([v1]))) 123, .osl (v1) (y2).length 1 cs1 rs1 5] := H
 exact ⟨_, _, _, _, _, rfl, H, g1, pg4⟩
def people_Form_b0 (x0 : List (List UInt8)) (s1 : Int × (List UInt8)) : Option ((Int × (List UInt8)) ⊕ ((List UInt8))) :=
 bif decide (s1.1 < ((x0).length : Int)) then (Option.bind (idx x0 s1.1) fun y1 => Option.bind (itoaP ((y1).length : Int)) fun y2 => Option.bind (app y2 ([58] : List UInt8)) fun y3 => Option.bind (app y3 y1) fun y4 => Option.bind (Builder_WriteString_p s1.2 y4) fun y5 => some (.inl (((w64 (s1.1 + 1)), y5.2)))) else (some (.inr (s1.2)))
def people_Form_p (x0 : List (List UInt8)) : Option ((List UInt8)) :=
 Option.bind (Option.bind (iter (people_Form_b0 x0) ((0, ([] : List UInt8)))) (fun e => some (e))) (fun t1 => Option.bind (chk (decide ((t1).length ≤ 68719476736))) fun y6 => some (t1))
theorem people_Form_c (hS : Sub S w) (hG : GV S) {v0_ : Value} {x0 : List (List UInt8)} (h0_ : RdS S v0_ x0) {r : (List UInt8)} (hF : people_Form_p x0 = some r) :
  Calls Tryz.prog 40 #[v0_] w fun e w' => e = .returned (str (r)) ∧ Ext w w' := by
 refine enter (n := 21) Tryz.func40 rfl rfl rfl ?_
 have H := HS.start hS
 unfold people_Form_p at hF
 refine sr ?_; intro K1 hK1
 refine p_as (v := str (([] : List UInt8))) rfl ?_
 refine xk hK1 ?_; clear hK1
 refine sr ?_; intro K2 hK2
 refine p_ofb (a_alloc (l := ([Value.pointer none] ++ ([Value.slice none 0 0]))) H tz123 rfl) ?_; clear H; intro w1 b1 H
 refine xk hK2 ?_; clear hK2
 refine wp_seq_k ?_; intro K3 hK3
 refine nameF fun m1 k1 => ?_
 obtain ⟨t1, hE1, hF1⟩ := bnd hF
 have J1 : ∀ (a2 : Value) (v2 : Value) (cs3 rs2 : List Value) (S3 : Mem) (m4 : FM) (w5 : World), (∀ t, has [5, 6, 7, 8, 9, 10, 11, 12, 13, 14, 15, 16, 17, 18, 19] t = false → look m4 t = look m1 t) → Mem.le S S3 → HS ⟨S, [], w⟩ S3 w5 [.osl (v2) (t1).length 1 cs3 rs2 5, .blk b1 (([a2] ++ ([v2]))) 123] → BA b1 a2 → RL S3 cs3 t1 → K3 (fr 21 m4) w5 := by
  clear H; intro a2 v2 cs3 rs2 S3 m4 w5 k5 hle3 H g4 g5
  replace hG := GV.mono hG hle3
  replace h0_ := RdS.mono h0_ hle3
  have q5 : look m4 3 = .pointer (some ⟨b1, 0, none⟩) := (k5 3 rfl).trans (k1 3)
  refine hK3 _ _ ?_
  refine sr ?_; intro K9 hK9
  obtain ⟨y6, e6, hF1⟩ := bnd hF1
  refine p_call (l := [.pointer (some ⟨b1, 0, none⟩)]) is90 (args_cons q5 args_nil) ?_
  refine (Builder_String_c (k1 := 1) (k2 := 0) H rfl rfl g5 (Nat.le_trans (of_decide_eq_true (chk_some e6)) (by decide))).mono ?_; clear H; rintro _ w6 ⟨rfl, H⟩
  replace H : HS ⟨S, [], w⟩ S3 w6 [.blk b1 (([a2] ++ ([v2]))) 123] := H
  refine p_as (v := str (t1)) rfl ?_
  refine xk hK9 ?_; clear hK9
  refine wp_ret ?_
  obtain rfl := osi hF1
  refine e_1 rfl (q_tmp (v := str (t1)) rfl) ?_
  exact ⟨rfl, H.toExt⟩
 refine sr ?_; intro K4 hK4
 refine p_mv (v := v0_) (k1 0) ?_
 refine p_val (r_lenR' u41 rfl h0_ H.sub) ?_
 refine p_mv (v := .int .i64 (0)) rfl ?_
 refine xk hK4 ?_; clear hK4
 refine wp_block ?_
 refine nameF fun m2 k2 => ?_
 obtain ⟨out1, hL1, hE2⟩ := bnd hE1
 replace H := H.nilOwn 1 5; have g3 : RL S [] ([] : List UInt8) := RL.nil
 replace H : HS ⟨S, [], w⟩ S w1 [.osl (.slice none 0 0) (([] : List UInt8)).length 1 [] [] 5, .blk b1 (([Value.pointer none] ++ ([Value.slice none 0 0]))) 123] := H
 refine loopI [5, 8, 9, 10, 11, 12, 13, 14, 15, 16, 17, 18, 19] (fun (s1 : Int × (List UInt8)) (m3 : FM) (w2 : World) => ∃ (S1 : Mem) (a1 : Value) (v1 : Value) (cs1 rs1 : List Value), look m3 8 = .int .i64 (s1.1) ∧ Mem.le S S1 ∧ HS ⟨S, [], w⟩ S1 w2 [.osl (v1) (s1.2).length 1 cs1 rs1 5, .blk b1 (([a1] ++ ([v1]))) 123] ∧ BA b1 a1 ∧ RL S1 cs1 s1.2) hL1 ⟨_, _, _, _, _, (k2 8), (Mem.le_refl _), H, (Or.inl rfl), g3⟩ ?_
 clear H; intro k4 s1 m3 w2 k3 hI1 o2 hb1 hh1; obtain ⟨S1, a1, v1, cs1, rs1, q1, hle1, H, g1, g2⟩ := hI1
 replace hG := GV.mono hG hle1
 replace h0_ := RdS.mono h0_ hle1
 have q2 : look m3 3 = .pointer (some ⟨b1, 0, none⟩) := (k3 3 rfl).trans ((k2 3).trans (k1 3))
 have q3 : look m3 6 = v0_ := (k3 6 rfl).trans (k2 6)
 have q4 : look m3 7 = .int .i64 (((x0).length : Int)) := (k3 7 rfl).trans (k2 7)
 unfold people_Form_b0 at hb1
 refine sr ?_; intro K5 hK5
 refine p_val (r_lssI q1 q4) ?_
 refine xk hK5 ?_; clear hK5
 refine wp_seq_k ?_; intro K6 hK6
 refine c_split (t := decide (s1.1 < ((x0).length : Int))) rfl (fun hc1 => ?_) (fun hc1 => ?_)
 ·replace hb1 := cnd_t hb1 hc1
  refine wp_skip ?_
  refine xn hK6 ?_; clear hK6
  refine wp_seq_k ?_; intro K7 hK7
  refine wp_block ?_
  refine sr ?_; intro K8 hK8
  obtain ⟨y1, e1, hb1⟩ := bnd hb1
  obtain ⟨b2, o3, N1, c1, cs2, hv1, hi1, hc2, hr1⟩ := h0_.get (idx_some e1).2
  refine p_val (r_addrV (i := (s1.1 : Int).toNat) u41 tsz9 q3 hv1 q1 (idx_some e1).1 hi1) ?_
  obtain rfl := elT hr1
  refine p_val (s_load1 (p := (o3 + (s1.1 : Int).toNat * 1)) (o := 0) (v := str (y1)) to9 H.sub rfl hc2 rfl) ?_
  refine p_as (v := str (y1)) rfl ?_
  refine xk hK8 ?_; clear hK8
  refine wp_region_lit ?_
  refine p_mv (v := str (y1)) rfl ?_
  refine p_val (r_lenT (N := (y1).length) u9 rfl rfl) ?_
  obtain ⟨y2, e2, hb1⟩ := bnd hb1
  refine p_call (l := [.int .i64 (((y1).length : Int))]) is39 rfl ?_
  refine (Itoa_c H.sub hG e2).mono ?_; rintro _ w3 ⟨rfl, hx⟩; replace H := H.ext hx; clear hx
  obtain ⟨y3, e3, hb1⟩ := bnd hb1
  refine p_val (r_cat (r := y3) rfl rfl (by have := (app_some e3).1; omega) (app_some e3).2) ?_
  refine p_mv (v := str (y1)) rfl ?_
  obtain ⟨y4, e4, hb1⟩ := bnd hb1
  refine p_val (r_cat (r := y4) rfl rfl (by have := (app_some e4).1; omega) (app_some e4).2) ?_
  obtain ⟨y5, e5, hb1⟩ := bnd hb1
  refine p_call (l := [.pointer (some ⟨b1, 0, none⟩), str (y4)]) is89 (args_cons q2 (args_cons rfl args_nil)) ?_
  refine (Builder_WriteString_c (H.hand [1, 0] rfl) g2 g1 e5).mono ?_; rintro _ w4 ⟨S2, pv1, pcs1, prs1, pa1, rfl, H2, pg1, pg2⟩
  obtain ⟨H1, hle2⟩ := H.frame [1, 0] [] rfl H2; clear H H2; have H := H1; clear H1
  replace hG := GV.mono hG hle2
  replace h0_ := RdS.mono h0_ hle2
  replace H : HS ⟨S, [], w⟩ S2 w4 [.blk b1 (([pa1] ++ ([pv1]))) 123, .osl (pv1) (y5.2).length 1 pcs1 prs1 5] := H
  refine wpList_nil ?_
  refine b_norm ?_
  refine xn hK7 ?_; clear hK7
  refine wp_region_lit ?_
  refine p_val (r_addI q1 rfl) ?_
  refine p_mv (v := .int .i64 ((w64 (s1.1 + 1)))) rfl ?_
  refine wpList_nil ?_
  refine x_norm ?_
  replace H := H.sel [1, 0] rfl
  replace H : HS ⟨S, [], w⟩ S2 w4 [.osl (pv1) (y5.2).length 1 pcs1 prs1 5, .blk b1 (([pa1] ++ ([pv1]))) 123] := H
  obtain rfl := osi hb1
  exact ⟨((w64 (s1.1 + 1)), y5.2), _, rfl, (by (repeat (refine keep_cons rfl ?_)); refine keep_sub k3 rfl ?_; exact kcx), ⟨_, _, _, _, _, rfl, (Mem.le_trans hle1 hle2), H, pg2, pg1⟩, hh1⟩
 ·replace hb1 := cnd_f hb1 hc1
  refine wp_exit ?_
  refine x_exit ?_
  refine x_exit ?_
  refine b_hit ?_
  refine x_norm ?_
  replace H : HS ⟨S, [], w⟩ S1 w2 [.osl (v1) (s1.2).length 1 cs1 rs1 5, .blk b1 (([a1] ++ ([v1]))) 123] := H
  obtain rfl := osi hb1
  obtain rfl := osi hh1
  obtain rfl := osi hE2
  exact J1 _ _ _ _ _ _ _ (by (repeat (refine keep_cons rfl ?_)); refine keep_sub k3 rfl ?_; (repeat (refine keep_cons rfl ?_)); refine keep_name k2 ?_; exact kcx) hle1 H g1 g2
end
end Go.Proofs.YtmkomlbiaebddaaGreatDoor
namespace Go.Proofs.YtmkomlbiaebddaaGreatDoor.Am
open Go Go.RowKit
class TabOk (G : List (Nat × Obj)) : Prop where
 gv : ∀ S, GS G S → GV S
theorem wit {p : Prop} {G : List (Nat × Obj)} [TabOk G] (h : p) : p := h
section
variable {G : List (Nat × Obj)} [TabOk G]
def strconv_Itoa_pc : PC := ⟨[.h (.i .i64)], [.s], itoaP, false⟩
theorem strconv_Itoa_pk : PCok Tryz.prog G 39 strconv_Itoa_pc := pc1 (t1 := .i .i64) (rts := [.s]) rfl rfl (isFn Tryz.func39 (by kernel_rfl) (by kernel_rfl)) fun S _ _ _ hG hS h => Itoa_c hS (TabOk.gv S hG) h
def strings_Trim_pc : PC := ⟨[.h .s, .h .s], [.s], fun x => trimP x.1 x.2, false⟩
omit [TabOk G] in
theorem strings_Trim_pk : PCok Tryz.prog G 109 strings_Trim_pc := pc2 (t1 := .s) (t2 := .s) (rts := [.s]) rfl rfl rfl (isFn Tryz.func109 (by kernel_rfl) (by kernel_rfl)) fun _ _ _ _ _ _ hS h => Trim_c hS h
def strings_Cut_pc : PC := ⟨[.h .s, .h .s], [.s, .s, .b], fun x => cutP x.1 x.2, false⟩
theorem strings_Cut_pk : PCok Tryz.prog G 106 strings_Cut_pc := pc2 (t1 := .s) (t2 := .s) (rts := [.s, .s, .b]) rfl rfl rfl (isFn Tryz.func106 (by kernel_rfl) (by kernel_rfl)) fun S _ _ _ _ hG hS h => Cut_c hS (TabOk.gv S hG) h
def strconv_Atoi_pc : PC := ⟨[.h .s], [.i .i64, .er], atoiP, false⟩
omit [TabOk G] in
theorem strconv_Atoi_pk : PCok Tryz.prog G 110 strconv_Atoi_pc := by
 refine ⟨isFn Tryz.func110 (by kernel_rfl) (by kernel_rfl), fun S0 w0 us (x : List UInt8) (y : Int × Bool) hG hS ha hy => ?_⟩
 have ha : A2 (VR S0 []) [svOf .s x] us := ha
 cases ha with
 | cons q1 q2 =>
  cases q2
  rw [encV_of (t := .s) rfl q1]
  obtain ⟨h1, h2⟩ := Atoi_c hS (r := y) hy
  refine h2.mono fun e w' ⟨he, hx⟩ => ⟨hx, _, he, ⟨_, rfl, _, _, rfl, (rfl : [_] = [_]), _, rfl, ?_⟩, fun h => by cases h⟩
  exact ⟨_, rfl, .inl ⟨h1, rfl⟩⟩
end
end Go.Proofs.YtmkomlbiaebddaaGreatDoor.Am
namespace Go.Proofs.YtmkomlbiaebddaaGreatDoor
open Go Go.RowKit
end Go.Proofs.YtmkomlbiaebddaaGreatDoor
namespace Go.Proofs.YtmkomlbiaebddaaGreatDoor.Am
open Go Go.RowKit
section
variable {G : List (Nat × Obj)}
def macP (key s : List UInt8) : Option (List UInt8) := bif decide (key.length ≤ 68719470000) && decide (s.length ≤ 68719460000) then some (macF key s) else none
def hash_Mac_pc : PC := ⟨[.h .s, .h .s], [.s], fun x => macP x.1 x.2, false⟩
theorem hash_Mac_pk : PCok Tryz.prog G 53 hash_Mac_pc := pc2 (t1 := .s) (t2 := .s) (rts := [.s]) rfl rfl rfl (isFn Tryz.func53 (by kernel_rfl) (by kernel_rfl)) fun _ _ x1 x2 y _ hS h => by
 unfold macP at h
 obtain ⟨hb, h⟩ := bif_none h
 simp only [Bool.and_eq_true, decide_eq_true_eq] at hb
 cases h
 exact hash_Mac_c hS (mac_ok4 hb.1 hb.2)
def sameP (x y : List UInt8) : Option Bool := bif decide (x.length ≤ 68719476736) && decide (y.length ≤ 68719476736) then some (x == y) else none
def hash_Same_pc : PC := ⟨[.h .s, .h .s], [.b], fun x => sameP x.1 x.2, false⟩
theorem hash_Same_pk : PCok Tryz.prog G 49 hash_Same_pc := pc2 (t1 := .s) (t2 := .s) (rts := [.b]) rfl rfl rfl (isFn Tryz.func49 (by kernel_rfl) (by kernel_rfl)) fun _ _ x1 x2 y _ hS h => by
 unfold sameP at h
 obtain ⟨hb, h⟩ := bif_none h
 simp only [Bool.and_eq_true, decide_eq_true_eq] at hb
 cases h
 exact hash_Same_c hS (hsame_ok hb.1 hb.2)
def people_Form_pc : PC := ⟨[.h (.sl .s)], [.s], people_Form_p, false⟩
theorem people_Form_pk [TabOk G] : PCok Tryz.prog G 40 people_Form_pc := by
 refine ⟨isFn Tryz.func40 (by kernel_rfl) (by kernel_rfl), fun S0 w0 us (x : List (List UInt8)) (y : List UInt8) hG hS ha hy => ?_⟩
 have ha : A2 (VR S0 []) [svOf (.sl .s) x] us := ha
 cases ha with
 | cons q1 q2 =>
  cases q2
  rename_i u
  have q1 : rep (.sl .s) S0 [u] x := q1
  obtain ⟨u', hu, hr⟩ := q1
  cases hu
  exact (people_Form_c hS (TabOk.gv S0 hG) hr hy).mono fun e w' ⟨he, hx⟩ => ⟨hx, _, he, encR_rep (l := [.s]) rfl, fun h => by cases h⟩
end
end Go.Proofs.YtmkomlbiaebddaaGreatDoor.Am
namespace Go.Proofs.YtmkomlbiaebddaaGreatDoor
open Go Go.RowKit
end Go.Proofs.YtmkomlbiaebddaaGreatDoor
namespace Go.Proofs.YtmkomlbiaebddaaGreatDoor.Am
open Go Go.RowKit
def τWkC : TE := [(3, ⟨.int .i64, 1, [.v (.i .i64) (show Int from 0)], (.i .i64), 8⟩),
 (5, ⟨.int .u8, 1, [.v (.i .u8) (show UInt8 from 0)], (.i .u8), 1⟩),
 (9, ⟨.s, 1, [.v .s (show List UInt8 from [])], .s, 16⟩),
 (100, ⟨.sl 5, 1, [.nils], (.sl (.i .u8)), 24⟩),
 (102, ⟨.int .u64, 1, [.v (.i .u64) (show UInt64 from 0)], (.i .u64), 8⟩),
 (133, ⟨.int .u32, 1, [.v (.i .u32) (show UInt32 from 0)], (.i .u32), 4⟩)]
theorem τ_okWkC : TEok Tryz.prog τWkC := te_ok (by kernel_rfl) (by kernel_rfl)
theorem mixWkC : Tryz.prog.follows .mixedOrders = true := by kernel_rfl
section
variable {tabs : List (Nat × Obj)} [TabOk tabs]
def otp_big_b0 (v0 : UInt64) (v2 : Int) (v3 : List UInt8) : Option ((Int × List UInt8) ⊕ List UInt8) :=
 bif decide (v2 ≥ (0 : Int)) then (Option.bind (chk (decide ((0 : Int) ≤ w64 ((8 : Int) * v2)))) fun _ => let v4 : UInt8 := i8 ((i64 (shrI .u64 (v0.toNat : Int) (w64 ((8 : Int) * v2)))).toNat : Int)
 Option.bind (app v3 ([v4] : List UInt8)) fun v5 => some (.inl (w64 (v2 - (1 : Int)), v5))) else some (.inr v3)
def otp_big_s (v0 : UInt64) (v1 : Int) : Option (List UInt8) :=
 Option.bind (iter (fun x => otp_big_b0 v0 x.1 x.2) (w64 (v1 - (1 : Int)), ([] : List UInt8))) fun v6 => some v6
def otp_big_sc : SC := ⟨⟨[(0, .nils), (1, (.h (.i .u64))), (2, hI)], []⟩, 1, [(none, ⟨[(0, (.own 0))], [.osl (.i .u8) 5]⟩)], fun x => otp_big_s x.1 x.2⟩
theorem otp_big_sk : SCok Tryz.prog tabs 54 otp_big_sc := wit (G := tabs) <| fn_sc (η := [(200002, .loop [.sl 0 (.i .u8) 5] ⟨[(0, (.own 0)), (7, hI)], [.osl (.i .u8) 5]⟩ [1, 6] [(some 0, ⟨[(0, (.own 0))], [.osl (.i .u8) 5]⟩)])]) (Γ := ⟨[], [], false⟩) mixWkC τ_okWkC (ctok trivial trivial) Tryz.func54 (isFn Tryz.func54 (by kernel_rfl) (by kernel_rfl)) (by kernel_rfl) (by kernel_rfl) (by kernel_rfl)
def otp_value_b0 (v0 : List UInt8) (v1 : UInt64) (v2 : Int) : Option ((UInt64 × Int) ⊕ UInt64) :=
 bif decide (v2 < (v0.length : Int)) then (Option.bind (chk (decide ((0 : Int) ≤ ((8 : UInt64).toNat : Int)))) fun _ => Option.bind (idx v0 v2) fun v3 => let v4 : UInt64 := (i64 (shlI .u64 (v1.toNat : Int) ((8 : UInt64).toNat : Int))) ||| (i64 (v3.toNat : Int))
 some (.inl (v4, w64 (v2 + (1 : Int))))) else some (.inr v1)
def otp_value_p (v0 : List UInt8) : Option (UInt64) :=
 Option.bind (iter (fun x => otp_value_b0 v0 x.1 x.2) ((0 : UInt64), (0 : Int))) fun v5 => some v5
def otp_value_pc : PC := ⟨[hS], [(.i .u64)], fun x => otp_value_p x, false⟩
theorem otp_value_pk : PCok Tryz.prog tabs 55 otp_value_pc := wit (G := tabs) <| fn_pc (η := [(200003, .loop [] ⟨[(3, (.h (.i .u64))), (7, hI)], []⟩ [0, 2, 6] [(some 0, ⟨[(3, (.h (.i .u64)))], []⟩)])]) (Γ := ⟨[], [], false⟩) mixWkC τ_okWkC (ctok trivial trivial) Tryz.func55 (isFn Tryz.func55 (by kernel_rfl) (by kernel_rfl)) (by kernel_rfl) rfl (by kernel_rfl)
def otp_Code_p (v0 : List UInt8) (v1 : Int) : Option (List UInt8) :=
 Option.bind (otp_big_s (i64 v1) (8 : Int)) fun v2 => Option.bind (macP v0 v2) fun v3 => Option.bind (idx v3 (31 : Int)) fun v4 => let v5 : UInt8 := i8 (((v4 &&& (15 : UInt8)).toNat : Int) + ((4 : UInt8).toNat : Int))
 Option.bind (sub3 v3 ((v4 &&& (15 : UInt8)).toNat : Int) (v5.toNat : Int)) fun v6 => Option.bind (otp_value_p v6) fun v7 => Option.bind (chk (decide ((0 : Int) < ((1000000 : UInt64).toNat : Int)))) fun _ => let v8 : UInt64 := i64 (Int.tmod ((v7 &&& (2147483647 : UInt64)).toNat : Int) ((1000000 : UInt64).toNat : Int))
 Option.bind (itoaP (w64 ((w64 (v8.toNat : Int)) + (1000000 : Int)))) fun v9 => Option.bind (subL v9 (1 : Int)) fun v10 => some v10
def otp_Code_pc : PC := ⟨[hS, hI], [.s], fun x => otp_Code_p x.1 x.2, false⟩
theorem otp_Code_pk : PCok Tryz.prog tabs 23 otp_Code_pc := wit (G := tabs) <| fn_pc (η := []) (Γ := ⟨[(53, hash_Mac_pc), (55, otp_value_pc), (39, strconv_Itoa_pc)], [(54, otp_big_sc)], false⟩) mixWkC τ_okWkC (ctok ⟨hash_Mac_pk, ⟨otp_value_pk, ⟨strconv_Itoa_pk, trivial⟩⟩⟩ ⟨otp_big_sk, trivial⟩) Tryz.func23 (isFn Tryz.func23 (by kernel_rfl) (by kernel_rfl)) (by kernel_rfl) rfl (by kernel_rfl)
def hash_big_b0 (v0 : UInt64) (v3 : Int) (v4 : List UInt8) : Option ((Int × List UInt8) ⊕ List UInt8) :=
 bif decide (v3 ≥ (0 : Int)) then (Option.bind (chk (decide ((0 : Int) ≤ w64 ((8 : Int) * v3)))) fun _ => let v5 : UInt8 := i8 ((i64 (shrI .u64 (v0.toNat : Int) (w64 ((8 : Int) * v3)))).toNat : Int)
 Option.bind (app v4 ([v5] : List UInt8)) fun v6 => some (.inl (w64 (v3 - (1 : Int)), v6))) else some (.inr v4)
def hash_big_s (v0 : UInt64) (v1 : Int) (v2 : List UInt8) : Option (List UInt8) :=
 Option.bind (iter (fun x => hash_big_b0 v0 x.1 x.2) (w64 (v1 - (1 : Int)), v2)) fun v7 => some v7
def hash_big_sc : SC := ⟨⟨[(0, (.own 0)), (1, (.h (.i .u64))), (2, hI)], [.osl (.i .u8) 5]⟩, 1, [(none, ⟨[(0, (.own 1))], [.dead, .osl (.i .u8) 5]⟩)], fun x => hash_big_s x.1 x.2.1 x.2.2⟩
theorem hash_big_sk : SCok Tryz.prog tabs 118 hash_big_sc := wit (G := tabs) <| fn_sc (η := [(200002, .loop [] ⟨[(0, (.own 1)), (7, hI)], [.dead, .osl (.i .u8) 5]⟩ [1, 6] [(some 0, ⟨[(0, (.own 1))], [.dead, .osl (.i .u8) 5]⟩)])]) (Γ := ⟨[], [], false⟩) mixWkC τ_okWkC (ctok trivial trivial) Tryz.func118 (isFn Tryz.func118 (by kernel_rfl) (by kernel_rfl)) (by kernel_rfl) (by kernel_rfl) (by kernel_rfl)
def hash_Stretch_j0 (v2 : Int) : Option (Bool) :=
 bif decide (v2 < (1 : Int)) then some true else some (decide (v2 > (64 : Int)))
def hash_Stretch_j1 (v2 : Int) (v3 : Int) : Option (((List UInt8) × Int) ⊕ Unit) :=
 Option.bind (hash_Stretch_j0 v2) fun v4 => bif v4 then some (.inl (([] : List UInt8), (40 : Int))) else (bif decide (v3 < (1 : Int)) then some (.inl (([] : List UInt8), (41 : Int))) else (bif decide (v3 > (96 : Int)) then some (.inl (([] : List UInt8), (41 : Int))) else some (.inr ())))
def hash_Stretch_b22 (v15 : List UInt8) (v16 : List UInt8) (v17 : Int) (v18 : List UInt8) (v19 : List UInt8) : Option ((Int × (List UInt8) × List UInt8) ⊕ (((List UInt8) × List UInt8))) :=
 bif decide (v17 < (v15.length : Int)) then (Option.bind (chk (decide ((0 : Int) ≤ v17) && decide (v17 < (v19.length : Int)))) fun _ => Option.bind (idx v19 v17) fun v20 => Option.bind (idx v16 v17) fun v21 => Option.bind (chk (decide ((0 : Int) ≤ v17) && decide (v17 < (v19.length : Int)))) fun _ => Option.bind (setL v19 v17 (v20 ^^^ v21)) fun v22 => some (.inl (w64 (v17 + (1 : Int)), v18, v22))) else some (.inr (v18, v19))
def hash_Stretch_b32 (v0 : List UInt8) (v2 : Int) (v12 : List UInt8) (v13 : Int) (v14 : List UInt8) (v15 : List UInt8) : Option (((List UInt8) × Int × (List UInt8) × List UInt8) ⊕ (((List UInt8) × List UInt8))) :=
 bif decide (v13 < (w64 (v2 - (1 : Int)))) then (Option.bind (macP v0 v12) fun v16 => Option.bind (iter (fun x => hash_Stretch_b22 v15 v16 x.1 x.2.1 x.2.2) ((0 : Int), v14, v15)) fun v23 => some (.inl (v16, w64 (v13 + (1 : Int)), v23))) else some (.inr (v14, v15))
def hash_Stretch_b4 (v0 : List UInt8) (v1 : List UInt8) (v2 : Int) (v3 : Int) (v8 : UInt32) (v9 : List UInt8) : Option ((UInt32 × List UInt8) ⊕ List UInt8) :=
 bif decide ((v9.length : Int) < v3) then (Option.bind (hash_big_s (i64 (v8.toNat : Int)) (4 : Int) v1) fun v10 => Option.bind (macP v0 v10) fun v11 => Option.bind (iter (fun x => hash_Stretch_b32 v0 v2 x.1 x.2.1 x.2.2.1 x.2.2.2) (v11, (0 : Int), v9, v11)) fun v24 => Option.bind (app v24.1 v24.2) fun v25 => some (.inl (i32 ((v8.toNat : Int) + ((1 : UInt32).toNat : Int)), v25))) else some (.inr v9)
def hash_Stretch_p (v0 : List UInt8) (v1 : List UInt8) (v2 : Int) (v3 : Int) : Option ((List UInt8) × Int) :=
 Option.bind (hash_Stretch_j1 v2 v3) fun v5 => match v5 with
 | .inl v6 => (some v6)
 | .inr v7 => (Option.bind (iter (fun x => hash_Stretch_b4 v0 v1 v2 v3 x.1 x.2) ((1 : UInt32), ([] : List UInt8))) fun v26 => Option.bind (subH v26 v3) fun v27 => some (v27, (0 : Int)))
def hash_Stretch_pc : PC := ⟨[hS, hS, hI, hI], [.s, (.i .i64)], fun x => hash_Stretch_p x.1 x.2.1 x.2.2.1 x.2.2.2, false⟩
theorem hash_Stretch_pk : PCok Tryz.prog tabs 92 hash_Stretch_pc := wit (G := tabs) <| fn_pc (η := [(2300002, .join [] [0, 1, 2, 3] [(none, ⟨[(15, hB)], []⟩)]),
 (2000005, .join [] [0, 1, 2, 3] [(some 1000000, ⟨[(8, hS), (9, hI)], []⟩), (none, ⟨[], []⟩)]),
 (200015, .loop [] ⟨[(10, (.own 0)), (13, (.own 1)), (54, hI)], [.osl (.i .u8) 5, .osl (.i .u8) 5]⟩ [0, 1, 2, 3, 11, 12, 46, 47, 53] [(some 5, ⟨[(10, (.own 0)), (13, (.own 1))], [.osl (.i .u8) 5, .osl (.i .u8) 5]⟩)]),
 (200012, .loop [] ⟨[(10, (.own 0)), (12, hS), (13, (.own 1)), (47, hI)], [.osl (.i .u8) 5, .osl (.i .u8) 5]⟩ [0, 1, 2, 3, 11, 46] [(some 3, ⟨[(10, (.own 0)), (13, (.own 1))], [.osl (.i .u8) 5, .osl (.i .u8) 5]⟩)]),
 (200007, .loop [.sl 10 (.i .u8) 5] ⟨[(10, (.own 0)), (11, (.h (.i .u32)))], [.osl (.i .u8) 5]⟩ [0, 1, 2, 3] [(some 1, ⟨[(10, (.own 0))], [.osl (.i .u8) 5]⟩)])]) (Γ := ⟨[(53, hash_Mac_pc)], [(118, hash_big_sc)], false⟩) mixWkC τ_okWkC (ctok ⟨hash_Mac_pk, trivial⟩ ⟨hash_big_sk, trivial⟩) Tryz.func92 (isFn Tryz.func92 (by kernel_rfl) (by kernel_rfl)) (by kernel_rfl) rfl (by kernel_rfl)
end
end Go.Proofs.YtmkomlbiaebddaaGreatDoor.Am
namespace Go.Proofs.YtmkomlbiaebddaaGreatDoor
open Go Go.RowKit
end Go.Proofs.YtmkomlbiaebddaaGreatDoor
namespace Go.Proofs.YtmkomlbiaebddaaGreatDoor.Fd
open Go Go.Proofs Go.RowKit Go.Shelf
attribute [local go_sem] Oper.semAt_some
def downL : Int → Nat → List Int
 | _, 0 => []
 | hi, n + 1 => hi :: downL (hi - 1) n
def loS (step window : Int) : Int := if step - window < 0 then 0 else step - window
def stepsL (step window : Int) : List Int := bif decide (step < 0) || decide (1099511627776 < step) || decide (window < 0) || decide (10 < window) then [] else downL (step + window) (step + window - loS step window + 1).toNat
theorem stepsL_in {step window : Int} (h1 : ¬ step < 0) (h2 : ¬ 1099511627776 < step) (h3 : ¬ window < 0) (h4 : ¬ 10 < window) : stepsL step window = downL (step + window) (step + window - loS step window + 1).toNat := by
 unfold stepsL
 simp [h1, h2, h3, h4]
theorem stepsL_out {step window : Int} (h : step < 0 ∨ 1099511627776 < step ∨ window < 0 ∨ 10 < window) : stepsL step window = [] := by
 unfold stepsL
 have : (decide (step < 0) || decide (1099511627776 < step) || decide (window < 0) || decide (10 < window)) = true := by simp; omega
 rw [this]; rfl
set_option maxRecDepth 100000 in
set_option maxHeartbeats 2000000 in
theorem steps1_in (F : Fence) (n : Nat) (hf : F.fn 123) (hro : F.round = none) (hn : 1 ≤ n) (l bs bw n₀ : Nat) (step window : Int) (J Jx : List Int → World → Prop)
  (hY : ∀ pre x W, J pre W → pre.length < (stepsL step window).length → YieldAt F (n - 1) Tryz.prog l #[.int .i64 x] W fun e W' =>
   (e = .returned (.bool true) ∧ J (pre ++ [x]) W' ∧ Below n₀ W W') ∨ (e = .returned (.bool false) ∧ Jx (pre ++ [x]) W'))
  (W : World) (hs0 : bs < n₀) (hw0 : bw < n₀) (hs : W.cell? ⟨bs, 0, none⟩ = some (.int .i64 step)) (hw : W.cell? ⟨bw, 0, none⟩ = some (.int .i64 window)) (h0 : J [] W) :
  CallsIn F n Tryz.prog 123 #[.func (.yield l) #[] #[], .pointer (some ⟨bs, 0, none⟩), .pointer (some ⟨bw, 0, none⟩)] W fun e W' => (∃ v, e = .returned v) ∧
   ((∃ ys, ys = stepsL step window ∧ J ys W') ∨ (∃ pre, pre <+: stepsL step window ∧ Jx pre W')) := by
 refine callsIn_of_wp Tryz.func123 rfl hf ?_ hro
 simp only [Tryz.ntmps123, List.size_toArray, List.length_cons, List.length_nil, Nat.reduceAdd, Nat.reduceSub, Array.replicate_succ, Array.replicate_zero, List.push_toArray, List.append_toArray, List.nil_append, List.cons_append]
 gi_wp2
 all_goals first
  | (refine bodyPost_ret (results_none rfl _ _ _) rfl ?_
     have hnil : stepsL step window = [] := stepsL_out (by omega)
     first
      | exact ⟨⟨_, rfl⟩, .inl ⟨_, rfl, by rw [hnil]; exact h0⟩⟩
      | exact ⟨⟨_, rfl⟩, .inl (by rw [hnil]; exact h0)⟩)
  | skip
 have hin : ¬ step < 0 ∧ ¬ 1099511627776 < step ∧ ¬ window < 0 ∧ ¬ 10 < window := by omega
 have hL := stepsL_in hin.1 hin.2.1 hin.2.2.1 hin.2.2.2
 have hlo : 0 ≤ loS step window ∧ loS step window ≤ step + window ∧ (loS step window = if step - window < 0 then 0 else step - window) := by unfold loS; split <;> omega
 have d1 : decide (step < 0) = false := decide_eq_false hin.1
 have d2 : decide (1099511627776 < step) = false := decide_eq_false hin.2.1
 have d3 : decide (window < 0) = false := decide_eq_false hin.2.2.1
 have d4 : decide (10 < window) = false := decide_eq_false hin.2.2.2
 simp only [d1, d2, d3, d4, Bool.or_false]
 gi_loopw [4] (fun p wr => ∃ (pre : List Int) (s : Int) (c : Nat), p = .int .i64 s ∧ stepsL step window = pre ++ downL s c ∧ s = loS step window + (c : Int) - 1 ∧ s ≤ step + window ∧ J pre wr ∧ Below n₀ W wr)
  (fun p wr => (intOf p - loS step window + 1).toNat)
 case atStart =>
  exact ⟨[], step + window, _, rfl, hL, by omega, Int.le_refl _, h0, Below.refl _ _⟩
 case round =>
  obtain ⟨pre, s, c, rfl, hx, hsc, hsh, hJs, hbel⟩ := hrel
  have hs' := (hbel.cell (p := ⟨bs, 0, none⟩) hs0).trans hs
  have hw' := (hbel.cell (p := ⟨bw, 0, none⟩) hw0).trans hw
  have hlb : -1 ≤ s := by omega
  clear hL h0 hs hw d1 d2 d3 d4
  cases c with
  | zero =>
   have k1 : s < 0 ∨ s < step - window := by
    obtain ⟨h1, h2, h3⟩ := hlo
    split at h3 <;> omega
   clear hlo hsc
   gi_wp2
   all_goals
    refine ⟨fun _ h => (by cases h), ?_⟩
    gi_wp2
    go_end0
    exact ⟨⟨_, rfl⟩, .inl ⟨pre, by rw [hx]; simp [downL], hJs⟩⟩
  | succ c =>
   have k1 : 0 ≤ s := by omega
   have k2 : step - window ≤ s := by
    obtain ⟨h1, h2, h3⟩ := hlo
    split at h3 <;> omega
   have hsc' : Unit → s = loS step window + ((c + 1 : Nat) : Int) - 1 := fun _ => hsc
   clear hlo hsc
   obtain ⟨fn, tmps, assign, body, hy, hR⟩ := hY pre s wr hJs (by rw [hx]; simp [downL])
   gi_wp2
   all_goals
    refine hR.mono ?_
    rintro e W3 (⟨rfl, hJ3, hk3⟩ | ⟨rfl, hJx3⟩)
    ·gi_wp2
     go_roundw
     case rel =>
      have := hsc' ()
      have := hsc' ()
      exact ⟨pre ++ [s], s - 1, c, rfl, by rw [hx]; simp [downL], by omega, by omega, hJ3, hbel.trans hk3⟩
     case measure =>
      have := hsc' ()
      simp [intOf]
      omega
    ·gi_wp2
     go_end0
     exact ⟨⟨_, rfl⟩, .inr ⟨pre ++ [s], ⟨downL (s - 1) c, by rw [hx]; simp [downL]⟩, hJx3⟩⟩
theorem steps_in (F : Fence) (n : Nat) (hf : F.fn 96) (hro : F.round = none) (step window : Int) (w : World) :
  CallsIn F n Tryz.prog 96 #[.int .i64 step, .int .i64 window] w fun e w' => e = .returned (.func (.func 123) #[] #[.pointer (some ⟨w.heap.size, 0, none⟩), .pointer (some ⟨w.heap.size + 1, 0, none⟩)]) ∧ w' = (w.alloc (.cells #[.int .i64 step] 3)).alloc (.cells #[.int .i64 window] 3) := by
 refine callsIn_of_wp Tryz.func96 rfl hf ?_ hro
 simp only [Tryz.ntmps96, List.size_toArray, List.length_cons, List.length_nil, Nat.reduceAdd, Nat.reduceSub, Array.replicate_succ, Array.replicate_zero, List.push_toArray, List.append_toArray, List.nil_append, List.cons_append]
 gi_wp2
 go_ret
 exact ⟨rfl, rfl⟩
theorem steps_stops (F : Fence) (n : Nat) (hf : F.fn 123) (hro : F.round = none) (hn : 1 ≤ n) (bs bw n₀ : Nat) (step window : Int) (w : World) (hs0 : bs < n₀) (hw0 : bw < n₀) (hn0 : n₀ ≤ w.heap.size)
  (hs : w.cell? ⟨bs, 0, none⟩ = some (.int .i64 step)) (hw : w.cell? ⟨bw, 0, none⟩ = some (.int .i64 window)) :
  SeqStopsK F n Tryz.prog 123 #[.pointer (some ⟨bs, 0, none⟩), .pointer (some ⟨bw, 0, none⟩)] (fun x : Int => #[Value.int .i64 x]) (Below n₀) (fun ys => ys = stepsL step window) (fun pre => pre <+: stepsL step window) (stepsL step window).length w := fun l J Jx W hW _ _ hY h0 =>
 steps1_in F n hf hro hn l bs bw n₀ step window J Jx hY W hs0 hw0 ((hW.cell (p := ⟨bs, 0, none⟩) (by simp; omega)).trans hs) ((hW.cell (p := ⟨bw, 0, none⟩) (by simp; omega)).trans hw) h0
end Go.Proofs.YtmkomlbiaebddaaGreatDoor.Fd
namespace Go.Proofs.YtmkomlbiaebddaaGreatDoor
open Go Go.RowKit
end Go.Proofs.YtmkomlbiaebddaaGreatDoor
namespace Go.Proofs.YtmkomlbiaebddaaGreatDoor.Am
open Go Go.Proofs Go.RowKit Go.Shelf
attribute [local go_sem] Oper.semAt_some
theorem iter_len {σ β : Type} {body : σ → Option (σ ⊕ β)} (I : σ → Prop) (m : σ → Nat) (G : β → Prop) (hr : ∀ s, I s → (∃ s', body s = some (.inl s') ∧ I s' ∧ m s' < m s) ∨ ∃ b, body s = some (.inr b) ∧ G b) {s : σ} (hs : I s) (hm : m s < 1099511627776) : ∃ b, iter body s = some b ∧ G b := iterN_ind I m G hr FU s hs (by unfold FU; exact hm)
theorem w64_range (x : Int) : -9223372036854775808 ≤ w64 x ∧ w64 x ≤ 9223372036854775807 := by
 have e : w64 x = (x + 9223372036854775808) % 18446744073709551616 - 9223372036854775808 := by
  simp only [w64, IntKind.wrap, IntKind.signed, IntKind.bits]
  simp
  try omega
 omega
theorem app_ok {α : Type} {a b : List α} (h : a.length + b.length ≤ 68719476736) : app a b = some (a ++ b) := by
 unfold app
 rw [dec_t (by unfold LIM; omega)]
theorem obig_ok (x : UInt64) : ∃ r, otp_big_s x 8 = some r ∧ r.length = 8 := by
 have h := iter_len (body := fun (y : Int × List UInt8) => otp_big_b0 x y.1 y.2) (fun y => -1 ≤ y.1 ∧ y.1 ≤ 7 ∧ (y.2.length : Int) = 7 - y.1) (fun y => (y.1 + 1).toNat) (fun r => r.length = 8) (fun y hy => by
  obtain ⟨i, l⟩ := y
  obtain ⟨h1, h2, h3⟩ := hy
  simp only at h1 h2 h3
  unfold otp_big_b0
  simp only
  by_cases hi : i ≥ 0
  ·left
   rw [dec_t hi, w64_of (by omega) (by omega), chk_ok (by simp; omega), some_bind]
   rw [app_ok (by simp; omega), some_bind]
   refine ⟨_, rfl, ?_, ?_⟩
   ·simp only [List.length_append, List.length_cons, List.length_nil]
    rw [w64_of (by omega) (by omega)]
    omega
   ·simp only []
    rw [w64_of (by omega) (by omega)]
    omega
  ·right
   rw [dec_f hi]
   exact ⟨l, rfl, by omega⟩) (s := (w64 (8 - 1), [])) (by simp [w64_of]) (by simp [w64_of])
 obtain ⟨r, h1, h2⟩ := h
 refine ⟨r, ?_, h2⟩
 unfold otp_big_s
 rw [h1, some_bind]
theorem oval_ok {l : List UInt8} (h : l.length ≤ 1000) : ∃ r, otp_value_p l = some r := by
 have h := iter_len (body := fun (y : UInt64 × Int) => otp_value_b0 l y.1 y.2) (fun y => 0 ≤ y.2 ∧ y.2 ≤ (l.length : Int)) (fun y => (l.length - y.2).toNat) (fun _ => True) (fun y hy => by
  obtain ⟨v, i⟩ := y
  obtain ⟨h1, h2⟩ := hy
  simp only at h1 h2
  unfold otp_value_b0
  simp only
  by_cases hi : i < (l.length : Int)
  ·left
   obtain ⟨k, rfl⟩ : ∃ k : Nat, i = k := ⟨i.toNat, by omega⟩
   rw [dec_t hi, chk_ok (by simp), some_bind, idx_ok rfl (by omega), some_bind]
   refine ⟨(_, w64 ((k : Int) + 1)), rfl, ?_, ?_⟩
   ·simp only []
    rw [w64_of (by omega) (by omega)]
    omega
   ·simp only []
    rw [w64_of (by omega) (by omega)]
    omega
  ·right
   rw [dec_f hi]
   exact ⟨v, rfl, trivial⟩) (s := ((0 : UInt64), (0 : Int))) (by simp) (by simp; omega)
 obtain ⟨r, h1, _⟩ := h
 refine ⟨r, ?_⟩
 unfold otp_value_p
 rw [h1, some_bind]
theorem decF_len : ∀ (f u : Nat), (decF f u).length ≤ f
 | 0, _ => by simp [decF]
 | f + 1, u => by
  unfold decF
  cases Nat.blt u 10 with
  | true => simp
  | false =>
   have := decF_len f (u / 10)
   simp only [cond_false, List.length_append, List.length_cons, List.length_nil]
   omega
theorem decF_pos {f u : Nat} (h : 0 < f) : 0 < (decF f u).length := by
 cases f with
 | zero => omega
 | succ f =>
  unfold decF
  cases Nat.blt u 10 <;> simp
theorem itoa_ok {n : Int} (h0 : -9223372036854775808 ≤ n) (h1 : n ≤ 9223372036854775807) : itoaP n = some (itoaF n) := by
 unfold itoaP
 rw [cond_t (by simp; omega)]
theorem itoaF_len (n : Int) : 1 ≤ (itoaF n).length ∧ (itoaF n).length ≤ 21 := by
 unfold itoaF
 cases decide (n < 0) with
 | true =>
  have := decF_len 20 n.natAbs
  simp only [cond_true, List.length_cons]; omega
 | false =>
  have := decF_len 20 n.toNat
  have := decF_pos (f := 20) (u := n.toNat) (by omega)
  simp only [cond_false]; omega
theorem code_ok {secret : List UInt8} (h : secret.length ≤ 68719470000) (s : Int) : ∃ c, otp_Code_p secret s = some c ∧ c.length ≤ 21 := by
 obtain ⟨b, hb, hbl⟩ := obig_ok (i64 s)
 have hm : macP secret b = some (macF secret b) := by unfold macP; rw [cond_t (by simp; omega)]
 have hml := macF_len secret b
 unfold otp_Code_p
 rw [hb, some_bind, hm, some_bind, idx_ok (j := 31) (i := 31) rfl (by omega), some_bind]
 generalize (macF secret b)[31]'_ = v4
 have h15 : (v4 &&& (15 : UInt8)).toNat ≤ 15 := by rw [UInt8.toNat_and]; exact Nat.and_le_right
 generalize (v4 &&& (15 : UInt8)).toNat = g at h15
 have h5 : ((i8 ((g : Int) + ((4 : UInt8).toNat : Int))).toNat : Int) = (g : Int) + 4 := by
  rw [← i8_wrap, show ((4 : UInt8).toNat : Int) = 4 from rfl]
  simp only [IntKind.wrap, IntKind.signed, IntKind.bits]
  simp
  omega
 simp only []
 rw [h5]
 have h6 : sub3 (macF secret b) (g : Int) ((g : Int) + 4) = some (((macF secret b).take ((g : Int) + 4).toNat).drop (g : Int).toNat) := by
  unfold sub3
  rw [cond_t (by simp; omega)]
 rw [h6, some_bind]
 obtain ⟨r, hr⟩ := oval_ok (l := ((macF secret b).take ((g : Int) + 4).toNat).drop (g : Int).toNat) (by simp only [List.length_drop, List.length_take]; omega)
 rw [hr, some_bind, chk_ok (by simp), some_bind]
 generalize (i64 (Int.tmod ((r &&& (2147483647 : UInt64)).toNat : Int) ((1000000 : UInt64).toNat : Int))) = v8
 have hw := w64_range ((w64 (v8.toNat : Int)) + 1000000)
 rw [itoa_ok hw.1 hw.2, some_bind]
 have hl := itoaF_len (w64 ((w64 (v8.toNat : Int)) + 1000000))
 have h7 : subL (itoaF (w64 ((w64 (v8.toNat : Int)) + 1000000))) 1 = some ((itoaF (w64 ((w64 (v8.toNat : Int)) + 1000000))).drop 1) := by
  unfold subL
  rw [cond_t (by simp; omega)]; rfl
 rw [h7, some_bind]
 exact ⟨_, rfl, by simp only [List.length_drop]; omega⟩
def codeF (secret : List UInt8) (s : Int) : List UInt8 := (otp_Code_p secret s).getD []
theorem code_eq {secret : List UInt8} (h : secret.length ≤ 68719470000) (s : Int) : otp_Code_p secret s = some (codeF secret s) ∧ (codeF secret s).length ≤ 21 := by
 obtain ⟨c, h1, h2⟩ := code_ok h s
 unfold codeF
 rw [h1]
 exact ⟨rfl, h2⟩
def findF (f : Int → List UInt8) (code : List UInt8) : List Int → Int × Bool
 | [] => (0, false)
 | s :: l => bif f s == code then (s, true) else findF f code l
def findP (secret code : List UInt8) (step window : Int) : Option (Int × Bool) := bif decide (secret.length ≤ 68719470000) && decide (code.length ≤ 68719476736) then some (findF (codeF secret) code (Fd.stepsL step window)) else none
end Go.Proofs.YtmkomlbiaebddaaGreatDoor.Am
namespace Go.Proofs.YtmkomlbiaebddaaGreatDoor
open Go Go.RowKit
end Go.Proofs.YtmkomlbiaebddaaGreatDoor
namespace Go.Proofs.YtmkomlbiaebddaaGreatDoor.Am
open Go Go.Proofs Go.RowKit Go.Shelf
attribute [local go_sem] Oper.semAt_some
theorem cell_of_boxO {W : World} {B : Nat} {v : Value} {t : TypeId} (h : W.heap[B]? = some (.cells #[v] t (0, 0))) : W.cell? ⟨B, 0, none⟩ = some v ∧ W.frozen? ⟨B, 0, none⟩ = false := by
 constructor <;> simp [World.cell?, World.frozen?, h]
theorem cell_newO (W : World) (v : Value) (t : TypeId) : (W.alloc (.cells #[v] t)).cell? ⟨W.heap.size, 0, none⟩ = some v ∧ (W.alloc (.cells #[v] t)).frozen? ⟨W.heap.size, 0, none⟩ = false :=
 cell_of_boxO (World.alloc_heap_new W _)
theorem cell_allocO {W : World} {a : Addr} {v : Value} (o : Obj) (h : W.cell? a = some v) : (W.alloc o).cell? a = some v := cell_kept h (World.grownBy_alloc W o none) (fun r e => by cases e)
theorem frozen_allocO {W : World} {a : Addr} {v : Value} (o : Obj) (h : W.cell? a = some v) (hf : W.frozen? a = false) : (W.alloc o).frozen? a = false := (frozen_kept h (World.grownBy_alloc W o none) (fun r e => by cases e)).trans hf
theorem gs_below {G : List (Nat × Obj)} {S : Mem} {w W : World} (hG : GS G S) (hS : Sub S w) (hB : Below w.heap.size w W) : GS G (memOf W) := fun p hp => by
 have h1 := hS _ _ (hG p hp)
 exact (hB.block _ (Array.getElem?_eq_some_iff.1 h1).1).trans h1
theorem cell_ltO {W : World} {b o : Nat} {v : Value} (h : W.cell? ⟨b, o, none⟩ = some v) : b < W.heap.size := by
 unfold World.cell? at h
 split at h
 ·rename_i hb; exact (Array.getElem?_eq_some_iff.1 hb).1
 ·cases h
theorem ext_cell {W W' : World} {b o : Nat} {v : Value} (h : Ext W W') (hc : W.cell? ⟨b, o, none⟩ = some v) : W'.cell? ⟨b, o, none⟩ = some v := (h.cells.1 b o (cell_ltO hc)).trans hc
theorem ext_frozen {W W' : World} {b o : Nat} {v : Value} (h : Ext W W') (hc : W.cell? ⟨b, o, none⟩ = some v) (hf : W.frozen? ⟨b, o, none⟩ = false) : W'.frozen? ⟨b, o, none⟩ = false := (h.cells.2 b o (cell_ltO hc)).trans hf
theorem keeps_ext {W W' : World} (h : Ext W W') : KeepsOthers W W' := ⟨h.size, fun b o hb _ => (h.block b (Array.getElem?_eq_some_iff.1 hb).1).trans hb⟩
section
variable {G : List (Nat × Obj)} [TabOk G]
theorem code_calls {secret : List UInt8} (hs : secret.length ≤ 68719470000) (x : Int) {W : World} (hG : GS G (memOf W)) :
  Calls Tryz.prog 23 #[str secret, .int .i64 x] W fun e w' => e = .returned (str (codeF secret x)) ∧ Ext W w' := by
 refine ((otp_Code_pk (tabs := G)).ok (memOf W) W [str secret, .int .i64 x] (secret, x) (codeF secret x) hG (subMem W) (.cons (rfl : [_] = [_]) (.cons (rfl : [_] = [_]) .nil)) (code_eq hs x).1).mono fun e w' ⟨hx, v, he, hr, _⟩ => ?_
 have hr : rep .s _ [v] (codeF secret x) := hr
 have hr : [v] = [str (codeF secret x)] := hr
 rw [he, (List.cons.inj hr).1]
 exact ⟨rfl, hx⟩
theorem same_calls {x y : List UInt8} (hx : x.length ≤ 68719476736) (hy : y.length ≤ 68719476736) {W : World} :
  Calls Tryz.prog 49 #[str x, str y] W fun e w' => e = .returned (.bool (x == y)) ∧ Ext W w' := hash_Same_c (subMem W) (hsame_ok hx hy)
theorem findF_no {f : Int → List UInt8} {code : List UInt8} : ∀ {l : List Int}, (∀ y ∈ l, f y ≠ code) → findF f code l = (0, false)
 | [], _ => rfl
 | s :: l, h => by
  unfold findF
  rw [beq_false_of_ne (h s (List.mem_cons_self ..)), cond_false, findF_no fun y hy => h y (List.mem_cons_of_mem _ hy)]
theorem findF_yes {f : Int → List UInt8} {code : List UInt8} {x : Int} {r : List Int} (hx : f x = code) : ∀ {l : List Int}, (∀ y ∈ l, f y ≠ code) → findF f code (l ++ x :: r) = (x, true)
 | [], _ => by simp [findF, hx]
 | s :: l, h => by
  simp only [List.cons_append]
  unfold findF
  rw [beq_false_of_ne (h s (List.mem_cons_self ..)), cond_false, findF_yes hx fun y hy => h y (List.mem_cons_of_mem _ hy)]
set_option maxRecDepth 100000 in
set_option maxHeartbeats 2000000 in
theorem find_c {S : Mem} {w : World} (hG : GS G S) (hS : Sub S w) {secret code : List UInt8} (hs : secret.length ≤ 68719470000) (hc : code.length ≤ 68719476736) (step window : Int) :
  Calls Tryz.prog 52 #[str secret, str code, .int .i64 step, .int .i64 window] w fun e w' => e = .returned (.tuple #[.int .i64 (findF (codeF secret) code (Fd.stepsL step window)).1, .bool (findF (codeF secret) code (Fd.stepsL step window)).2]) ∧ Ext w w' := by
 refine (callsIn_wide (n := 5)).1 ?_
 refine callsIn_of_wp_marks Tryz.func52 rfl trivial ?_ rfl
 simp only [Tryz.ntmps52, List.size_toArray, List.length_cons, List.length_nil, Nat.reduceAdd, Nat.reduceSub, Array.replicate_succ, Array.replicate_zero, List.push_toArray, List.append_toArray, List.nil_append, List.cons_append]
 gi_wp2_with (refine ⟨trivial, ?_⟩; gi_at_call 96; refine (Fd.steps_in Fence.wide _ trivial rfl _ _ _).mono ?_; rintro e w' ⟨rfl, rfl⟩)
 obtain ⟨W0, hW0⟩ : ∃ W0, ((((((w.alloc (.cells #[str secret] 9)).alloc (.cells #[str code] 9)).alloc (.cells #[Value.int .i64 0] 3)).alloc (.cells #[.bool false] 4)).alloc (.cells #[Value.int .i64 step] 3)).alloc (.cells #[Value.int .i64 window] 3)) = W0 := ⟨_, rfl⟩
 have hs0 : W0.heap.size = w.heap.size + 6 := by rw [← hW0]; simp
 have hB0 : Below w.heap.size w W0 := by
  rw [← hW0]
  exact ((((((Below.refl _ w).alloc (Nat.le_refl _) _).alloc (by simp) _).alloc (by simp; omega) _).alloc (by simp; omega) _).alloc (by simp; omega) _).alloc (by simp; omega) _
 have c0 := cell_newO w (str secret) 9
 have c1 := cell_newO (w.alloc (.cells #[str secret] 9)) (str code) 9
 have c2 := cell_newO ((w.alloc (.cells #[str secret] 9)).alloc (.cells #[str code] 9)) (.int .i64 0) 3
 have c3 := cell_newO (((w.alloc (.cells #[str secret] 9)).alloc (.cells #[str code] 9)).alloc (.cells #[Value.int .i64 0] 3)) (.bool false) 4
 have c4 := cell_newO ((((w.alloc (.cells #[str secret] 9)).alloc (.cells #[str code] 9)).alloc (.cells #[Value.int .i64 0] 3)).alloc (.cells #[.bool false] 4)) (.int .i64 step) 3
 have c5 := cell_newO (((((w.alloc (.cells #[str secret] 9)).alloc (.cells #[str code] 9)).alloc (.cells #[Value.int .i64 0] 3)).alloc (.cells #[.bool false] 4)).alloc (.cells #[Value.int .i64 step] 3)) (.int .i64 window) 3
 simp only [World.size_alloc] at c1 c2 c3 c4 c5
 have e0 : W0.cell? ⟨w.heap.size, 0, none⟩ = some (str secret) := by rw [← hW0]; exact cell_allocO _ (cell_allocO _ (cell_allocO _ (cell_allocO _ (cell_allocO _ c0.1))))
 have e1 : W0.cell? ⟨w.heap.size + 1, 0, none⟩ = some (str code) := by rw [← hW0]; exact cell_allocO _ (cell_allocO _ (cell_allocO _ (cell_allocO _ c1.1)))
 have e2 : W0.cell? ⟨w.heap.size + 1 + 1, 0, none⟩ = some (.int .i64 0) ∧ W0.frozen? ⟨w.heap.size + 1 + 1, 0, none⟩ = false := by rw [← hW0]; exact ⟨cell_allocO _ (cell_allocO _ (cell_allocO _ c2.1)), frozen_allocO _ (cell_allocO _ (cell_allocO _ c2.1)) (frozen_allocO _ (cell_allocO _ c2.1) (frozen_allocO _ c2.1 c2.2))⟩
 have e3 : W0.cell? ⟨w.heap.size + 1 + 1 + 1, 0, none⟩ = some (.bool false) ∧ W0.frozen? ⟨w.heap.size + 1 + 1 + 1, 0, none⟩ = false := by rw [← hW0]; exact ⟨cell_allocO _ (cell_allocO _ c3.1), frozen_allocO _ (cell_allocO _ c3.1) (frozen_allocO _ c3.1 c3.2)⟩
 have e4 : W0.cell? ⟨w.heap.size + 1 + 1 + 1 + 1, 0, none⟩ = some (.int .i64 step) := by rw [← hW0]; exact cell_allocO _ c4.1
 have e5 : W0.cell? ⟨w.heap.size + 1 + 1 + 1 + 1 + 1, 0, none⟩ = some (.int .i64 window) := by rw [← hW0]; exact c5.1
 clear c0 c1 c2 c3 c4 c5
 rw [hW0]
 clear hW0
 refine wpIn_rangeFunc_ownF rfl (by omega) (gf := 123) (lb := #[.pointer (some ⟨w.heap.size + 1 + 1 + 1 + 1, 0, none⟩), .pointer (some ⟨w.heap.size + 1 + 1 + 1 + 1 + 1, 0, none⟩)]) rfl trivial (enters_of Tryz.func123 (by kernel_rfl) rfl)
  (Fd.steps_stops Fence.wide _ trivial rfl (by omega) (w.heap.size + 1 + 1 + 1 + 1) (w.heap.size + 1 + 1 + 1 + 1 + 1) W0.heap.size step window W0 (by omega) (by omega) (Nat.le_refl _) e4 e5) belowK_t (belowK_b (Nat.le_refl _)) (Below.refl _ _) (fun _ => rfl)
  (fun pre W => (W0.heap.size ≤ W.heap.size ∧ (∀ y ∈ pre, codeF secret y ≠ code) ∧ W.cell? ⟨w.heap.size, 0, none⟩ = some (str secret) ∧ W.cell? ⟨w.heap.size + 1, 0, none⟩ = some (str code) ∧ (W.cell? ⟨w.heap.size + 1 + 1, 0, none⟩ = some (.int .i64 0) ∧ W.frozen? ⟨w.heap.size + 1 + 1, 0, none⟩ = false) ∧ (W.cell? ⟨w.heap.size + 1 + 1 + 1, 0, none⟩ = some (.bool false) ∧ W.frozen? ⟨w.heap.size + 1 + 1 + 1, 0, none⟩ = false)) ∧ Below w.heap.size w W)
  (fun c pre W => (c = .ret ∧ (∃ pre0 x, pre = pre0 ++ [x] ∧ (∀ y ∈ pre0, codeF secret y ≠ code) ∧ codeF secret x = code ∧ W.cell? ⟨w.heap.size + 1 + 1, 0, none⟩ = some (.int .i64 x)) ∧ W.cell? ⟨w.heap.size + 1 + 1 + 1, 0, none⟩ = some (.bool true)) ∧ Below w.heap.size w W)
  (OwnFrom.and (Own.from (fun s A B row hs hg hr => ⟨Nat.le_trans hs.1 hg.size, hs.2.1, cell_kept hs.2.2.1 hg hr, cell_kept hs.2.2.2.1 hg hr, ⟨cell_kept hs.2.2.2.2.1.1 hg hr, (frozen_kept hs.2.2.2.2.1.1 hg hr).trans hs.2.2.2.2.1.2⟩, ⟨cell_kept hs.2.2.2.2.2.1 hg hr, (frozen_kept hs.2.2.2.2.2.1 hg hr).trans hs.2.2.2.2.2.2⟩⟩) _) (ownFrom_below (Nat.le_refl _) (by omega)))
  (fun c => OwnFrom.and (Own.from (fun s A B row hs hg hr => by
   obtain ⟨h1, ⟨p0, x, h2, h3, h4, h5⟩, h6⟩ := hs
   exact ⟨h1, ⟨p0, x, h2, h3, h4, cell_kept h5 hg hr⟩, cell_kept h6 hg hr⟩) _) (ownFrom_below (Nat.le_refl _) (by omega)))
  ⟨⟨Nat.le_refl _, by simp, e0, e1, e2, e3⟩, hB0⟩
  (fun x => { tmps := #[str secret, str code, .int .i64 step, .int .i64 window, .pointer (some ⟨w.heap.size, 0, none⟩), .pointer (some ⟨w.heap.size + 1, 0, none⟩), undef, undef, .pointer (some ⟨w.heap.size + 1 + 1, 0, none⟩), .pointer (some ⟨w.heap.size + 1 + 1 + 1, 0, none⟩), .int .i64 x, .int .i64 step, .int .i64 window, .func (.func 123) #[] #[.pointer (some ⟨w.heap.size + 1 + 1 + 1 + 1, 0, none⟩), .pointer (some ⟨w.heap.size + 1 + 1 + 1 + 1 + 1, 0, none⟩)], .int .i64 x, undef, undef, undef, undef, undef, undef], defers := [] }) ?assign ?body ?done ?stop
 case assign =>
  intro l x W K hK
  gi_wp2
  exact hK
 case body =>
  rintro l pre x W ⟨⟨hW0, hp, h0, h1, ⟨h2, g2⟩, h3, g3⟩, hB⟩ _
  have hmx : Tryz.prog.follows .mixedOrders = true := by kernel_rfl
  have hd : 1 ≤ 5 - 1 - 1 := by omega
  gi_wp2
  gi_region_with_o (first
   | (refine ⟨trivial, ?_⟩; gi_at_call 23; refine (CallsIn.inRound l (callsIn_wide.2 (code_calls (G := G) hs x (by first | exact gs_below hG hS hB | exact gs_below hG hS hB.drew)))).mono ?_; rintro e w' ⟨rfl, hx1⟩; have k1 := ext_cell hx1 h1)
   | (refine ⟨trivial, ?_⟩; gi_at_call 49; refine (CallsIn.inRound l (callsIn_wide.2 (same_calls (Nat.le_trans (code_eq hs x).2 (by omega)) hc))).mono ?_; rintro e w' ⟨rfl, hx2⟩))
  all_goals
   have hxx := (Ext.drew W).trans (hx1.trans hx2)
   have m2 := ext_cell hxx h2
   have n2 := ext_frozen hxx h2 g2
   have m3 := ext_cell hxx h3
   have n3 := ext_frozen hxx h3 g3
   clear k1 hx1 hx2
   gi_wp2
   ·rename_i hx
    have ne : (⟨w.heap.size + 1 + 1 + 1, 0, none⟩ : Addr) ≠ ⟨w.heap.size + 1 + 1, 0, none⟩ := fun e => by injection e; omega
    exact ⟨(keeps_ext hxx).trans ((KeepsOthers.setCell _ _ _).trans (KeepsOthers.setCell _ _ _)),
     ⟨rfl, ⟨pre, x, rfl, hp, eq_of_beq hx, (World.cell?_setCell_other _ _ _ _ ne).trans (World.cell?_setCell_same _ _ _ m2)⟩, World.cell?_setCell_same _ _ _ ((World.cell?_setCell_other _ _ _ _ ne.symm).trans m3)⟩,
     ((hB.trans (Below.mono hxx hB.size)).setCell (p := ⟨w.heap.size + 1 + 1, 0, none⟩) (by simp; omega) _).setCell (p := ⟨w.heap.size + 1 + 1 + 1, 0, none⟩) (by simp; omega) _⟩
   ·rename_i hx
    refine ⟨keeps_ext hxx, Below.mono hxx ?_, ⟨Nat.le_trans hW0 hxx.size, fun y hy => (List.mem_append.1 hy).elim (hp y) (fun e e' => by simp at e; subst e; simp [e'] at hx), ext_cell hxx h0, ext_cell hxx h1, ⟨m2, n2⟩, m3, n3⟩, hB.trans (Below.mono hxx hB.size)⟩
    exact hW0
 case done =>
  rintro D ys W hD rfl ⟨⟨_, hne, h0, h1, ⟨h2, g2⟩, h3, g3⟩, hB⟩ hK
  gi_wp2
  have ne : (⟨w.heap.size + 1 + 1 + 1, 0, none⟩ : Addr) ≠ ⟨w.heap.size + 1 + 1, 0, none⟩ := fun e => by injection e; omega
  have hK' := ((KeepsOthers.setCell W ⟨w.heap.size + 1 + 1, 0, none⟩ (.int .i64 0)).trans (KeepsOthers.setCell _ ⟨w.heap.size + 1 + 1 + 1, 0, none⟩ (.bool false))).same D _ hK rfl
  have q2 := (World.cell?_setCell_other _ ⟨w.heap.size + 1 + 1 + 1, 0, none⟩ _ (.bool false) ne).trans (World.cell?_setCell_same _ _ (.int .i64 0) h2)
  have q3 := World.cell?_setCell_same (W.setCell ⟨w.heap.size + 1 + 1, 0, none⟩ (.int .i64 0)) _ (.bool false) ((World.cell?_setCell_other _ _ _ _ ne.symm).trans h3)
  refine ⟨by simp, .inl ⟨_, _, rfl, run_takeDeferred hK', ?_⟩⟩
  have r2 := cell_kept q2 (grownBy_putObj' _ D (.deferred none)) (fun r e => by cases e; exact ⟨_, hK', rfl⟩)
  have r3 := cell_kept q3 (grownBy_putObj' _ D (.deferred none)) (fun r e => by cases e; exact ⟨_, hK', rfl⟩)
  refine ⟨.tuple #[.int .i64 0, .bool false], ?_, by rw [findF_no hne], ((hB.setCell (p := ⟨w.heap.size + 1 + 1, 0, none⟩) (by simp; omega) _).setCell (p := ⟨w.heap.size + 1 + 1 + 1, 0, none⟩) (by simp; omega) _).trans (belowK_b (w := w) (Nat.le_refl _) _ D _ _ (by omega) hK' rfl rfl)⟩
  simp [results, Tryz.f52, go_sem, r2, r3]
 case stop =>
  rintro D c pre W hD ⟨post, hpre⟩ ⟨⟨rfl, ⟨p0, x, rfl, h2, h3, h4⟩, h5⟩, hB⟩ hK
  gi_wp2
  refine ⟨by simp, .inl ⟨_, _, rfl, run_takeDeferred hK, ?_⟩⟩
  have r2 := cell_kept h4 (grownBy_putObj' _ D (.deferred none)) (fun r e => by cases e; exact ⟨_, hK, rfl⟩)
  have r3 := cell_kept h5 (grownBy_putObj' _ D (.deferred none)) (fun r e => by cases e; exact ⟨_, hK, rfl⟩)
  have hf : findF (codeF secret) code (Fd.stepsL step window) = (x, true) := by
   rw [← hpre, List.append_assoc]
   exact findF_yes h3 h2
  refine ⟨.tuple #[.int .i64 x, .bool true], ?_, by rw [hf], hB.trans (belowK_b (w := w) (Nat.le_refl _) W D _ _ (by omega) hK rfl rfl)⟩
  simp [results, Tryz.f52, go_sem, r2, r3]
def otp_Find_pc : PC := ⟨[.h .s, .h .s, .h (.i .i64), .h (.i .i64)], [.i .i64, .b], fun x => findP x.1 x.2.1 x.2.2.1 x.2.2.2, false⟩
theorem otp_Find_pk : PCok Tryz.prog G 52 otp_Find_pc := by
 refine ⟨isFn Tryz.func52 (by kernel_rfl) (by kernel_rfl), fun S0 w0 us (x : List UInt8 × List UInt8 × Int × Int) (y : Int × Bool) hG hS ha hy => ?_⟩
 have ha : A2 (VR S0 []) [svOf .s x.1, svOf .s x.2.1, svOf (.i .i64) x.2.2.1, svOf (.i .i64) x.2.2.2] us := ha
 have hy : findP x.1 x.2.1 x.2.2.1 x.2.2.2 = some y := hy
 unfold findP at hy
 obtain ⟨hb, hy⟩ := bif_none hy
 simp only [Bool.and_eq_true, decide_eq_true_eq] at hb
 cases hy
 cases ha with
 | cons q1 q2 =>
  cases q2 with
  | cons q2 q3 =>
   cases q3 with
   | cons q3 q4 =>
    cases q4 with
    | cons q4 q5 =>
     cases q5
     rw [encV_of (t := .s) rfl q1, encV_of (t := .s) rfl q2, encV_of (t := .i .i64) rfl q3, encV_of (t := .i .i64) rfl q4]
     exact (find_c hG hS hb.1 hb.2 x.2.2.1 x.2.2.2).mono fun e w' ⟨he, hx⟩ => ⟨hx, _, he, encR_rep (l := [.i .i64, .b]) (x := findF (codeF x.1) x.2.1 (Fd.stepsL x.2.2.1 x.2.2.2)) rfl, fun h => by cases h⟩
end
end Go.Proofs.YtmkomlbiaebddaaGreatDoor.Am
namespace Go.Proofs.YtmkomlbiaebddaaGreatDoor
open Go Go.RowKit
end Go.Proofs.YtmkomlbiaebddaaGreatDoor
namespace Go.Proofs.YtmkomlbiaebddaaGreatDoor.Am
open Go Go.RowKit
structure Ops where
 stretch : (List UInt8) → (List UInt8) → Int → Int → Option ((List UInt8) × Int)
 code : (List UInt8) → Int → Option (List UInt8)
 find : (List UInt8) → (List UInt8) → Int → Int → Option (Int × Bool)
 same : (List UInt8) → (List UInt8) → Option (Bool)
 itoa : Int → Option (List UInt8)
 atoi : (List UInt8) → Option (Int × Bool)
 trim : (List UInt8) → (List UInt8) → Option (List UInt8)
 cut : (List UInt8) → (List UInt8) → Option ((List UInt8) × (List UInt8) × Bool)
 form : (List (List UInt8)) → Option (List UInt8)
def oc_stretch (o : Ops) : PC := ⟨[(.h .s), (.h .s), (.h (.i .i64)), (.h (.i .i64))], [.s, (.i .i64)], fun x => o.stretch x.1 x.2.1 x.2.2.1 x.2.2.2, false⟩
def oc_code (o : Ops) : PC := ⟨[(.h .s), (.h (.i .i64))], [.s], fun x => o.code x.1 x.2, false⟩
def oc_find (o : Ops) : PC := ⟨[(.h .s), (.h .s), (.h (.i .i64)), (.h (.i .i64))], [(.i .i64), .b], fun x => o.find x.1 x.2.1 x.2.2.1 x.2.2.2, false⟩
def oc_same (o : Ops) : PC := ⟨[(.h .s), (.h .s)], [.b], fun x => o.same x.1 x.2, false⟩
def oc_itoa (o : Ops) : PC := ⟨[(.h (.i .i64))], [.s], fun x => o.itoa x, false⟩
def oc_atoi (o : Ops) : PC := ⟨[(.h .s)], [(.i .i64), .er], fun x => o.atoi x, false⟩
def oc_trim (o : Ops) : PC := ⟨[(.h .s), (.h .s)], [.s], fun x => o.trim x.1 x.2, false⟩
def oc_cut (o : Ops) : PC := ⟨[(.h .s), (.h .s)], [.s, .s, .b], fun x => o.cut x.1 x.2, false⟩
def oc_form (o : Ops) : PC := ⟨[(.h (.sl .s))], [.s], fun x => o.form x, false⟩
class OpsOk (G : List (Nat × Obj)) (o : Ops) : Prop where
 stretch : PCok Tryz.prog G 92 (oc_stretch o)
 code : PCok Tryz.prog G 23 (oc_code o)
 find : PCok Tryz.prog G 52 (oc_find o)
 same : PCok Tryz.prog G 49 (oc_same o)
 itoa : PCok Tryz.prog G 39 (oc_itoa o)
 atoi : PCok Tryz.prog G 110 (oc_atoi o)
 trim : PCok Tryz.prog G 109 (oc_trim o)
 cut : PCok Tryz.prog G 106 (oc_cut o)
 form : PCok Tryz.prog G 40 (oc_form o)
theorem witO {p : Prop} {G : List (Nat × Obj)} {o : Ops} [TabOk G] [OpsOk G o] (h : p) : p := h
def realOps : Ops := ⟨hash_Stretch_p, otp_Code_p, findP, sameP, itoaP, atoiP, trimP, cutP, people_Form_p⟩
instance realOk {G : List (Nat × Obj)} [TabOk G] : OpsOk G realOps := ⟨hash_Stretch_pk, otp_Code_pk, otp_Find_pk, hash_Same_pk, strconv_Itoa_pk, strconv_Atoi_pk, strings_Trim_pk, strings_Cut_pk, people_Form_pk⟩
end Go.Proofs.YtmkomlbiaebddaaGreatDoor.Am
namespace Go.Proofs.YtmkomlbiaebddaaGreatDoor
open Go Go.RowKit
end Go.Proofs.YtmkomlbiaebddaaGreatDoor
namespace Go.Proofs.YtmkomlbiaebddaaGreatDoor.Am
open Go Go.RowKit
section
variable {τ : TE} {P : Program} {G : List (Nat × Obj)}
theorem clone_sc {f : FuncId} {fn : Func} {c : Code} {e : Ty} {T : TypeId} (hm : P.follows .mixedOrders = true) (hτ : TEok P τ) (hf : P.funcs[f]? = some fn) (hfn : IsFn P f) (hb : fn.body = some c) (hl : Nat.ble 1 fn.ntmps = true) (hr : Nat.beq fn.results.toList.length 1 = true)
  (h1 : run 0 fn.ntmps τ ⟨[], [], false⟩ [] c ⟨[(0, .nils)], []⟩ (finS τ fn 0 [(none, ⟨[(0, .nils)], []⟩)]) = some ())
  (h2 : ∀ xs : List (den e), run 0 fn.ntmps τ ⟨[], [], false⟩ [] c ⟨[(0, .nn e xs)], []⟩ (finS τ fn 0 [(none, ⟨[(0, .own 0)], [.osl e T]⟩)]) = Option.bind (app [] xs) fun r => some r) :
  SCok P G f ⟨⟨[(0, .h (.sl e))], []⟩, 1, [(none, ⟨[(0, .own 0)], [.osl e T]⟩)], fun xs => app [] xs⟩ := by
 refine ⟨hfn, fun S0 w0 us E0 L0 (xs : List (den e)) (d : List (den e)) _ hul R hy => ?_⟩
 have hy : app [] xs = some d := hy
 have hul : us.length = 1 := hul
 have hle : us.length ≤ fn.ntmps := by rw [hul]; exact Nat.le_of_ble_eq_true hl
 obtain ⟨u, rfl⟩ : ∃ u, us = [u] := by
  match us, hul with
  | [u], _ => exact ⟨u, rfl⟩
 have hu : VB S0 E0 (.v (.sl e) xs) u := R.sl 0
 obtain ⟨v, hv, hrd⟩ := hu
 injection hv with hv
 subst hv
 have re : ∀ {x : SV}, VR S0 E0 x u → RelV ⟨S0, keysR L0, w0⟩ S0 E0 L0 ⟨[(0, x)], []⟩ (fun t => [u].getD t undef) w0 := fun {x} hx => ⟨R.hs, R.lL, R.lE, R.obj, fun t => by
  cases t with
  | zero => exact hx
  | succ t => trivial⟩
 by_cases hn : ∃ n c, u = .slice none n c
 ·have hu0 : u = .slice none 0 0 ∧ xs = [] := by
   obtain ⟨cs, k1, k2⟩ := hrd
   obtain ⟨n, c', hn⟩ := hn
   rcases k1 with ⟨k1, k3, _⟩ | ⟨b', o, c2, ds, T2, fz, k1, _⟩
   ·exact ⟨k1, List.eq_nil_of_length_eq_zero k3⟩
   ·rw [hn] at k1; cases k1
  obtain ⟨rfl, rfl⟩ := hu0
  have hd : d = [] := app_nil hy
  subst hd
  refine (fnS_run hm hτ (ctok (G := []) (pc := []) (sc := []) (k := false) trivial trivial _ (fun _ h => by cases h)) hf hb hle hr (re (x := .nils) rfl) h1).mono fun e' w' ⟨v, he, S', E', L', σo, V', ho, hS, hP, R', hv0, hn0, hres⟩ => ?_
  have hσ : σo = ⟨[(0, .nils)], []⟩ := by
   have := ho (γ := St) fun _ σ => some σ
   exact (osi this).symm
  subst hσ
  have hl' : L'.length = 0 := R'.lL
  have hE' : E'.length = 0 := R'.lE
  have e1 : L' = [] := List.eq_nil_of_length_eq_zero hl'
  have e2 : E' = [] := List.eq_nil_of_length_eq_zero hE'
  subst e1; subst e2
  have h0 : V' 0 = .slice none 0 0 := R'.sl 0
  refine ⟨v, he, S', [.osl 0 (.slice none 0 0) (tsz e)], [.osl (.slice none 0 0) 0 (tsz e) [] [] T], ⟨[(0, .own 0 0)], [.osl 0 e T []]⟩, V', fun k => ?_, hS, fun k e hk => absurd hk (Nat.not_lt_zero k), ⟨HS.nil R'.hs _ _, rfl, rfl, fun i o h => ?_, fun t => ?_⟩, ?_, Nat.zero_le _, hres⟩
  ·show k (exOf none) _ = _
   have : (Shp.put (⟨[(0, .own 0)], [.osl e T]⟩ : Shp) ([] : List (den e))) = ⟨[(0, .own 0 0)], [.osl 0 e T []]⟩ := by
    obtain ⟨q, hq⟩ := tyEq_refl e
    have e0 : ∀ y : den (.sl e), putHp [.osl e T] [.v (.sl e) y] = [.osl 0 e T y] := fun y => by
     rw [putHp, hq]; rfl
    have e1 : putHp [.osl e T] [.v (.sl e) ([] : List (den e))] = [.osl 0 e T []] := e0 _
    exact congrArg (fun hp => (⟨[(0, .own 0 0)], hp⟩ : St)) e1
   rw [this]; rfl
  ·cases i with
   | zero => cases h; exact ⟨_, _, rfl, rfl, .slice none 0 0, .slice none 0 0, [], [], rfl, rfl, rfl, .inl rfl⟩
   | succ i => cases h
  ·cases t with
   | zero => exact VR.ofC (show VC S' _ (.own 0 0) (V' 0) by rw [h0]; exact ⟨rfl, _, rfl, fun r v s he => by cases he; exact ⟨Nat.le_refl 0, fun _ => rfl⟩⟩)
   | succ t => trivial
  ·intro i ver e' T' xs h
   cases i with
   | zero => cases h; rfl
   | succ i => cases h
 ·exact (fnS_run hm hτ (ctok (G := []) (pc := []) (sc := []) (k := false) trivial trivial _ (fun _ h => by cases h)) hf hb hle hr (re (x := .nn e xs) ⟨hrd, fun n c h => hn ⟨n, c, h⟩⟩) ((h2 xs).trans (by rw [hy]; rfl))).mono fun _ _ h => h
def finC (τ : TE) (f : Func) (e : Ty) (ex : Ex) (σ : St) : Option (List (den e)) := match ex with
 | .exit _ => none
 | _ => match resVs τ σ f.results.toList with
  | some [.cl e' xs] => match tyEq e' e with
   | some ⟨h⟩ => some (castD (by rw [h] : Ty.sl e' = Ty.sl e) (show den (.sl e') from xs))
   | none => none
  | _ => none
theorem clip_pc {f : FuncId} {fn : Func} {c : Code} {e : Ty} (hm : P.follows .mixedOrders = true) (hτ : TEok P τ) (hf : P.funcs[f]? = some fn) (hfn : IsFn P f) (hb : fn.body = some c) (hl : Nat.ble 1 fn.ntmps = true)
  (h1 : ∀ xs : List (den e), run 0 fn.ntmps τ ⟨[], [], false⟩ [] c ⟨[(0, .v (.sl e) xs)], []⟩ (finC τ fn e) = Option.bind (chk (decide ((xs.length : Int) = (xs.length : Int)))) fun _ => Option.bind (subH xs (xs.length : Int)) fun r => some r) :
  PCok P G f ⟨[.h (.sl e)], [.sl e], fun xs => some xs, true⟩ := by
 refine ⟨hfn, fun S0 w0 us (xs : List (den e)) (y : List (den e)) _ hS ha hy => ?_⟩
 have hxy : xs = y := osi hy
 subst hxy
 have ha : A2 (VR S0 []) [SV.v (.sl e) xs] us := ha
 have h2 : run 0 fn.ntmps τ ⟨[], [], false⟩ [] c ⟨[(0, .v (.sl e) xs)], []⟩ (finC τ fn e) = some xs := by
  rw [h1 xs]
  have h3 : subH xs (xs.length : Int) = some xs := by
   unfold subH
   simp
  simp [chk, h3]
 have hul : us.length = 1 := by rw [← ha.len]; rfl
 refine enter hf hb rfl (by rw [hul]; exact hl) ?_
 have R0 : Rel fn.ntmps ⟨S0, [], w0⟩ S0 [] [] ⟨argS 0 [SV.v (.sl e) xs], []⟩ (argm us 0) w0 := by
  refine ⟨HS.start hS, rfl, rfl, fun i o h => by simp at h, fun t => ?_⟩
  show VR S0 [] (lkS (argS 0 [SV.v (.sl e) xs]) t) (bif Nat.blt t fn.ntmps then look (argm us 0) t else undef)
  cases ht : Nat.blt t fn.ntmps with
  | true => exact arg_ok 0 t ha
  | false =>
   rw [nat_blt] at ht
   have h1 := of_decide_eq_false ht
   have h2 := Nat.le_of_ble_eq_true hl
   rw [argS_none (by simp; omega)]
   trivial
 refine run_ok hm hτ (ctok (G := []) (pc := []) (sc := []) (k := false) trivial trivial _ (fun _ h => by cases h)) c R0 (finC τ fn e) xs _ h2 fun ex σ' S' E' L' m' w' h1 _ _ _ R1 => ?_
 have key : ∀ (_ : (match resVs τ σ' fn.results.toList with
   | some [.cl e' xs] => match tyEq e' e with
    | some ⟨h⟩ => some (castD (by rw [h] : Ty.sl e' = Ty.sl e) (show den (.sl e') from xs))
    | none => none
   | _ => none) = some xs), (fr fn.ntmps m').defers = [] ∧ ∃ v, (results fn (fr fn.ntmps m').tmps).run P w' = .ok v w' ∧ Ext w0 w' ∧ repR (gr S0 w0 w') [.sl e] v xs ∧ ∃ a n, v = .slice a n n := fun h1 => by
  split at h1
  ·rename_i e' ys hl1
   split at h1
   ·rename_i hh _
    subst hh
    have hys : ys = xs := osi h1
    subst hys
    obtain ⟨vs, h3, h4⟩ := resVs_ok (P := P) hτ R1 hl1
    obtain ⟨v, rfl, h5⟩ := h3.one
    obtain ⟨h5, a, h6⟩ := (show VB S' E' (.cl e' ys) v from h5)
    refine ⟨rfl, v, ?_, R1.hs.toExt, ⟨v, rfl, RdS.mono h5 R1.hs.gr⟩, a, _, h6⟩
    rw [results_eq, Array.mapM_eq_mapM_toList]
    simp only [Sem.run_bind, Sem.run_map, h4, Result.andThen_ok, Sem.run_pure]
    rfl
   ·cases h1
  ·cases h1
 cases ex with
 | normal =>
  obtain ⟨h2, v, h3, h4, h5, h6⟩ := key h1
  exact ⟨h2, v, h3, h4, v, rfl, h5, fun _ => h6⟩
 | ret =>
  obtain ⟨h2, v, h3, h4, h5, h6⟩ := key h1
  exact ⟨h2, v, h3, h4, v, rfl, h5, fun _ => h6⟩
 | exit i => cases h1
end
end Go.Proofs.YtmkomlbiaebddaaGreatDoor.Am
namespace Go.Proofs.YtmkomlbiaebddaaGreatDoor
open Go Go.RowKit
end Go.Proofs.YtmkomlbiaebddaaGreatDoor
namespace Go.Proofs.YtmkomlbiaebddaaGreatDoor.Am
open Go Go.RowKit Go.Maps Go.Sort
open Go.WideElems (Fit rd rg)
def risesB : List (List UInt8) → Bool
 | x :: y :: l => Op.bytesLess x y && risesB (y :: l)
 | _ => true
def keysOk {α : Type} (es : List (List UInt8 × α)) : Bool := decide (es.length ≤ 1048576) && (es.all (fun p => decide (p.1.length ≤ 68719476736)) && risesB (es.map (·.1)))
def sortedP {α : Type} (es : List (List UInt8 × α)) : Option (List (List UInt8) × List (List UInt8 × α)) := bif keysOk es then some (es.map (·.1), es) else none
theorem rises_pw : ∀ {l : List (List UInt8)}, risesB l = true → l.Pairwise fun x y => x < y
 | [], _ => .nil
 | [x], _ => List.pairwise_singleton _ _
 | x :: y :: l, h => by
  unfold risesB at h
  rw [Bool.and_eq_true, bytesLess_eq, decide_eq_true_eq] at h
  have ih := rises_pw (l := y :: l) h.2
  refine List.pairwise_cons.2 ⟨fun z hz => ?_, ih⟩
  rcases List.mem_cons.1 hz with rfl | hz
  ·exact h.1
  ·exact List.lt_trans h.1 ((List.pairwise_cons.1 ih).1 z hz)
theorem sort_rises {l : List (List UInt8)} (h : risesB l = true) : l.mergeSort (fun x y => decide (x ≤ y)) = l := by
 refine List.mergeSort_of_pairwise ((rises_pw h).imp fun {a b} hab => ?_)
 simp only [decide_eq_true_eq]
 exact List.le_of_lt hab
def anyV : Value → Option (DataW Unit × List MemPlace) := fun _ => some (.nil, [])
section
variable {P : Program} {S : Mem}
theorem ents_any {V : Ty} {kT : TypeId} (hk : P.underlying kT = some .string) : ∀ {l : List (List UInt8 × den V)} {ents : List MapEntry}, A2 (fun (p : List UInt8 × den V) en => rep1 .s S en.key p.1 ∧ rep1 V S en.val p.2) l ents → (∀ p ∈ l, p.1.length ≤ 68719476736) → ents.map (·.key) = l.map (fun p => str p.1) ∧ (∀ x ∈ ents, ∃ y, Go.WideElems.rd P kT anyV x = some y) ∧ (ents.map (Go.WideElems.rg P kT anyV)).map (fun p => strOf p.1) = l.map (·.1)
 | _, _, .nil, _ => ⟨rfl, fun _ h => (by cases h), rfl⟩
 | p :: l, en :: ents, .cons a r, hs => by
  obtain ⟨i1, i2, i3⟩ := ents_any hk r fun q hq => hs q (List.mem_cons_of_mem _ hq)
  have hkey : en.key = str p.1 := by have h : [en.key] = [str p.1] := a.1; injection h
  have hp := hs p List.mem_cons_self
  have hr : Go.WideElems.rd P kT anyV en = some (.string p.1, .nil) := by
   unfold Go.WideElems.rd
   rw [hkey]
   have := Go.WideMaps.keyOf_string_mk (P := P) (k := kT) hk (s := ⟨p.1.toArray⟩) (by show p.1.toArray.size ≤ _; simp [maxLen]; omega)
   show (keyOf P kT (.string ⟨p.1.toArray⟩)).bind _ = _
   rw [this]
   rfl
  refine ⟨by rw [List.map_cons, List.map_cons, i1, hkey], fun x hx => ?_, ?_⟩
  ·rcases List.mem_cons.1 hx with rfl | hx
   ·exact ⟨_, hr⟩
   ·exact i2 x hx
  ·rw [List.map_cons, List.map_cons, List.map_cons, i3]
   congr 1
   unfold Go.WideElems.rg
   rw [hr]
   rfl
theorem owns_any {V : Ty} {kT : TypeId} {w : World} {b ck : Nat} {es : List (List UInt8 × den V)} {ents : List MapEntry} (hk : P.underlying kT = some .string) (hm : MR S .s V es ents) (hb : ∀ en ∈ ents, en.born < ck) (hh : w.heap[b]? = some (.map ents.toArray ck)) (ho : keysOk es = true) :
  ∃ D0 : DataW Unit, w.ownsMap P kT anyV b es.length D0 ∧ Maps.size D0 = es.length ∧ (strKeys D0).Perm (es.map (·.1)) := by
 obtain ⟨(l : List (List UInt8 × den V)), (hl : l.Perm es), hA⟩ := hm.perm
 unfold keysOk at ho
 simp only [Bool.and_eq_true, decide_eq_true_eq, List.all_eq_true] at ho
 obtain ⟨h1, h2, h3⟩ := ho
 have hlen : ents.length = es.length := by rw [← hA.len]; exact hl.length_eq
 obtain ⟨k1, k2, k3⟩ := ents_any hk hA fun p hp => h2 p (hl.mem_iff.1 hp)
 have hnd : (es.map (·.1)).Nodup := (rises_pw h3).imp fun {a b} hab e => by subst e; exact List.lt_irrefl _ hab
 refine ⟨_, ⟨ents.toArray, ck, hh, ⟨by simp [maxLen]; omega, ⟨by simpa using hb, by simpa using hm.nd, ?_⟩, by simpa using k2⟩, by simp [hlen], rfl⟩, ?_, ?_⟩
 ·have e1 : l.map (fun p => str p.1) = (l.map (·.1)).map str := by rw [List.map_map]; rfl
  simp only []
  rw [k1, e1]
  refine List.Pairwise.map _ (fun a b hab e => hab (str_inj e)) ((hl.map _).nodup_iff.2 hnd)
 ·show ((ents.map (Go.WideElems.rg P kT anyV)).foldr DataW.insert []).length = _
  rw [length_sorted, List.length_map, hlen]
 ·show (((ents.map (Go.WideElems.rg P kT anyV)).foldr DataW.insert []).map fun p => strOf p.1).Perm _
  refine ((Go.WideShapes.sorted_perm _).map _).trans ?_
  rw [k3]
  exact hl.map _
theorem strs_rl : ∀ (l : List (List UInt8)), @RL (den .s) (rpD .s) S (l.map encStr) l
 | [] => rfl
 | x :: l => ⟨[str x], l.map encStr, rfl, (rfl : [_] = [_]), strs_rl l⟩
theorem row_rd {w' : World} {base n : Nat} {sT : TypeId} {v : Value} {ks : List (List UInt8)} (hn : ks.length = n) (hrow : w'.ownsRow base sT 1 v n (ks.map encStr)) (hm : ∀ b, base ≤ b → S b = w'.heap[b]?) : @RdS (den .s) (rpD .s) S v ks := by
 subst hn
 refine ⟨ks.map encStr, ?_, strs_rl ks⟩
 obtain ⟨g1, g2⟩ := hrow
 show SlS S v ks.length 1 (ks.map encStr)
 rcases g2 with ⟨rfl, g3⟩ | ⟨gb, cap, cur, rfl, g3, g4, g5, g6, g7, g8⟩
 ·have : ks = [] := List.eq_nil_of_length_eq_zero g3
  subst this
  exact .inl ⟨rfl, rfl, rfl⟩
 ·refine .inr ⟨gb, 0, cap, cur.toList, sT, (0, 0), rfl, g5, ?_, ?_, ?_⟩
  ·rw [hm gb g3, g4]
  ·have : cur.toList.length = cap * 1 := by simpa using g7
   rw [this]; omega
  ·rw [piece_eq, List.drop_zero]; exact g8
theorem sorted_sc {G : List (Nat × Obj)} {f g : FuncId} {mT kT sT : TypeId} {V : Ty} (hfn : IsFn P f) (hk : P.underlying kT = some .string)
  (hS : ∀ (Bm b nn : Nat) (D0 : DataW Unit) (w : World), Bm < w.heap.size → w.cell? ⟨Bm, 0, none⟩ = some (.map (some b)) → w.ownsMap P kT anyV b nn D0 → Maps.size D0 ≤ maxLen → Maps.size D0 * 16 ≤ 140737488355328 →
   Calls P f #[.func (.func g) #[] #[.pointer (some ⟨Bm, 0, none⟩)]] w fun e w' => ∃ (v : Value) (ss : List (List UInt8)), e = .returned v ∧ ss.Perm (strKeys D0) ∧ w'.ownsRow w.heap.size sT 1 v ss.length ((ss.mergeSort (fun x y => decide (x ≤ y))).map encStr) ∧ (v = .slice none 0 0 ↔ ss = []) ∧ Below w.heap.size w w') :
  SCok P G f ⟨⟨[(0, .fn g [] [.ptr 0 0])], [.blk mT [.mpr 1], .mp false .s V]⟩, 1, [(none, ⟨[(0, .h (.sl .s))], [.blk mT [.mpr 1], .mp false .s V]⟩)], fun (es : List (List UInt8 × den V)) => sortedP es⟩ := by
 refine ⟨hfn, fun S0 w0 us E0 L0 (es : List (List UInt8 × den V)) d _ hul R hy => ?_⟩
 have hy : (bif keysOk es then some (es.map (·.1), es) else none) = some d := hy
 obtain ⟨hok, hy⟩ := bif_none hy
 have hd : d = (es.map (·.1), es) := (osi hy).symm
 subst hd
 have hul : us.length = 1 := hul
 obtain ⟨u, rfl⟩ : ∃ u, us = [u] := by
  match us, hul with
  | [u], _ => exact ⟨u, rfl⟩
 obtain ⟨q, hq⟩ := tyEq_refl (.mp .s V)
 have hput : (Shp.put (⟨[(0, .fn g [] [.ptr 0 0])], [.blk mT [.mpr 1], .mp false .s V]⟩ : Shp) es) = ⟨[(0, .fn g [] [.ptr 0 0])], [.blk mT [.mpr 1], .mp 1 .s V es]⟩ := by
  have e0 : ∀ y : den (.mp .s V), putHp [.blk mT [.mpr 1], .mp false .s V] [.v (.mp .s V) y] = [.blk mT [.mpr 1], .mp 1 .s V y] := fun y => by
   simp only [putHp, putCs, Sh.putC, Sh.putB, hq]
   rfl
  exact congrArg (fun hp => (⟨[(0, .fn g [] [.ptr 0 0])], hp⟩ : St)) (e0 es)
 have hput2 : (Shp.put (⟨[(0, .h (.sl .s))], [.blk mT [.mpr 1], .mp false .s V]⟩ : Shp) ((es.map (·.1), es) : List (List UInt8) × List (List UInt8 × den V))) = ⟨[(0, .v (.sl .s) (es.map (·.1)))], [.blk mT [.mpr 1], .mp 1 .s V es]⟩ := by
  have e0 : ∀ y : den (.mp .s V), putHp [.blk mT [.mpr 1], .mp false .s V] [.v (.mp .s V) y] = [.blk mT [.mpr 1], .mp 1 .s V y] := fun y => by
   simp only [putHp, putCs, Sh.putC, Sh.putB, hq]
   rfl
  exact congrArg (fun hp => (⟨[(0, .v (.sl .s) (es.map (·.1)))], hp⟩ : St)) (e0 es)
 have R : RelV ⟨S0, keysR L0, w0⟩ S0 E0 L0 ⟨[(0, .fn g [] [.ptr 0 0])], [.blk mT [.mpr 1], .mp 1 .s V es]⟩ (fun t => [u].getD t undef) w0 := by rw [← hput]; exact R
 obtain ⟨r0, e0, a1, a2, b0, cs, rfl, rfl, a3⟩ := R.objN (i := 0) rfl
 obtain ⟨c, rfl, a4⟩ := a3.one
 obtain ⟨_, e1, a5, a6⟩ := (show VB S0 E0 (.mpr 1) c from a4)
 obtain ⟨r1, e1', c1, c2, b, ents, ck, rfl, rfl, c3, c4⟩ := R.objN (i := 1) rfl
 rw [c2] at a5; cases a5
 have hc := a6 _ _ _ _ rfl
 subst hc
 have hh0 : w0.heap[b0]? = some (.cells [Value.map (some b)].toArray mT (0, 0)) := R.hs.own 0 _ a1
 have hh1 : w0.heap[b]? = some (.map ents.toArray ck) := R.hs.own 1 _ c1
 have hu : u = .func (.func g) #[] #[.pointer (some ⟨b0, 0, none⟩)] := by
  obtain ⟨xs, ys, hu, h1, h2⟩ := (show VC S0 E0 (.fn g [] [.ptr 0 0]) u from R.sl 0)
  cases h1
  obtain ⟨y, rfl, h3⟩ := h2.one
  obtain ⟨b1, hy, e2, h4, h5⟩ := (show VB S0 E0 (.ptr 0 0) y from h3)
  rw [a2] at h4; cases h4
  cases h5 _ rfl
  rw [hu, hy]
 subst hu
 obtain ⟨D0, d1, d2, d3⟩ := owns_any (S := S0) hk c3 c4 hh1 hok
 have hlen : es.length ≤ 1048576 := by unfold keysOk at hok; simp only [Bool.and_eq_true, decide_eq_true_eq] at hok; exact hok.1
 have hrise : risesB (es.map (·.1)) = true := by unfold keysOk at hok; simp only [Bool.and_eq_true] at hok; exact hok.2.2
 have hcell : w0.cell? ⟨b0, 0, none⟩ = some (.map (some b)) := by simp [World.cell?, hh0]
 refine (hS b0 b es.length D0 w0 (Array.getElem?_eq_some_iff.1 hh0).1 hcell d1 (by rw [d2]; simp [maxLen]; omega) (by rw [d2]; omega)).mono fun e w' ⟨v, ss, he, hp, hrow, hnil, hx⟩ => ?_
 have hx : Ext w0 w' := hx
 have hss : ss.mergeSort (fun x y => decide (x ≤ y)) = es.map (·.1) := by
  rw [← sort_rises hrise]
  exact mergeSort_of_perm (hp.trans d3)
 have hsl : ss.length = es.length := by rw [hp.length_eq, d3.length_eq, List.length_map]
 rw [hss, hsl] at hrow
 have R' := R.call hx
 have hv : VB (gr S0 w0 w') E0 (.v (.sl .s) (es.map (·.1))) v :=
  ⟨v, rfl, row_rd (List.length_map _) hrow fun b hb => by unfold Go.Proofs.YtmkomlbiaebddaaGreatDoor.gr; rw [if_neg (by omega)]⟩
 refine ⟨v, he, gr S0 w0 w', E0, L0, ⟨[(0, .v (.sl .s) (es.map (·.1)))], [.blk mT [.mpr 1], .mp 1 .s V es]⟩, fun _ => v, fun k => ?_, gr_le R.hs.sub, Pin.refl _ _, ⟨R'.hs, R'.lL, R'.lE, R'.obj, fun t => ?_⟩, ?_, Nat.le_refl _, rfl⟩
 ·show k (exOf none) ((Shp.put _ _).app []) = _
  rw [hput2]; rfl
 ·cases t with
  | zero => exact VR.ofC (show VC _ _ (.v (.sl .s) (es.map (·.1))) v from hv)
  | succ t => trivial
 ·intro i ver e' T' xs h
  cases i with
  | zero => cases h
  | succ i =>
   cases i with
   | zero => cases h
   | succ i => cases h
end
end Go.Proofs.YtmkomlbiaebddaaGreatDoor.Am
namespace Go.Proofs.YtmkomlbiaebddaaGreatDoor
open Go Go.RowKit
end Go.Proofs.YtmkomlbiaebddaaGreatDoor
namespace Go.Proofs
open Go.Shelf
def Tryz.keysA_ren : Go.Shelf.Ren := ⟨fun | 7 => 37 | 10 => 87 | n => n, fun | 23 => 77 | 26 => 9 | 3 => 74 | 28 => 83 | 0 => 0 | 27 => 82 | 33 => 89 | 4 => 4 | n => n, fun | n => n⟩
theorem Tryz.keysA : Go.Proofs.SlLaysZ.n7 Tryz.prog Tryz.keysA_ren := {
  mixed := by kernel_rfl
  f7 := ⟨Tryz.f37.name, by decide, Tryz.func37.trans (congrArg some (by kernel_rfl))⟩
  f10 := ⟨Tryz.f87.name, by decide, Tryz.func87.trans (congrArg some (by kernel_rfl))⟩
  t0 := Tryz.underlying0
  a0 := Tryz.isAgg0
  z0 := Tryz.sizeOf0
  v0 := Tryz.zeroValue0
  t4 := Tryz.underlying4
  a4 := Tryz.isAgg4
  z4 := Tryz.sizeOf4
  v4 := Tryz.zeroValue4
  t23 := Tryz.underlying77
  a23 := Tryz.isAgg77
  z23 := Tryz.sizeOf77
  v23 := Tryz.zeroValue77
  t26 := Tryz.underlying9
  a26 := Tryz.isAgg9
  z26 := Tryz.sizeOf9
  v26 := Tryz.zeroValue9
  t27 := Tryz.underlying82
  a27 := Tryz.isAgg82
  z27 := Tryz.sizeOf82
  v27 := Tryz.zeroValue82
  t28 := Tryz.underlying83
  a28 := Tryz.isAgg83
  z28 := Tryz.sizeOf83
  v28 := Tryz.zeroValue83
  t33 := Tryz.underlying89
  a33 := Tryz.isAgg89
  z33 := Tryz.sizeOf89
  v33 := Tryz.zeroValue89 }
def Tryz.sortedA_ren : Go.Shelf.Ren := ⟨fun | 6 => 36 | 8 => 85 | 9 => 86 | 11 => 113 | 13 => 115 | 12 => 114 | 23 => 149 | 24 => 150 | 14 => 140 | 15 => 141 | 16 => 142 | 17 => 143 | 18 => 144 | 19 => 145 | 20 => 146 | 21 => 147 | 22 => 148 | 25 => 175 | 26 => 176 | 27 => 177 | 28 => 178 | 29 => 179 | 30 => 180 | 31 => 195 | n => n, fun | 26 => 9 | 28 => 83 | 24 => 41 | 0 => 0 | 3 => 3 | 37 => 139 | 48 => 133 | 50 => 102 | 4 => 4 | 40 => 176 | 39 => 175 | 45 => 98 | 5 => 5 | 9 => 9 | 51 => 206 | 55 => 210 | 57 => 223 | 58 => 224 | 33 => 89 | n => n, fun | n => n⟩
theorem Tryz.sortedA : Go.Proofs.SlLaysZ.n6 Tryz.prog Tryz.sortedA_ren := {
  mixed := by kernel_rfl
  f6 := ⟨Tryz.f36.name, by decide, Tryz.func36.trans (congrArg some (by kernel_rfl))⟩
  f8 := ⟨Tryz.f85.name, by decide, Tryz.func85.trans (congrArg some (by kernel_rfl))⟩
  f11 := ⟨Tryz.f113.name, by decide, Tryz.func113.trans (congrArg some (by kernel_rfl))⟩
  t0 := Tryz.underlying0
  a0 := Tryz.isAgg0
  z0 := Tryz.sizeOf0
  v0 := Tryz.zeroValue0
  t24 := Tryz.underlying41
  a24 := Tryz.isAgg41
  z24 := Tryz.sizeOf41
  v24 := Tryz.zeroValue41
  t26 := Tryz.underlying9
  a26 := Tryz.isAgg9
  z26 := Tryz.sizeOf9
  v26 := Tryz.zeroValue9
  t28 := Tryz.underlying83
  a28 := Tryz.isAgg83
  z28 := Tryz.sizeOf83
  v28 := Tryz.zeroValue83
  i26 := by kernel_rfl }
def Tryz.sortA_ren : Go.Shelf.Ren := ⟨fun | 6 => 86 | 8 => 115 | 9 => 114 | 19 => 149 | 20 => 150 | 21 => 140 | 22 => 141 | 23 => 142 | 24 => 143 | 25 => 144 | 26 => 145 | 27 => 146 | 28 => 147 | 29 => 148 | 36 => 175 | 31 => 176 | 32 => 177 | 37 => 178 | 38 => 179 | 39 => 180 | 41 => 195 | n => n, fun | 27 => 41 | 29 => 9 | 3 => 3 | 32 => 139 | 26 => 41 | 0 => 0 | 44 => 133 | 46 => 102 | 4 => 4 | 36 => 176 | 35 => 175 | 41 => 98 | 5 => 5 | 9 => 9 | 53 => 206 | 57 => 210 | 63 => 223 | 64 => 224 | n => n, fun | n => n⟩
theorem Tryz.sortA : Go.Proofs.SlLaysM.n6 Tryz.prog Tryz.sortA_ren := {
  mixed := by kernel_rfl
  f6 := ⟨Tryz.f86.name, by decide, Tryz.func86.trans (congrArg some (by kernel_rfl))⟩
  f8 := Tryz.func115.trans (congrArg some (by kernel_rfl))
  f9 := ⟨Tryz.f114.name, by decide, Tryz.func114.trans (congrArg some (by kernel_rfl))⟩
  f19 := Tryz.func149.trans (congrArg some (by kernel_rfl))
  f20 := Tryz.func150.trans (congrArg some (by kernel_rfl))
  f21 := ⟨Tryz.f140.name, by decide, Tryz.func140.trans (congrArg some (by kernel_rfl))⟩
  f22 := ⟨Tryz.f141.name, by decide, Tryz.func141.trans (congrArg some (by kernel_rfl))⟩
  f23 := ⟨Tryz.f142.name, by decide, Tryz.func142.trans (congrArg some (by kernel_rfl))⟩
  f24 := ⟨Tryz.f143.name, by decide, Tryz.func143.trans (congrArg some (by kernel_rfl))⟩
  f25 := ⟨Tryz.f144.name, by decide, Tryz.func144.trans (congrArg some (by kernel_rfl))⟩
  f26 := ⟨Tryz.f145.name, by decide, Tryz.func145.trans (congrArg some (by kernel_rfl))⟩
  f27 := ⟨Tryz.f146.name, by decide, Tryz.func146.trans (congrArg some (by kernel_rfl))⟩
  f28 := ⟨Tryz.f147.name, by decide, Tryz.func147.trans (congrArg some (by kernel_rfl))⟩
  f29 := ⟨Tryz.f148.name, by decide, Tryz.func148.trans (congrArg some (by kernel_rfl))⟩
  f31 := Tryz.func176.trans (congrArg some (by kernel_rfl))
  f32 := Tryz.func177.trans (congrArg some (by kernel_rfl))
  f36 := ⟨Tryz.f175.name, by decide, Tryz.func175.trans (congrArg some (by kernel_rfl))⟩
  f37 := ⟨Tryz.f178.name, by decide, Tryz.func178.trans (congrArg some (by kernel_rfl))⟩
  f38 := ⟨Tryz.f179.name, by decide, Tryz.func179.trans (congrArg some (by kernel_rfl))⟩
  f39 := ⟨Tryz.f180.name, by decide, Tryz.func180.trans (congrArg some (by kernel_rfl))⟩
  f41 := ⟨Tryz.f195.name, by decide, Tryz.func195.trans (congrArg some (by kernel_rfl))⟩
  t0 := Tryz.underlying0
  a0 := Tryz.isAgg0
  z0 := Tryz.sizeOf0
  v0 := Tryz.zeroValue0
  t3 := Tryz.underlying3
  a3 := Tryz.isAgg3
  z3 := Tryz.sizeOf3
  v3 := Tryz.zeroValue3
  t4 := Tryz.underlying4
  a4 := Tryz.isAgg4
  z4 := Tryz.sizeOf4
  v4 := Tryz.zeroValue4
  t5 := Tryz.underlying5
  a5 := Tryz.isAgg5
  z5 := Tryz.sizeOf5
  v5 := Tryz.zeroValue5
  t9 := Tryz.underlying9
  a9 := Tryz.isAgg9
  z9 := Tryz.sizeOf9
  v9 := Tryz.zeroValue9
  t26 := Tryz.underlying41
  a26 := Tryz.isAgg41
  z26 := Tryz.sizeOf41
  v26 := Tryz.zeroValue41
  t27 := Tryz.underlying41
  a27 := Tryz.isAgg41
  z27 := Tryz.sizeOf41
  v27 := Tryz.zeroValue41
  t29 := Tryz.underlying9
  a29 := Tryz.isAgg9
  z29 := Tryz.sizeOf9
  v29 := Tryz.zeroValue9
  t32 := Tryz.underlying139
  a32 := Tryz.isAgg139
  z32 := Tryz.sizeOf139
  v32 := Tryz.zeroValue139
  t35 := Tryz.underlying175
  a35 := Tryz.isAgg175
  z35 := Tryz.sizeOf175
  v35 := Tryz.zeroValue175
  t36 := Tryz.underlying176
  a36 := Tryz.isAgg176
  z36 := Tryz.sizeOf176
  v36 := Tryz.zeroValue176
  t41 := Tryz.underlying98
  a41 := Tryz.isAgg98
  z41 := Tryz.sizeOf98
  v41 := Tryz.zeroValue98
  t44 := Tryz.underlying133
  a44 := Tryz.isAgg133
  z44 := Tryz.sizeOf133
  v44 := Tryz.zeroValue133
  t46 := Tryz.underlying102
  a46 := Tryz.isAgg102
  z46 := Tryz.sizeOf102
  v46 := Tryz.zeroValue102
  t53 := Tryz.underlying206
  a53 := Tryz.isAgg206
  z53 := Tryz.sizeOf206
  v53 := Tryz.zeroValue206
  t57 := Tryz.underlying210
  a57 := Tryz.isAgg210
  z57 := Tryz.sizeOf210
  v57 := Tryz.zeroValue210
  t63 := Tryz.underlying223
  a63 := Tryz.isAgg223
  z63 := Tryz.sizeOf223
  v63 := Tryz.zeroValue223
  t64 := Tryz.underlying224
  a64 := Tryz.isAgg224
  z64 := Tryz.sizeOf224
  v64 := Tryz.zeroValue224 }
end Go.Proofs
namespace Go.Proofs.YtmkomlbiaebddaaGreatDoor
open Go Go.RowKit
end Go.Proofs.YtmkomlbiaebddaaGreatDoor
namespace Go.Proofs
open Go.RowKit Go.Maps Go.Sort Go.Shelf
theorem YtmkomlbiaebddaaGreatDoor.sortsA (m : Nat) : AnyZ.SortsIn Tryz.prog Tryz.sortedA_ren Fence.wide m :=
 ⟨fun blk off cap ss W hH hblk hsz => callsIn_wide.2 (AnyM.slices_Sort_string Tryz.sortA blk off cap ss W hH hblk hsz),
  fun p cap W => callsIn_wide.2 (AnyM.slices_Sort_string_none Tryz.sortA p cap W)⟩
theorem YtmkomlbiaebddaaGreatDoor.sortedK (Bm b nn : Nat) (D0 : DataW Unit) (w : World) (hB : Bm < w.heap.size) (hc : w.cell? ⟨Bm, 0, none⟩ = some (.map (some b))) (ho : w.ownsMap Tryz.prog 9 YtmkomlbiaebddaaGreatDoor.Am.anyV b nn D0) (hmax : Maps.size D0 ≤ maxLen) (hb : Maps.size D0 * 16 ≤ 140737488355328) :
  Calls Tryz.prog 36 #[.func (.func 87) #[] #[.pointer (some ⟨Bm, 0, none⟩)]] w fun e w' => ∃ (v : Value) (ss : List (List UInt8)), e = .returned v ∧ ss.Perm (strKeys D0) ∧ w'.ownsRow w.heap.size 9 1 v ss.length ((ss.mergeSort (fun x y => decide (x ≤ y))).map encStr) ∧ (v = .slice none 0 0 ↔ ss = []) ∧ Below w.heap.size w w' := by
 have hseq : SeqGives Fence.wide 2 Tryz.prog 87 #[.pointer (some ⟨Bm, 0, none⟩)] encStr (fun ss => ss.Perm (strKeys D0)) (Maps.size D0) w :=
  AnyZ.keys_gives (ρ := Tryz.keysA_ren) { Tryz.keysA with } Fence.wide _ trivial rfl (by omega) Bm b nn D0 _ hB hc ho
 have cS := AnyZ.sorted_in Tryz.sortedA Fence.wide 5 trivial trivial trivial trivial rfl (by omega) (YtmkomlbiaebddaaGreatDoor.sortsA _) (enters_of Tryz.func86 (by kernel_rfl) rfl) 87 #[.pointer (some ⟨Bm, 0, none⟩)] trivial (enters_of Tryz.func87 (by kernel_rfl) rfl) _ _ hmax hb _ hseq
 exact (callsIn_wide (n := 5)).1 cS
end Go.Proofs
namespace Go.Proofs.YtmkomlbiaebddaaGreatDoor
open Go Go.RowKit
end Go.Proofs.YtmkomlbiaebddaaGreatDoor
