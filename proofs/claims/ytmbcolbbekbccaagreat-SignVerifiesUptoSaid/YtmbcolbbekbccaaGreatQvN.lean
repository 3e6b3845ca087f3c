/- The law 'seneschallaw08.SignVerifies' holds of every input whose arguments hold together at most 1048576 values and letters. Conditions: the arguments' bulk is at most 1048576. -/
import Derived.Test.YtmbcolbbekbccaaGreatRows
import Derived.ProofKit
import Derived.OpenShut
import Derived.Carry
import Derived.JoinedCond
import Derived.ChangeMaps5
import Derived.Test.YtmbcolbbekbccaaGreatQvM
namespace Go.Proofs.YtmbcolbbekbccaaGreat
open Go Go.RowKit Go.ChangeShapes Go.WideShapes Go.ChangeAt
section
variable {H : Type} {enc : TypeId × Value → H} {P : Program} {W W' : World}
theorem ext_trodAll (hl : laidOutB P = true) (hx : Below W.heap.size W W') : ∀ {ts : List TypeId} {vs : List Value} {ds : List (DataW H)} {ps : List MemPlace}, ts.all (fun t => P.readableRec t && decide (t < P.types.size)) = true →
  DataW.TrodAll enc P W 0 (fun _ => true) true ts vs ds ps → (∀ x ∈ ps, x.block < W.heap.size) → DataW.TrodAll enc P W' 0 (fun b => decide (b < W.heap.size)) true ts vs ds ps
 | [], vs, ds, ps, _, h, _ => by
  obtain ⟨rfl, rfl, rfl⟩ := trodAll_nil h
  exact trodAll_mk0
 | t :: ts, vs, ds, ps, ha, h, hlt => by
  obtain ⟨v, vs', d, ds', p, q, rfl, rfl, rfl, h0, hr⟩ := trodAll_cons h
  simp only [List.all_cons, Bool.and_eq_true, decide_eq_true_eq] at ha
  exact trodAll_cons_mk (Below.trod hl ha.1.1 ha.1.2 h0 hx fun x hx => hlt x (List.mem_append.2 (.inl hx)))
   (ext_trodAll hl hx ha.2 hr fun x hx => hlt x (List.mem_append.2 (.inr hx)))
theorem trodAll_length : ∀ {ts : List TypeId} {vs : List Value} {ds : List (DataW H)} {ps : List MemPlace} {w : World} {b : Nat} {sp : Nat → Bool} {hd : Bool}, DataW.TrodAll enc P w b sp hd ts vs ds ps → vs.length = ts.length ∧ ds.length = ts.length
 | [], vs, ds, ps, _, _, _, _, h => by
  obtain ⟨rfl, rfl, rfl⟩ := trodAll_nil h
  exact ⟨rfl, rfl⟩
 | t :: ts, vs, ds, ps, _, _, _, _, h => by
  obtain ⟨v, vs', d, ds', p, q, rfl, rfl, rfl, h0, hr⟩ := trodAll_cons h
  have := trodAll_length hr
  simp [this.1, this.2]
theorem law_post {f : Func} {s : ChangeSpec} {args : Array Value} {ds gs : List (DataW H)} {before : List MemPlace} {B : TypeId} {n : Nat} (hl : laidOutB P = true) (hv : s.vars = [])
  (hp : f.params.toList.all (fun t => P.readableRec t && decide (t < P.types.size)) = true) (hn : f.params.toList.length = n) (hB : P.underlying B = some .bool) (hr : f.resultTypes = #[B])
  (hfn : ∀ ds : List (DataW H), ds.length = n → (s.fn H (ds ++ [])).results = [.lit (.bool true)] ∧ (s.fn H (ds ++ [])).args = ds ∧ (s.fn H (ds ++ [])).vars = [])
  (hW : DataW.Whole enc P f.params.toList s.vars false W args.toList ds gs before) (hx : Ext W W') : s.post enc P f false true false false W args (.bool true) W' := by
 have hW' := hW
 obtain ⟨p, q, hA, hV, rfl, _, _⟩ := hW
 rw [hv] at hV
 obtain ⟨rfl, rfl⟩ := trodVars_none hV
 have hA : DataW.TrodAll enc P W 0 (fun _ => true) true f.params.toList args.toList ds p := hA
 have hlen := trodAll_length hA
 obtain ⟨f1, f2, f3⟩ := hfn ds (hlen.2.trans hn)
 refine ⟨ds, [], p ++ [], [], p, [], hW', ?_, ?_, ?_, Below.frame hx _, fun h => by cases h⟩
 ·rw [f1, hr]
  exact trodAll_mk1 (shut_bool hB _)
 ·rw [f2]
  exact ext_trodAll hl hx hp hA fun x hxp => by simpa using hW'.lt x (by simp [hxp])
 ·rw [f3, hv]; exact rfl
variable {b0 : Nat} {T E : TypeId} {v : Value}
theorem ok_cells {n : Nat} {ts : List TypeId} (hu : (∃ fs, P.underlying T = some (.struct fs)) ∨ ∃ m e, P.underlying T = some (.array m e)) (hc : P.cellsOf T = n) (ht : P.cellTypes P.depth T = some ts) (hn : ts.length = n) (h : Value.okWide P W .any b0 T v) :
  ∃ l : List Value, v = .agg l.toArray ∧ l.length = n ∧ ∀ (i : Nat) (u : Value), l[i]? = some u → ∃ t, ts[i]? = some t ∧ Cell.okWide P W .any b0 t u := by
 have h1 : ∃ cs, v = .agg cs ∧ cs.size = P.cellsOf T ∧ Row.okWide P W .any b0 T cs := by
  rcases hu with ⟨fs, hu⟩ | ⟨m, e, hu⟩ <;> simpa only [Value.okWide, hu] using h
 obtain ⟨cs, rfl, hsz, ts', ht', _, hall⟩ := h1
 rw [ht] at ht'
 obtain rfl : ts = ts' := osi ht'
 refine ⟨cs.toList, by simp, by simpa [hc] using hsz, fun i u hi => ?_⟩
 have hlt : i < ts.length := by
  have := (List.getElem?_eq_some_iff.1 hi).1
  rw [hn, ← hc, ← hsz]; simpa using this
 obtain ⟨t, h2, h3⟩ := hall i u (by simpa using hi)
 rw [Nat.mod_eq_of_lt hlt] at h2
 exact ⟨t, h2, h3⟩
theorem cell_u64 {u : Value} (he : P.underlying E = some (.int .u64)) (h : Cell.okWide P W .any b0 E u) : ∃ x, u = .int .u64 x ∧ U x := by
 simp only [Cell.okWide, Cell.ok, he] at h
 cases u <;> simp_all
 rename_i k n
 obtain ⟨rfl, h1⟩ := h
 simp only [IntKind.has, Bool.and_eq_true, decide_eq_true_eq] at h1
 have e1 : IntKind.u64.min = 0 := by decide
 have e2 : IntKind.u64.max = 18446744073709551615 := by decide
 unfold U
 omega
theorem num_of {a b c d : Int} (ha : U a) (hb : U b) (hc : U c) (hd : U d) : ∃ A, A < two256 ∧ ([.int .u64 a, .int .u64 b, .int .u64 c, .int .u64 d] : List Value) = numL A := by
 refine ⟨val4 a b c d, ?_, ?_⟩
 ·unfold val4 two256
  unfold U at *
  omega
 ·refine numL_of ha hb hc hd ?_
  unfold val4
  unfold U at *
  omega
theorem words4 {a b c d : Value} (h : ∀ u ∈ [a, b, c, d], ∃ x, u = .int .u64 x ∧ U x) : ∃ A, A < two256 ∧ [a, b, c, d] = numL A := by
 obtain ⟨xa, rfl, ua⟩ := h a (by simp)
 obtain ⟨xb, rfl, ub⟩ := h b (by simp)
 obtain ⟨xc, rfl, uc⟩ := h c (by simp)
 obtain ⟨xd, rfl, ud⟩ := h d (by simp)
 exact num_of ua ub uc ud
theorem ok_str {sp : Nat → Bool} {d : DataW H} {ps : List MemPlace} (hu : P.underlying T = some .string) (h : Value.okWide P W .any b0 T v) (hd : DataW.Trod enc P W 0 sp true T v d ps) : ∃ l : List UInt8, v = str l ∧ l.length ≤ 9223372036854775807 ∧ d = .lit (.string l) := by
 obtain ⟨s, rfl, rfl, rfl, hs⟩ := Go.ChangeMaps.open_string hu h hd
 refine ⟨s.data.toList, ?_, ?_, rfl⟩
 ·show Value.string s = .string ⟨s.data.toList.toArray⟩
  simp
 ·have : maxLen = 9223372036854775807 := by decide
  rw [← this, Array.length_toList]; exact hs
end
end Go.Proofs.YtmbcolbbekbccaaGreat
namespace Go.Proofs.YtmbcolbbekbccaaGreat
open Go Go.RowKit Go.ChangeShapes Go.WideShapes Go.ChangeAt
variable {P : Program} {W : World} {b0 : Nat} {T E B : TypeId} {v : Value}
theorem cell_bool {u : Value} (he : P.underlying E = some .bool) (h : Cell.okWide P W .any b0 E u) : ∃ x, u = .bool x := by
 simp only [Cell.okWide, Cell.ok, he] at h
 cases u <;> simp_all
theorem ok_point (hu : P.underlying T = some (.struct (fieldsOf P T))) (he : P.underlying E = some (.int .u64)) (hb : P.underlying B = some .bool) (hc : P.cellsOf T = 9) (ht : P.cellTypes P.depth T = some [E, E, E, E, E, E, E, E, B]) (h : Value.okWide P W .any b0 T v) :
  ∃ p : Ap, AL p ∧ v = .agg (ptT p).toArray := by
 obtain ⟨l, rfl, hl, hall⟩ := ok_cells (.inl ⟨_, hu⟩) hc ht rfl h
 match l, hl with
 | [a1, a2, a3, a4, b1, b2, b3, b4, i], _ =>
  have get : ∀ (k : Nat) (u : Value), [a1, a2, a3, a4, b1, b2, b3, b4, i][k]? = some u → k < 8 → ∃ x, u = .int .u64 x ∧ U x := fun k u hi hk => by
   obtain ⟨t, h1, h2⟩ := hall k u hi
   have : t = E := by
    match k, h1, hk with
    | 0, h1, _ | 1, h1, _ | 2, h1, _ | 3, h1, _ | 4, h1, _ | 5, h1, _ | 6, h1, _ | 7, h1, _ => simpa using h1.symm
   subst this
   exact cell_u64 he h2
  obtain ⟨A, hA, eA⟩ := words4 (a := a1) (b := a2) (c := a3) (d := a4) fun u hm => by
   simp at hm
   rcases hm with rfl | rfl | rfl | rfl
   ·exact get 0 _ rfl (by decide)
   ·exact get 1 _ rfl (by decide)
   ·exact get 2 _ rfl (by decide)
   ·exact get 3 _ rfl (by decide)
  obtain ⟨B', hB, eB⟩ := words4 (a := b1) (b := b2) (c := b3) (d := b4) fun u hm => by
   simp at hm
   rcases hm with rfl | rfl | rfl | rfl
   ·exact get 4 _ rfl (by decide)
   ·exact get 5 _ rfl (by decide)
   ·exact get 6 _ rfl (by decide)
   ·exact get 7 _ rfl (by decide)
  obtain ⟨t, h1, h2⟩ := hall 8 i rfl
  obtain rfl : t = B := by simpa using h1.symm
  obtain ⟨j, rfl⟩ := cell_bool hb h2
  exact ⟨(A, B', j), ⟨hA, hB⟩, by
   show _ = Value.agg (ptL A B' j).toArray
   rw [ptL, ← eA, ← eB]; rfl⟩
end Go.Proofs.YtmbcolbbekbccaaGreat
namespace Go.Proofs.YtmbcolbbekbccaaGreat
open Go Go.RowKit Go.ChangeShapes Go.WideShapes Go.ChangeAt
attribute [local irreducible] Value.okWide
theorem own_signVerifies : ownKnob Tryz.prog.godebug = none := by kernel_rfl
theorem contract_signVerifies (H : Type) (enc : TypeId × Value → H) (W : World) (base : Nat) (args : Array Value) (ds gs : List (DataW H)) (before : List MemPlace)
  (hval : ∀ (j : Nat) t v, Tryz.f5.params[j]? = some t → args[j]? = some v → Value.okWide Tryz.prog W .any base t v)
  (hW : DataW.Whole enc Tryz.prog Tryz.f5.params.toList Rows.signVerifiesSpec.vars false W args.toList ds gs before) (hk : Rows.uptoSmall H (ds ++ gs) = true) :
  Calls Tryz.prog 5 args W fun e W' => ∃ v, e = .returned v ∧ Rows.signVerifiesSpec.post enc Tryz.prog Tryz.f5 false true false false W args v W' := by
 have hW' := hW
 obtain ⟨p, q, hA0, hV, rfl, _, _⟩ := hW
 have hA : DataW.TrodAll enc Tryz.prog W 0 (fun _ => true) true Tryz.f5.params.toList args.toList ds p := hA0
 rw [Tryz.params5] at hA hval
 obtain ⟨v0, vs0, d0, ds0, p0, q0, hargs, rfl, rfl, t0, r0⟩ := trodAll_cons hA
 obtain ⟨v1, vs1, d1, ds1, p1, q1, rfl, rfl, rfl, t1, r1⟩ := trodAll_cons r0
 obtain ⟨v2, vs2, d2, ds2, p2, q2, rfl, rfl, rfl, t2, r2⟩ := trodAll_cons r1
 obtain ⟨rfl, rfl, rfl⟩ := trodAll_nil r2
 obtain rfl : args = #[v0, v1, v2] := by cases args; simp_all
 obtain ⟨rfl, rfl⟩ := trodVars_none hV
 obtain ⟨p0, hp0, rfl⟩ := ok_point (E := 22) (B := 4) (by kernel_rfl) (show Tryz.prog.underlying 22 = some (.int .u64) by kernel_rfl) (show Tryz.prog.underlying 4 = some .bool by kernel_rfl) (by kernel_rfl) (by kernel_rfl) (hval 0 26 v0 rfl rfl)
 obtain ⟨l1, rfl, hl1, e1⟩ := ok_str (show Tryz.prog.underlying 9 = some .string by kernel_rfl) (hval 1 9 v1 rfl rfl) t1
 obtain ⟨l2, rfl, hl2, e2⟩ := ok_str (show Tryz.prog.underlying 9 = some .string by kernel_rfl) (hval 2 9 v2 rfl rfl) t2
 rw [e1, e2] at hk
 simp only [List.cons_append, List.nil_append, List.append_nil, Rows.uptoSmall, decide_eq_true_eq, Rows.uptoBulkAll, Rows.uptoBulk] at hk
 refine (signVerifies_w p0 hp0 l1 l2 (by omega) (by omega) W).mono fun e W' ⟨he, hx⟩ => ?_
 subst he
 refine ⟨_, rfl, law_post (B := 4) (n := 3) (by kernel_rfl) rfl (by kernel_rfl) (by kernel_rfl) (by kernel_rfl) (by kernel_rfl) (fun ds hds => ?_) hW' hx⟩
 match ds, hds with
 | [x0, x1, x2], _ => exact ⟨rfl, rfl, rfl⟩
set_option maxRecDepth 100000 in
theorem lifted_signVerifies (os : Os) (started : os.Started) (H : Type) (enc : TypeId × Value → H) (F : Stop.Interp) :
  ReturnsInHanded {} Tryz.checked os 5 .any ((Rows.OpenSpec.upto Rows.signVerifiesSpec).pre6 enc Tryz.prog Tryz.f5 Rows.signVerifiesUptoRow.domain false) (((Rows.OpenSpec.upto Rows.signVerifiesSpec).at F).post enc Tryz.prog Tryz.f5 false true false false) := by
 refine returnsInHanded_of_cond (C := Tryz.checked) (s := Rows.OpenSpec.upto Rows.signVerifiesSpec) (k := Rows.uptoSmall) rfl own_signVerifies started (by kernel_rfl) Tryz.func5
  (OpenSpec.witness (enc := enc) (C := Tryz.checked) (s := Rows.OpenSpec.upto Rows.signVerifiesSpec) (k := Rows.uptoSmall) rfl false ⟨#[], #[.agg #[.int .u64 0, .int .u64 0, .int .u64 0, .int .u64 0, .int .u64 0, .int .u64 0, .int .u64 0, .int .u64 0, .bool false], .string ⟨#[]⟩, .string ⟨#[]⟩], []⟩ 8 (by kernel_rfl) (by kernel_rfl) (by kernel_rfl)
   (x := ([.agg [.agg [.lit (.int .u64 0), .lit (.int .u64 0), .lit (.int .u64 0), .lit (.int .u64 0)], .agg [.lit (.int .u64 0), .lit (.int .u64 0), .lit (.int .u64 0), .lit (.int .u64 0)], .lit (.bool false)], .lit (.string []), .lit (.string [])], [], [])) (by kernel_rfl) rfl (by kernel_rfl)) ?_
 intro W base args ds gs before hval hW _ hk _
 exact contract_signVerifies H enc W base args ds gs before hval hW hk
theorem signVerifies_said : Rows.SignVerifiesUptoSaid :=
 OpenClaim.holds_of_cond 5 Tryz.f5 rfl rfl rfl rfl rfl rfl rfl ⟨rfl, rfl, rfl, rfl, rfl⟩ rfl rfl rfl rfl rfl (by kernel_rfl) Tryz.func5 (by kernel_rfl)
  (of_decide_eq_true (by kernel_rfl)) (by unfold Func.isWrapper; first | (rw [if_pos (by decide +kernel)]; kernel_rfl) | (rw [if_neg (by decide +kernel)]; exact ⟨rfl, rfl⟩))
  (fun os started H enc _ F => lifted_signVerifies os started H enc F)
end Go.Proofs.YtmbcolbbekbccaaGreat
