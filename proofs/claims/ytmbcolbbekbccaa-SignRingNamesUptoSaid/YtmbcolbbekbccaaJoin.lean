/- From a walk of a law to what is said of it: parts that all laws share. Conditions: as each theorem says. -/
import Derived.Test.YtmbcolbbekbccaaRows
import Derived.Test.YtmbcolbbekbccaaByt
import Derived.ProofKit
import Derived.OpenShut
import Derived.Carry
import Derived.JoinedCond
import Derived.ChangeMaps5
namespace Go.Proofs.Ytmbcolbbekbccaa
open Go Go.RowKit Go.ChangeShapes Go.WideShapes Go.ChangeAt

section
variable {H : Type} {enc : TypeId × Value → H} {P : Program} {W W' : World}
theorem ext_trodAll (hl : laidOutB P = true) (hx : Below W.heap.size W W') : ∀ {ts : List TypeId} {vs : List Value} {ds : List (DataW H)} {ps : List MemPlace}, ts.all (fun t => P.readableRec t && decide (t < P.types.size)) = true →
    DataW.TrodAll enc P W 0 (fun _ => true) true ts vs ds ps → (∀ x ∈ ps, x.block < W.heap.size) → DataW.TrodAll enc P W' 0 (fun b => decide (b < W.heap.size)) true ts vs ds ps
  | [], vs, ds, ps, _, h, _ => by
    obtain ⟨rfl, rfl, rfl⟩ := trodAll_nil h
    exact trodAll_mk0
  | t :: ts, vs, ds, ps, ha, h, hlt => by
    obtain ⟨v, vs', d, ds', p, q, rfl, rfl, rfl, h0, hr⟩ := trodAll_cons h
    simp only [List.all_cons, Bool.and_eq_true, decide_eq_true_eq] at ha
    exact trodAll_cons_mk (Below.trod hl ha.1.1 ha.1.2 h0 hx fun x hx => hlt x (List.mem_append.2 (.inl hx)))
      (ext_trodAll hl hx ha.2 hr fun x hx => hlt x (List.mem_append.2 (.inr hx)))
theorem trodAll_length : ∀ {ts : List TypeId} {vs : List Value} {ds : List (DataW H)} {ps : List MemPlace} {w : World} {b : Nat} {sp : Nat → Bool} {hd : Bool}, DataW.TrodAll enc P w b sp hd ts vs ds ps → vs.length = ts.length ∧ ds.length = ts.length
  | [], vs, ds, ps, _, _, _, _, h => by
    obtain ⟨rfl, rfl, rfl⟩ := trodAll_nil h
    exact ⟨rfl, rfl⟩
  | t :: ts, vs, ds, ps, _, _, _, _, h => by
    obtain ⟨v, vs', d, ds', p, q, rfl, rfl, rfl, h0, hr⟩ := trodAll_cons h
    have := trodAll_length hr
    simp [this.1, this.2]
/-- What a law's walk gives. -/
theorem law_post {f : Func} {s : ChangeSpec} {args : Array Value} {ds gs : List (DataW H)} {before : List MemPlace} {B : TypeId} {n : Nat} (hl : laidOutB P = true) (hv : s.vars = [])
    (hp : f.params.toList.all (fun t => P.readableRec t && decide (t < P.types.size)) = true) (hn : f.params.toList.length = n) (hB : P.underlying B = some .bool) (hr : f.resultTypes = #[B])
    (hfn : ∀ ds : List (DataW H), ds.length = n → (s.fn H (ds ++ [])).results = [.lit (.bool true)] ∧ (s.fn H (ds ++ [])).args = ds ∧ (s.fn H (ds ++ [])).vars = [])
    (hW : DataW.Whole enc P f.params.toList s.vars false W args.toList ds gs before) (hx : Ext W W') : s.post enc P f false true false false W args (.bool true) W' := by
  have hW' := hW
  obtain ⟨p, q, hA, hV, rfl, _, _⟩ := hW
  rw [hv] at hV
  obtain ⟨rfl, rfl⟩ := trodVars_none hV
  have hA : DataW.TrodAll enc P W 0 (fun _ => true) true f.params.toList args.toList ds p := hA
  have hlen := trodAll_length hA
  obtain ⟨f1, f2, f3⟩ := hfn ds (hlen.2.trans hn)
  refine ⟨ds, [], p ++ [], [], p, [], hW', ?_, ?_, ?_, Below.frame hx _, fun h => by cases h⟩
  · rw [f1, hr]
    exact trodAll_mk1 (shut_bool hB _)
  · rw [f2]
    exact ext_trodAll hl hx hp hA fun x hxp => by simpa using hW'.lt x (by simp [hxp])
  · rw [f3, hv]; exact rfl
/-! ### What the arguments are -/
variable {b0 : Nat} {T E : TypeId} {v : Value}
theorem ok_int {k : IntKind} (hu : P.underlying T = some (.int k)) (h : Value.okWide P W .any b0 T v) : ∃ n, v = .int k n ∧ k.has n := by
  simp only [Value.okWide, hu, Cell.okWide, Cell.ok] at h
  cases v <;> simp_all
theorem ok_cells {n : Nat} {ts : List TypeId} (hu : (∃ fs, P.underlying T = some (.struct fs)) ∨ ∃ m e, P.underlying T = some (.array m e)) (hc : P.cellsOf T = n) (ht : P.cellTypes P.depth T = some ts) (hn : ts.length = n) (h : Value.okWide P W .any b0 T v) :
    ∃ l : List Value, v = .agg l.toArray ∧ l.length = n ∧ ∀ (i : Nat) (u : Value), l[i]? = some u → ∃ t, ts[i]? = some t ∧ Cell.okWide P W .any b0 t u := by
  have h1 : ∃ cs, v = .agg cs ∧ cs.size = P.cellsOf T ∧ Row.okWide P W .any b0 T cs := by
    rcases hu with ⟨fs, hu⟩ | ⟨m, e, hu⟩ <;> simpa only [Value.okWide, hu] using h
  obtain ⟨cs, rfl, hsz, ts', ht', _, hall⟩ := h1
  rw [ht] at ht'
  obtain rfl : ts = ts' := Option.some.inj ht'
  refine ⟨cs.toList, by simp, by simpa [hc] using hsz, fun i u hi => ?_⟩
  have hlt : i < ts.length := by
    have := (List.getElem?_eq_some_iff.1 hi).1
    rw [hn, ← hc, ← hsz]; simpa using this
  obtain ⟨t, h2, h3⟩ := hall i u (by simpa using hi)
  rw [Nat.mod_eq_of_lt hlt] at h2
  exact ⟨t, h2, h3⟩
theorem cell_u64 {u : Value} (he : P.underlying E = some (.int .u64)) (h : Cell.okWide P W .any b0 E u) : ∃ x, u = .int .u64 x ∧ U x := by
  simp only [Cell.okWide, Cell.ok, he] at h
  cases u <;> simp_all
  rename_i k n
  obtain ⟨rfl, h1⟩ := h
  simp only [IntKind.has, Bool.and_eq_true, decide_eq_true_eq] at h1
  have e1 : IntKind.u64.min = 0 := by decide
  have e2 : IntKind.u64.max = 18446744073709551615 := by decide
  unfold U
  omega
theorem num_of {a b c d : Int} (ha : U a) (hb : U b) (hc : U c) (hd : U d) : ∃ A, A < two256 ∧ ([.int .u64 a, .int .u64 b, .int .u64 c, .int .u64 d] : List Value) = numL A := by
  refine ⟨val4 a b c d, ?_, ?_⟩
  · unfold val4 two256
    unfold U at *
    omega
  · refine numL_of ha hb hc hd ?_
    unfold val4
    unfold U at *
    omega
/-- A number of four words. -/
theorem ok_num (hu : P.underlying T = some (.array 4 E)) (he : P.underlying E = some (.int .u64)) (hc : P.cellsOf T = 4) (ht : P.cellTypes P.depth T = some [E, E, E, E]) (h : Value.okWide P W .any b0 T v) : ∃ A, A < two256 ∧ v = numV A := by
  obtain ⟨l, rfl, hl, hall⟩ := ok_cells (.inr ⟨4, E, hu⟩) hc ht rfl h
  obtain ⟨a, b, c, d, rfl⟩ : ∃ a b c d, l = [a, b, c, d] := by
    match l, hl with
    | [a, b, c, d], _ => exact ⟨a, b, c, d, rfl⟩
  have get : ∀ (i : Nat) (u : Value), [a, b, c, d][i]? = some u → ∃ x, u = .int .u64 x ∧ U x := fun i u hi => by
    obtain ⟨t, h1, h2⟩ := hall i u hi
    have : t = E := by
      match i, h1 with
      | 0, h1 => simpa using h1.symm
      | 1, h1 => simpa using h1.symm
      | 2, h1 => simpa using h1.symm
      | 3, h1 => simpa using h1.symm
      | i + 4, h1 => simp at h1
    subst this
    exact cell_u64 he h2
  obtain ⟨xa, rfl, ua⟩ := get 0 a rfl
  obtain ⟨xb, rfl, ub⟩ := get 1 b rfl
  obtain ⟨xc, rfl, uc⟩ := get 2 c rfl
  obtain ⟨xd, rfl, ud⟩ := get 3 d rfl
  obtain ⟨A, hA, e⟩ := num_of ua ub uc ud
  exact ⟨A, hA, by rw [e]⟩
theorem ok_words {n : Nat} (hu : (∃ fs, P.underlying T = some (.struct fs)) ∨ ∃ m e, P.underlying T = some (.array m e)) (he : P.underlying E = some (.int .u64)) (hc : P.cellsOf T = n) (ht : P.cellTypes P.depth T = some (List.replicate n E)) (h : Value.okWide P W .any b0 T v) :
    ∃ l : List Value, v = .agg l.toArray ∧ l.length = n ∧ ∀ u ∈ l, ∃ x, u = .int .u64 x ∧ U x := by
  obtain ⟨l, rfl, hl, hall⟩ := ok_cells hu hc ht (by simp) h
  refine ⟨l, rfl, hl, fun u hm => ?_⟩
  obtain ⟨i, hi⟩ := List.getElem?_of_mem hm
  obtain ⟨t, h1, h2⟩ := hall i u hi
  have := (List.mem_of_getElem? h1)
  rw [List.eq_of_mem_replicate this] at h2
  exact cell_u64 he h2
theorem words4 {a b c d : Value} (h : ∀ u ∈ [a, b, c, d], ∃ x, u = .int .u64 x ∧ U x) : ∃ A, A < two256 ∧ [a, b, c, d] = numL A := by
  obtain ⟨xa, rfl, ua⟩ := h a (by simp)
  obtain ⟨xb, rfl, ub⟩ := h b (by simp)
  obtain ⟨xc, rfl, uc⟩ := h c (by simp)
  obtain ⟨xd, rfl, ud⟩ := h d (by simp)
  exact num_of ua ub uc ud
/-- Three numbers. -/
theorem ok_num3 {M : TypeId} (hu : P.underlying T = some (.array 3 M)) (he : P.underlying E = some (.int .u64)) (hc : P.cellsOf T = 12) (ht : P.cellTypes P.depth T = some (List.replicate 12 E)) (h : Value.okWide P W .any b0 T v) :
    ∃ A B C, A < two256 ∧ B < two256 ∧ C < two256 ∧ v = .agg (numL A ++ (numL B ++ numL C)).toArray := by
  obtain ⟨l, rfl, hl, hall⟩ := ok_words (.inr ⟨3, M, hu⟩) he hc ht h
  match l, hl with
  | [a1, a2, a3, a4, b1, b2, b3, b4, c1, c2, c3, c4], _ =>
    obtain ⟨A, hA, eA⟩ := words4 (a := a1) (b := a2) (c := a3) (d := a4) fun u hm => hall u (by simp at hm ⊢; rcases hm with h | h | h | h <;> simp [h])
    obtain ⟨B, hB, eB⟩ := words4 (a := b1) (b := b2) (c := b3) (d := b4) fun u hm => hall u (by simp at hm ⊢; rcases hm with h | h | h | h <;> simp [h])
    obtain ⟨C, hC, eC⟩ := words4 (a := c1) (b := c2) (c := c3) (d := c4) fun u hm => hall u (by simp at hm ⊢; rcases hm with h | h | h | h <;> simp [h])
    exact ⟨A, B, C, hA, hB, hC, by rw [← eA, ← eB, ← eC]; rfl⟩
theorem ok_str {sp : Nat → Bool} {d : DataW H} {ps : List MemPlace} (hu : P.underlying T = some .string) (h : Value.okWide P W .any b0 T v) (hd : DataW.Trod enc P W 0 sp true T v d ps) : ∃ l : List UInt8, v = str l ∧ l.length ≤ 9223372036854775807 ∧ d = .lit (.string l) := by
  obtain ⟨s, rfl, rfl, rfl, hs⟩ := Go.ChangeMaps.open_string hu h hd
  refine ⟨s.data.toList, ?_, ?_, rfl⟩
  · show Value.string s = .string ⟨s.data.toList.toArray⟩
    simp
  · have : maxLen = 9223372036854775807 := by decide
    rw [← this, Array.length_toList]; exact hs
end
end Go.Proofs.Ytmbcolbbekbccaa
