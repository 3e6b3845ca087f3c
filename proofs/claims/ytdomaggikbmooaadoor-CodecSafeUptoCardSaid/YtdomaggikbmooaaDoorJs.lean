/- From a walk of a law to what is said of it: parts that the laws over texts share. Conditions: as each theorem says. -/
import Derived.Test.YtdomaggikbmooaaDoorRows
import Derived.Test.YtdomaggikbmooaaDoorTie
import Derived.Test.YtdomaggikbmooaaDoorCards
import Derived.Test.YtdomaggikbmooaaDoorPu
import Derived.ProofKit
import Derived.OpenShut
import Derived.Carry
import Derived.JoinedCond
import Derived.ChangeMaps5
import Derived.Deep.SlicePairs
import Derived.Deep.DeepHandedRow
import Derived.Lib.LaidTab
import Derived.SevenTiedAt
namespace Go.Proofs.YtdomaggikbmooaaDoor
open Go Go.RowKit Go.ChangeShapes Go.WideShapes Go.ChangeAt

section
variable {H : Type} {enc : TypeId × Value → H} {P : Program} {W W' : World}
theorem ext_trodAll (hl : laidOutB P = true) (hx : Below W.heap.size W W') : ∀ {ts : List TypeId} {vs : List Value} {ds : List (DataW H)} {ps : List MemPlace}, ts.all (fun t => P.readableRec t && decide (t < P.types.size)) = true →
    DataW.TrodAll enc P W 0 (fun _ => true) true ts vs ds ps → (∀ x ∈ ps, x.block < W.heap.size) → DataW.TrodAll enc P W' 0 (fun b => decide (b < W.heap.size)) true ts vs ds ps
  | [], vs, ds, ps, _, h, _ => by
    obtain ⟨rfl, rfl, rfl⟩ := trodAll_nil h
    exact trodAll_mk0
  | t :: ts, vs, ds, ps, ha, h, hlt => by
    obtain ⟨v, vs', d, ds', p, q, rfl, rfl, rfl, h0, hr⟩ := trodAll_cons h
    simp only [List.all_cons, Bool.and_eq_true, decide_eq_true_eq] at ha
    exact trodAll_cons_mk (Below.trod hl ha.1.1 ha.1.2 h0 hx fun x hx => hlt x (List.mem_append.2 (.inl hx)))
      (ext_trodAll hl hx ha.2 hr fun x hx => hlt x (List.mem_append.2 (.inr hx)))
theorem trodAll_length : ∀ {ts : List TypeId} {vs : List Value} {ds : List (DataW H)} {ps : List MemPlace} {w : World} {b : Nat} {sp : Nat → Bool} {hd : Bool}, DataW.TrodAll enc P w b sp hd ts vs ds ps → vs.length = ts.length ∧ ds.length = ts.length
  | [], vs, ds, ps, _, _, _, _, h => by
    obtain ⟨rfl, rfl, rfl⟩ := trodAll_nil h
    exact ⟨rfl, rfl⟩
  | t :: ts, vs, ds, ps, _, _, _, _, h => by
    obtain ⟨v, vs', d, ds', p, q, rfl, rfl, rfl, h0, hr⟩ := trodAll_cons h
    have := trodAll_length hr
    simp [this.1, this.2]
/-- What a law's walk gives. -/
theorem law_post {f : Func} {s : ChangeSpec} {args : Array Value} {ds gs : List (DataW H)} {before : List MemPlace} {B : TypeId} {n : Nat} (hl : laidOutB P = true) (hv : s.vars = [])
    (hp : f.params.toList.all (fun t => P.readableRec t && decide (t < P.types.size)) = true) (hn : f.params.toList.length = n) (hB : P.underlying B = some .bool) (hr : f.resultTypes = #[B])
    (hfn : ∀ ds : List (DataW H), ds.length = n → (s.fn H (ds ++ [])).results = [.lit (.bool true)] ∧ (s.fn H (ds ++ [])).args = ds ∧ (s.fn H (ds ++ [])).vars = [])
    (hW : DataW.Whole enc P f.params.toList s.vars false W args.toList ds gs before) (hx : Ext W W') : s.post enc P f false true false false W args (.bool true) W' := by
  have hW' := hW
  obtain ⟨p, q, hA, hV, rfl, _, _⟩ := hW
  rw [hv] at hV
  obtain ⟨rfl, rfl⟩ := trodVars_none hV
  have hA : DataW.TrodAll enc P W 0 (fun _ => true) true f.params.toList args.toList ds p := hA
  have hlen := trodAll_length hA
  obtain ⟨f1, f2, f3⟩ := hfn ds (hlen.2.trans hn)
  refine ⟨ds, [], p ++ [], [], p, [], hW', ?_, ?_, ?_, Below.frame hx _, fun h => by cases h⟩
  · rw [f1, hr]
    exact trodAll_mk1 (shut_bool hB _)
  · rw [f2]
    exact ext_trodAll hl hx hp hA fun x hxp => by simpa using hW'.lt x (by simp [hxp])
  · rw [f3, hv]; exact rfl
variable {b0 : Nat} {T E : TypeId} {v : Value}
theorem ok_str {sp : Nat → Bool} {d : DataW H} {ps : List MemPlace} (hu : P.underlying T = some .string) (h : Value.okWide P W .any b0 T v) (hd : DataW.Trod enc P W 0 sp true T v d ps) : ∃ l : List UInt8, v = str l ∧ l.length ≤ 9223372036854775807 ∧ d = .lit (.string l) := by
  obtain ⟨s, rfl, rfl, rfl, hs⟩ := Go.ChangeMaps.open_string hu h hd
  refine ⟨s.data.toList, ?_, ?_, rfl⟩
  · show Value.string s = .string ⟨s.data.toList.toArray⟩
    simp
  · have : maxLen = 9223372036854775807 := by decide
    rw [← this, Array.length_toList]; exact hs

/-! ### Slices of pairs of texts -/
theorem rowAt_le {fits : TypeId → Bool} : ∀ {d : Nat} {e : TypeId} {count off n : Nat}, rowAt P fits d e count off n = true → off ≤ count * P.cellsOf e
  | 0, _, _, _, _, h => by simp [rowAt] at h
  | d + 1, e, count, off, n, h => by
    unfold rowAt at h
    by_cases hs : P.cellsOf e = 0
    · simp [hs] at h
    · have hd := Nat.div_add_mod off (P.cellsOf e)
      have hm := Nat.mod_lt off (Nat.pos_of_ne_zero hs)
      simp only [hs, if_false, Bool.or_eq_true, Bool.and_eq_true, decide_eq_true_eq, beq_iff_eq] at h
      rcases h with ⟨⟨h1, h2⟩, _⟩ | ⟨h1, _⟩
      · have h3 : P.cellsOf e * (off / P.cellsOf e) ≤ P.cellsOf e * count := Nat.mul_le_mul_left _ (by omega)
        rw [Nat.mul_comm count]; omega
      · have h3 : P.cellsOf e * (off / P.cellsOf e + 1) ≤ P.cellsOf e * count := Nat.mul_le_mul_left _ (by omega)
        rw [Nat.mul_add, Nat.mul_one] at h3
        rw [Nat.mul_comm count]; omega
theorem liesAt_le : ∀ {d : Nat} {e : TypeId} {count off : Nat} {u : TypeId} {n : Nat}, liesAt P d e count off u n = true → off ≤ count * P.cellsOf e
  | 0, _, _, _, _, _, h => by simp [liesAt] at h
  | d + 1, e, count, off, u, n, h => by
    unfold liesAt at h
    rw [Bool.or_eq_true] at h
    rcases h with h | h
    · exact rowAt_le h
    · split at h
      · exact liesAt_le h
      · cases h
theorem ok_place {a : Addr} {len cap : Nat} (hu : P.underlying T = some (.slice E)) (h : Value.okWide P W .any b0 T (.slice (some a) len cap)) :
    a.spot = none ∧ ∃ cs R fz, W.heap[a.block]? = some (.cells cs R fz) ∧ a.off ≤ cs.size := by
  simp only [Value.okWide, Cell.okWide, Cell.ok, hu] at h
  obtain ⟨_, _, _, h2, row, cells, h3, h4⟩ := h
  refine ⟨h2, ?_⟩
  unfold World.shape? at h3
  split at h3
  · rename_i c elem fz hb
    simp only [Option.some.injEq, Prod.mk.injEq] at h3
    obtain ⟨rfl, rfl⟩ := h3
    have h5 := liesAt_le h4
    have h6 := Nat.div_mul_le_self c.size (P.cellsOf elem)
    exact ⟨c, _, fz, hb, by omega⟩
  · cases h3
theorem ok_slice (hu : P.underlying T = some (.slice E)) (h : Value.okWide P W .any b0 T v) : v = .slice none 0 0 ∨ ∃ a len cap, v = .slice (some a) len cap := by
  simp only [Value.okWide, Cell.okWide, Cell.ok, hu] at h
  cases v with
  | slice a len cap =>
    cases a with
    | none =>
      left
      cases len with
      | zero => cases cap with
        | zero => rfl
        | succ n => simp at h
      | succ n => simp at h
    | some a => exact .inr ⟨a, len, cap, rfl⟩
  | _ => simp at h
def bytesOf : Value → List UInt8
  | .string s => s.data.toList
  | _ => []
def pairsLen (xs : List (List UInt8 × List UInt8)) : Nat := (xs.map fun x => x.1.length + x.2.length + 3).sum
theorem bulk_app {l r : List (DataW H)} : Rows.uptoBulkAll (l ++ r) = Rows.uptoBulkAll l + Rows.uptoBulkAll r := by
  induction l with
  | nil => simp [Rows.uptoBulkAll]
  | cons x l ih => simp only [List.cons_append, Rows.uptoBulkAll, ih]; omega
theorem ok_pairs {F0 F1 : Field} {sp : Nat → Bool} {d : DataW H} {ps : List MemPlace} (hu : P.underlying T = some (.slice E)) (he : P.underlying E = some (.struct #[F0, F1])) (ce : P.cellsOf E = 2) (o0 : F0.offset = 0) (o1 : F1.offset = 1)
    (u0 : P.underlying F0.type = some .string) (u1 : P.underlying F1.type = some .string) (c0 : P.cellsOf F0.type = 1) (c1 : P.cellsOf F1.type = 1) (h : Value.okWide P W .any b0 T v) (hd : DataW.Trod enc P W 0 sp true T v d ps) :
    ∃ xs : List (List UInt8 × List UInt8), RdS (memOf W) v xs ∧ pairsLen xs ≤ Rows.uptoBulk d := by
  obtain ⟨fuel, hf⟩ := hd
  have hv := ok_slice hu h
  have hcells : v.cells.toList = [v] := by
    rcases hv with rfl | ⟨a, len, cap, rfl⟩ <;> rfl
  rw [hcells] at hf
  rcases Go.Deep.open_slice_pairs hu he ce o0 o1 c0 c1 hf with ⟨h1, h2⟩ | ⟨a, len, cap, m, n, V0, V1, D0, D1, P0, P1, h1, _, hlc, hmx, hm, h2, hx⟩
  · simp only [List.cons.injEq, and_true] at h1
    subst h1
    exact ⟨[], RdS.nil, Nat.zero_le _⟩
  · simp only [List.cons.injEq, and_true] at h1
    subst h1
    obtain ⟨hsp, cs, R, fz, hb, ho⟩ := ok_place hu h
    obtain ⟨blk, off, spot⟩ := a
    dsimp only at hsp hb ho
    subst hsp
    have hlm : len ≤ m := by rw [hm]; split <;> omega
    have each : ∀ i, i < len → cs.toList[off + i * 2]? = some (V0 i) ∧ cs.toList[off + i * 2 + 1]? = some (V1 i) ∧ V0 i = str (bytesOf (V0 i)) ∧ V1 i = str (bytesOf (V1 i)) ∧ D0 i = .lit (.string (bytesOf (V0 i))) ∧ D1 i = .lit (.string (bytesOf (V1 i))) := by
      intro i hi
      obtain ⟨g0, g1, g2, g3⟩ := hx i (by omega)
      obtain ⟨s0, e0, e0', _⟩ := DataW.trod_string u0 g2
      obtain ⟨s1, e1, e1', _⟩ := DataW.trod_string u1 g3
      simp only [List.cons.injEq, and_true] at e0 e1
      simp only [Prod.mk.injEq] at e0' e1'
      have ad : ∀ j, (⟨blk, off, none⟩ : Addr).add j = ⟨blk, off + j, none⟩ := fun j => by simp [Addr.add]
      rw [ad] at g0 g1
      simp only [World.cell?, hb, Option.isSome_none, if_neg (show ¬ (false = true) by decide)] at g0 g1
      refine ⟨by simpa using g0, by simpa [Nat.add_assoc] using g1, ?_, ?_, ?_, ?_⟩
      · rw [e0]; simp [bytesOf, str]
      · rw [e1]; simp [bytesOf, str]
      · rw [e0]; exact e0'.1
      · rw [e1]; exact e1'.1
    let xs : List (List UInt8 × List UInt8) := (List.range len).map fun i => (bytesOf (V0 i), bytesOf (V1 i))
    have hxl : xs.length = len := by simp [xs]
    have hfit : off + len * 2 ≤ cs.toList.length := by
      rcases Nat.eq_zero_or_pos len with h0 | h0
      · subst h0; rw [Array.length_toList]; omega
      · have := (List.getElem?_eq_some_iff.1 (each (len - 1) (by omega)).2.1).1; omega
    have key : ∀ k, k ≤ len → RL (memOf W) (piece cs.toList off (k * 2)) (xs.take k) := by
      intro k
      induction k with
      | zero => intro _; simp [piece, RL]
      | succ k ih =>
        intro hk
        obtain ⟨g0, g1, g2, g3, _, _⟩ := each k (by omega)
        have hxk : xs[k]? = some (bytesOf (V0 k), bytesOf (V1 k)) := by
          simp only [xs, List.getElem?_map, List.getElem?_range (show k < len by omega), Option.map_some]
        have e1 : xs.take (k + 1) = xs.take k ++ [(bytesOf (V0 k), bytesOf (V1 k))] := by
          rw [List.take_add_one, hxk]; rfl
        have e2 : piece cs.toList off ((k + 1) * 2) = piece cs.toList off (k * 2) ++ [V0 k, V1 k] := by
          rw [piece_eq, piece_eq, show (k + 1) * 2 = k * 2 + 2 by omega, List.take_add]
          congr 1
          have q1 : (cs.toList.drop off).drop (k * 2) = V0 k :: V1 k :: (cs.toList.drop (off + k * 2 + 2)) := by
            rw [List.drop_drop]
            have l0 := (List.getElem?_eq_some_iff.1 g0)
            have l1 := (List.getElem?_eq_some_iff.1 g1)
            rw [List.drop_eq_getElem_cons l0.1, l0.2, List.drop_eq_getElem_cons l1.1, l1.2]
          rw [q1]; rfl
        rw [e1, e2]
        refine RL.append (ih (by omega)) (RL.single ⟨[V0 k], [V1 k], rfl, ?_, ?_⟩)
        · show [V0 k] = [str (bytesOf (V0 k))]; rw [← g2]
        · show [V1 k] = [str (bytesOf (V1 k))]; rw [← g3]
    refine ⟨xs, ⟨piece cs.toList off (len * 2), ?_, ?_⟩, ?_⟩
    · right
      refine ⟨blk, off, cap, cs.toList, R, fz, ?_, by rw [hxl]; exact hlc, by simpa [memOf] using hb, ?_, ?_⟩
      · rw [hxl]
      · rw [hxl]; exact hfit
      · rw [hxl]; rfl
    · have := key len (Nat.le_refl _)
      rwa [List.take_of_length_le (by omega)] at this
    · simp only [Prod.mk.injEq] at h2
      rw [h2.1]
      have : ∀ k, k ≤ len → pairsLen (xs.take k) ≤ Rows.uptoBulkAll ((List.range k).map fun i => DataW.agg [D0 i, D1 i]) := by
        intro k
        induction k with
        | zero => intro _; simp [pairsLen]
        | succ k ih =>
          intro hk
          obtain ⟨_, _, _, _, g4, g5⟩ := each k (by omega)
          have hxk : xs[k]? = some (bytesOf (V0 k), bytesOf (V1 k)) := by
            simp only [xs, List.getElem?_map, List.getElem?_range (show k < len by omega), Option.map_some]
          have e1 : xs.take (k + 1) = xs.take k ++ [(bytesOf (V0 k), bytesOf (V1 k))] := by
            rw [List.take_add_one, hxk]; rfl
          rw [e1, List.range_succ, List.map_append, bulk_app]
          have := ih (by omega)
          simp only [pairsLen, List.map_append, List.sum_append, List.map_cons, List.map_nil, List.sum_cons, List.sum_nil, Rows.uptoBulkAll, Rows.uptoBulk, g4, g5] at this ⊢
          omega
      have := this len (Nat.le_refl _)
      rw [List.take_of_length_le (by omega)] at this
      simp only [Rows.uptoBulk]
      omega
def fldsOf (P : Program) (E : TypeId) : List (TypeId × Nat) := match P.underlying E with
  | some (.struct fs) => fs.toList.map fun f => (f.type, f.offset)
  | _ => []
theorem fields2 {E A : TypeId} (h : fldsOf P E = [(A, 0), (A, 1)]) : ∃ F0 F1 : Field, P.underlying E = some (.struct #[F0, F1]) ∧ F0.offset = 0 ∧ F1.offset = 1 ∧ F0.type = A ∧ F1.type = A := by
  unfold fldsOf at h
  split at h
  · rename_i fs hfs
    match hl : fs.toList, h with
    | [F0, F1], h =>
      have : fs = #[F0, F1] := by rw [← hl]
      subst this
      simp only [List.map_cons, List.map_nil, List.cons.injEq, Prod.mk.injEq, and_true] at h
      exact ⟨F0, F1, hfs, h.1.2, h.2.2, h.1.1, h.2.1⟩
    | [], h => simp at h
    | [_], h => simp at h
    | _ :: _ :: _ :: _, h => simp at h
  · cases h
theorem ok_parts {T E A : TypeId} {v : Value} {sp : Nat → Bool} {d : DataW H} {ps : List MemPlace} (hu : P.underlying T = some (.slice E)) (he : fldsOf P E = [(A, 0), (A, 1)]) (ce : P.cellsOf E = 2) (uA : P.underlying A = some .string) (cA : P.cellsOf A = 1)
    (h : Value.okWide P W .any b0 T v) (hd : DataW.Trod enc P W 0 sp true T v d ps) : ∃ xs : List (List UInt8 × List UInt8), RdS (memOf W) v xs ∧ pairsLen xs ≤ Rows.uptoBulk d := by
  obtain ⟨F0, F1, h0, o0, o1, t0, t1⟩ := fields2 he
  exact ok_pairs hu h0 ce o0 o1 (by rw [t0]; exact uA) (by rw [t1]; exact uA) (by rw [t0]; exact cA) (by rw [t1]; exact cA) h hd
theorem pairsLen_length (xs : List (List UInt8 × List UInt8)) : 3 * xs.length ≤ pairsLen xs := by
  induction xs with
  | nil => simp [pairsLen]
  | cons x xs ih => simp only [pairsLen, List.map_cons, List.sum_cons, List.length_cons] at *; omega
theorem pairsLen_mem {xs : List (List UInt8 × List UInt8)} {x : List UInt8 × List UInt8} (h : x ∈ xs) : x.1.length + x.2.length + 3 ≤ pairsLen xs := by
  induction xs with
  | nil => cases h
  | cons y xs ih =>
    simp only [pairsLen, List.map_cons, List.sum_cons] at *
    rcases List.mem_cons.1 h with rfl | h
    · omega
    · have := ih h; omega
end
end Go.Proofs.YtdomaggikbmooaaDoor
